/- A program logic of my own over the kit: part W1. It needs no conditions. -/
import Derived.Test.YtknekjalbninmaaGreatB1
set_option linter.all false
namespace Go.V
variable [Dr] [Ov]
open Go.RowKit
def Xz(P:Program)(all:List Oper)(m:Nat)(o:Oper):List Oper->St->(St->Prop)->Prop
 | [],st,K=>yz P o st K
 |x::r,st,K=>yp x.dst st.n=true/\wj P all x st (λs=>ah.lo m s/\Xz P all m o r (st.put x.dst s) K)
section
variable {P:Program} {X:Nat->Prop} {w0:bz} {st:St} {β:Nat->Value} {a:Act} {w w':World} {all:List Oper}
theorem TC{m:Nat}{o:Oper}:∀ {l:List Oper} {st:St} {K:St->Prop},Xz P all m o l st K->∃ ss,ff P all l ss st/\(∀ s∈ss,ah.lo m s)/\yz P o (bL l ss st) K
 | [],st,K,h=>⟨[],rfl,by simp,h⟩
 |x::r,st,K,h=>by
  simp only[Xz] at h;obtain⟨H,h⟩:=h;obtain⟨s,G,F,E⟩:=JB h;obtain⟨ss,q1,q2,q3⟩:=TC E;refine⟨s::ss,⟨s,ss,rfl,H,G,q1⟩,?_,q3⟩
  intro u J;rcases nE.1 J with e | J
  .subst e;exact F
  .exact q2 u J
theorem TD(E:P.follows .mixedOrders=true){id:Nat}{bJ:List Oper}{o:Oper}(V:yO (bJ++[o])=true)(K:vF (bJ++[o]) bJ.length=true)(hg:o.guard=none){Q:DE->St->Prop}
  (G:(st.own.map (·.1)).Nodup) (h:Xz P (bJ++[o]) st.next o bJ st (Q .normal)):aT P (.region id (bJ++[o]).toArray true) Q st:=by
 refine JK E V ?_
 obtain⟨ss,Y,B,hd⟩:=TC h
 have J:=JC Y
 have L:∀ i k,(Seg.kd ⟨bJ++[o],0,bJ.length,ss.map .val,st,λ_=>st.own⟩ i)=some k->∃ s,ss[i]?=some s/\k = .val s:=by
  intro i k hk;unfold Seg.kd at hk;split at hk
  .simp only[sq,pC] at hk
   cases hs:ss[i]? with
   |none=>rw[hs] at hk;cases hk
   |some s=>rw[hs] at hk;simp at hk;exact⟨s,rfl,hk.symm⟩
  .cases hk
 have H:∀ t,¬(Seg.U ⟨bJ++[o],0,bJ.length,ss.map .val,st,λ_=>st.own⟩ t):=by
  rintro t ⟨i,ob,y,k,_,hk,_,hm⟩
  obtain⟨s,_,rfl⟩:=L i k hk;cases hm
 have M:∀ i id ob,Seg.kd ⟨bJ++[o],0,bJ.length,ss.map .val,st,λ_=>st.own⟩ i≠some (.eh id ob):=by
  intro i id ob hk;obtain⟨s,_,e⟩:=L i _ hk;cases e
 have F:∀ i,Seg.zU ⟨bJ++[o],0,bJ.length,ss.map .val,st,λ_=>st.own⟩ i=bL ((bJ++[o]).take i) (ss.take i) st:=by
  intro i;unfold Seg.zU;have C:(ss.map FK.val).map FK.sym=ss:=by
   rw[rW];have:(FK.sym∘FK.val)=λs=>s:=rfl
   rw[this,AM]
  simp only[p_,sq];rw[C]
 have Z:∀ i,i<=bJ.length->(bJ++[o]).take i=bJ.take i:=λi hi=>by rw[o_ hi]
 refine eR.ic (pos:=0) (hi:=bJ.length) (ss.map .val) (λ_=>st.own) [] st.own ?_ ?_ (.inl K) ?_
 .refine⟨V,⟨nU _,by simp,by simp[J]⟩,λt _ _ h=>absurd h (H t),λi t ob m h=>absurd ⟨i,ob,h⟩ (H t),λi j id ob ob' h=>absurd h (M i id ob),λ_ id ob h=>⟨h,λi ob hk=>absurd hk (M i id ob)⟩,?_⟩
  intro i y k hy hk;obtain⟨s,hs,rfl⟩:=L i k hk;have hi:i<bJ.length:=by
   have:=(nN.1 hs).1
   omega
  have I:bJ[i]?=some y:=by
   have:(bJ++[o])[i]?=bJ[i]?:=pl hi
   rw[<-this];exact hy
  obtain⟨s',A,S,W⟩:=Ut Y I;rw[hs] at A;cases A;refine⟨S,λt _=>H t,?_,B s (ol hs)⟩
  show eI P (bJ++[o]) y (Seg.zU ⟨bJ++[o],0,bJ.length,ss.map .val,st,λ_=>st.own⟩ i) s
  rw[F,Z i (by omega)]
  exact W
 .refine⟨λt ob h=>by simp at h,by simp,rfl,λ_ id ob h=>.inr ⟨?_,λi ob=>M i id ob⟩⟩
  have O:∀ {l:List (Nat×am)},(l.map (·.1)).Nodup->(id,ob)∈l->zc l id=some ob:=by
   intro l;induction l with
   |nil=>intro _ h;cases h
   |cons x r ih=>
    intro hn h;obtain⟨k,u⟩:=x;simp only[nK,oE] at hn;simp only[zc];rcases nE.1 h with e | h
    .cases e;simp
    .have H0:k≠id:=by intro e;subst e;exact hn.1 (nS.2 ⟨_,h,rfl⟩)
     rw[ge H0];exact ih hn.2 h
  exact O G h
 .have T:Seg.ck ⟨bJ++[o],0,bJ.length,ss.map .val,st,λ_=>st.own⟩ [] st.own=bL bJ ss st:=by
   unfold Seg.ck;simp only[F,Z bJ.length (nJ _),nH];have H1:ss.take bJ.length=ss:=by rw[oa (by omega)]
   obtain⟨p1,p2,p3,p4,p5⟩:=Xu bJ ss st;rw[H1];simp only[pc,rf,vi,qA,oP];cases hp:bL bJ ss st with
   |mk n next af own ai aA=>
    rw[hp] at p1 p2 p3 p4 p5;simp only at p1 p2 p3 p4 p5
    subst p1;subst p2;subst p3;subst p4;subst p5;rfl
  rw[T];refine eR.mG (Q .normal) (by simp) (.inr (by simp)) ?_ ?_
  .intro X w0 β a w hm N Q' hN
   unfold wpOp;have:(bJ++[o]).toArray[bJ.length]?=some o:=by simp
   rw[this];simp only[Region.wanted,hg,oV];exact .inl (wi hm hd N _ λa' w' st' β' hk H2=>hN a' w' st' β' hk H2)
  .intro st' hK
   have:bJ.length+1=(bJ++[o]).length:=by simp
   rw[this];exact .done hK
end
attribute [simp] Xz
end Go.V
namespace Go.V
def XA(l:List (Nat×ah)):Bool:=l.all λx=>Nat.blt (x.1+1) 4096
end Go.V
namespace Go.V
variable [Dr] [Ov]
open Go.RowKit
def UC:List (Nat×ah)->Tr
 | []=>.fw
 |(t,s)::r=>(UC r).put iI t s
def dt(st:St):XS:=⟨st.n,st.next,UC st.af,st.own,st.ai,st.aA⟩
theorem TE:∀ {l:List (Nat×ah)} {u:Nat},XA l=true->Tr.get iI (UC l) u=zc l u
 | [],u,h=>Tr.Vg iI u
 |(t,s)::r,u,h=>by
  simp only[XA,Ch,nI] at h;have H:t+1<4096:=by simpa using h.1
  simp only[UC,zc];rw[Tr.eX iI _ t s u (by simpa[iI] using H),TE (l:=r) h.2]
theorem BQ{st:St}(h:XA st.af=true):Ag st (dt st) where
 n:=rfl
 next:=rfl
 own:=rfl
 ai:=rfl
 aA:=λ_ _ h=>h
 af:=λt=>(TE h).symm
section
variable {P:Program} {Γ:XG} {call:dH}
end
end Go.V
namespace Go.V
variable [Dr] [Ov]
open Go.RowKit
def qL(S:St)(Q:DE->St->Prop):DE->St->Prop
 |.normal,st=>dx st S
 |e,st=>Q e st
def yo:Nat->Code->Code
 |0,_=>.skip
 |n+1,.seq a b=>.seq a (yo n b)
 |_+1,c=>c
def uE:Nat->Code->Bool
 |0,_=>true
 |n+1,.seq _ b=>uE n b
 |_+1,_=>false
def yK:Nat->Code->Code
 |0,c=>c
 |n+1,.seq _ b=>yK n b
 |_+1,_=>.skip
section
variable {P:Program} {st:St} {Q:DE->St->Prop}
theorem ZH{id:Nat}{c:Code}(h:aT P c (jD id Q) st):aT P (.block id c) Q st:=by
 intro X w0 β a w G
 refine wp_block (wp_mono (h X w0 β a w G) ?_)
 rintro e a' w' ⟨de,st',β',F,E,H⟩
 cases e <;> cases de <;> simp only[yq] at F
 .exact⟨.normal,st',β',trivial,E,H⟩
 .subst F
  simp only[jD] at E;simp only[Exit.inBlock];split
  .rename_i e;rw[gt e] at E;exact⟨.normal,st',β',trivial,E,H⟩
  .rename_i e;rw[ge e] at E;exact⟨.exit _,st',β',rfl,E,H⟩
 .exact⟨.ret,st',β',trivial,E,H⟩
theorem XB{x y:Code}(h:aT P x (JF P y Q) st)(H:P.follows .mixedOrders=true):aT P (.seq x y) Q st:=by
 intro X w0 β a w F
 refine wp_seq (wp_mono (h X w0 β a w F) ?_)
 rintro e a' w' ⟨de,st',β',E,K,G⟩
 cases e <;> cases de <;> simp only[yq] at E
 .exact bF H K X w0 β' a' w' G
 .subst E;exact⟨.exit _,st',β',rfl,K,G⟩
 .exact⟨.ret,st',β',trivial,K,G⟩
theorem JL{x y:Code}(S:St)(h:aT P x (qL S Q) st)(G:aT P y Q S):aT P (.seq x y) Q st:=by
 intro X w0 β a w F
 refine wp_seq (wp_mono (h X w0 β a w F) ?_)
 rintro e a' w' ⟨de,st',β',E,K,H⟩
 cases e <;> cases de <;> simp only[yq] at E
 .exact G X w0 β' a' w' (H.dY K)
 .subst E;exact⟨.exit _,st',β',rfl,K,H⟩
 .exact⟨.ret,st',β',trivial,K,H⟩
theorem jb(H:P.follows .mixedOrders=true)(n:Nat){c:Code}(S:St)(hs:uE n c=true):∀ {st:St},ev P (yo n c) (qL S Q) st->aT P (yK n c) Q S->aT P c Q st:=by
 induction n generalizing c with
 |zero=>
  intro st h F X w0 β a w E;exact F X w0 β a w (E.dY h)
 |succ n ih=>
  intro st h F;cases c <;> simp only[yo,yK,uE,reduceCtorEq] at h F hs
  case seq x y=>
   intro X w0 β a w E;simp only[ev] at h;refine wp_seq (wp_mono (bF H h X w0 β a w E) ?_)
   rintro e a' w' ⟨de,st',β',K,J,G⟩
   cases e <;> cases de <;> simp only[yq] at K
   .exact ih hs J F X w0 β' a' w' G
   .subst K;exact⟨.exit _,st',β',rfl,J,G⟩
   .exact⟨.ret,st',β',trivial,J,G⟩
def UD(S:St)(p:Prop)(Q:DE->St->Prop):DE->St->Prop
 |.normal,st=>p/\dx st S
 |e,st=>Q e st
theorem zsp(H:P.follows .mixedOrders=true)(n:Nat){c:Code}(S:St)(p:Prop)(hs:uE n c=true):∀ {st:St},ev P (yo n c) (UD S p Q) st->(p->aT P (yK n c) Q S)->aT P c Q st:=by
 induction n generalizing c with
 |zero=>
  intro st h F X w0 β a w E;exact F h.1 X w0 β a w (E.dY h.2)
 |succ n ih=>
  intro st h F;cases c <;> simp only[yo,yK,uE,reduceCtorEq] at h F hs
  case seq x y=>
   intro X w0 β a w E;simp only[ev] at h;refine wp_seq (wp_mono (bF H h X w0 β a w E) ?_)
   rintro e a' w' ⟨de,st',β',K,J,G⟩
   cases e <;> cases de <;> simp only[yq] at K
   .exact ih hs J F X w0 β' a' w' G
   .subst K;exact⟨.exit _,st',β',rfl,J,G⟩
   .exact⟨.ret,st',β',trivial,J,G⟩
theorem zfk{S:St}{p:Prop}:UD S p Q .normal st=(p/\dx st S):=rfl
theorem zmo{S:St}{p:Prop}(i:Nat):UD S p Q (.exit i) st=Q (.exit i) st:=rfl
theorem zqh{S:St}{p:Prop}:UD S p Q .ret st=Q .ret st:=rfl
theorem za3{f:Nat}{fn:Func}{c:Code}(F:P.funcs[f]?=some fn)(E:fn.body=some c)(H:aN P f=true)
  {args:List ah} {own:List (Nat×am)} {n:Nat} {s:ah} {nx:Nat} {own':List (Nat×am)} {mv:List Nat} (K:ah.a_ n args)
  (h:aT P c (cJ (fF P fn.results.toList n s nx own' mv)) (cz fn.ntmps args own n)):aU P f args own n s nx own' mv:=by
 refine⟨H,λX w0 β w vs hβ J hs=>?_⟩
 refine calls_of_wp F E ?_
 refine wp_mono (h X w0 _ _ w (J.cz hs K)) ?_
 rintro e a' w' ⟨de,st',β',L,M,G⟩
 cases e <;> cases de <;> simp only[yq] at L
 .obtain⟨v,O,Q,T,V⟩:=uD J.defers G M
  exact⟨G.defers.trans J.defers.symm,v,O,β',v,rfl,Q,T,V⟩
 .exact M.elim
 .obtain⟨v,O,Q,T,V⟩:=uD J.defers G M
  exact⟨G.defers.trans J.defers.symm,v,O,β',v,rfl,Q,T,V⟩
theorem BR{f:Nat}{fn:Func}{c:Code}(F:P.funcs[f]?=some fn)(K:fn.body=some c)(G:aN P f=true){args:List D}{r:D}
  (h:aT P c (cJ (eF P fn.results.toList r)) (ct fn.ntmps args)):aq P f args r:=by
 refine⟨G,λw E vs J L=>?_⟩
 refine calls_of_wp F K ?_
 refine wp_mono (h E (.of w) _ _ w (ax.iM J L)) ?_
 rintro e a' w' ⟨de,st',β',M,O,H⟩
 cases e <;> cases de <;> simp only[yq] at M
 .obtain⟨v,Q,T⟩:=kT H O
  exact⟨H.defers,v,Q,v,rfl,H.below.below,T⟩
 .exact O.elim
 .obtain⟨v,Q,T⟩:=kT H O
  exact⟨H.defers,v,Q,v,rfl,H.below.below,T⟩
theorem lJ{n:Int}(h : -9223372036854775808<=n/\n<=9223372036854775807):IntKind.i64.wrap n=n:=IntWalk.i64_in n (by omega)
theorem TF(J:P.follows .mixedOrders=true){α:Type}{c:Code}{Q:DE->St->Prop}(S:α->St)(inv:α->Prop)(μ:α->Nat)(x0:α)(Y:inv x0)(Z:dx st (S x0))
  (A:∀ x,inv x->aT P c (dB S inv μ x Q) (S x)):aT P (.loop c) Q st:=by
 intro X w0 β a w B
 let I:Nat->Act->World->Prop:=λn a w=>∃ x β,inv x/\μ x=n/\ax X w0 (S x) β a w
 have key:∀ a w,(∃ n,I n a w)->∃ n,I n a w/\∀ m,I m a w->n<=m:=by
  intro a w ⟨n,C⟩;induction n using Nat.strongRecOn with
  |_ n ih=>
   by_cases h:∃ m,m<n/\I m a w
   .obtain⟨m,N,W⟩:=h;exact ih m N W
   .exact⟨n,C,λm B=>by rcases pe m n with h' | h';exact absurd ⟨m,h',B⟩ h;exact h'⟩
 classical
 let M:Act->World->Nat:=λa w=>if h:∃ n,I n a w then Classical.choose (key a w h) else 0
 refine wp_loop (λa w=>∃ n,I n a w) M ⟨_,x0,β,Y,rfl,B.dY Z⟩ ?_
 intro a w hI
 have G:=rv (key a w hI)
 have hM:M a w=Classical.choose (key a w hI):=si hI
 rw[<-hM] at G
 obtain⟨⟨x,β',hx,hμ,L⟩,O⟩:=G
 refine wp_mono (A x hx X w0 β' a w L) ?_
 rintro e a' w' ⟨de,st',β'',he,hq,H⟩
 cases e <;> cases de <;> simp only[yq] at he
 .obtain⟨y,hy,V,E⟩:=hq
  have F:∃ n,I n a' w':=⟨μ y,y,β'',hy,rfl,H.dY E⟩
  refine⟨F,?_⟩
  have K:=rv (key a' w' F);have T:M a' w'=Classical.choose (key a' w' F):=si F
  rw[<-T] at K;have:=K.2 (μ y) ⟨y,β'',hy,rfl,H.dY E⟩
  omega
 .subst he;exact⟨.exit _,st',β'',rfl,hq,H⟩
 .exact⟨.ret,st',β'',trivial,hq,H⟩
theorem zfl{S:St}:qL S Q .normal st=dx st S:=rfl
theorem zmp{S:St}(i:Nat):qL S Q (.exit i) st=Q (.exit i) st:=rfl
theorem zqi{S:St}:qL S Q .ret st=Q .ret st:=rfl
end
attribute [simp] zfk zmo zqh
attribute [simp] zfl zmp zqi yo yK
end Go.V
namespace Go.V
variable [Dr] [Ov]
open Go.RowKit
def TG(P:Program)(all:List Oper)(m:Nat):List Oper->St->(St->Prop)->Prop
 | [],st,K=>K st
 |x::r,st,K=>yp x.dst st.n=true/\wj P all x st (λs=>ah.lo m s/\TG P all m r (st.put x.dst s) K)
section
variable {P:Program} {st:St} {all:List Oper}
theorem TJ:∀ {l l':List Oper} {ss ss':List ah} {st:St},ss.length=l.length->bL (l++l') (ss++ss') st=bL l' ss' (bL l ss st)
 | [],l',[],ss',st,_=>rfl
 |o::r,l',s::ss,ss',st,h=>by
  simp only[nV,bL];exact TJ (by simpa using h)
theorem BS{f:Operand}{xs:List Operand}{dst:Option Tmp}{K:St->Prop}{g:Nat}{ds:List D}{lent:Bool}{r:D}(H:k7 (st.xn (uB (xs.map st.val))) f xs=some (g,ds,lent))(G:aq P g ds r)
  (hs:lent=true->r.bZ=true) (F:K ((st.xn (uB (xs.map st.val))).put dst (.d r))):zE P st f xs dst K:=by
 refine zE.frozen ?_
 unfold ZB;rw[H];exact .inl ⟨r,G,λe=>.inl (hs e),F⟩
end
attribute [simp] TG
end Go.V
namespace Go.V
variable [Dr] [Ov]
open Go.RowKit
def TL:Op->Bool
 |.box _ _ |.alloc _ |.makeMap _ none |.buildSlice _ _ _ |.assign (.const (.slice none 0 0))=>true
 |_=>false
def JM(P:Program)(n0:Nat)(ρ:Operand->ah)(ty:Nat)(K:am->Prop):Op->Prop
 |.box T x=>match vh (ρ x) with
  |some l=>ah.a_ n0 l/\K (.box T l)
  |none=>False
 |.alloc T=>match TI.of P T with
  |some ti=>ti.zero.all (·.oneCell')=true/\K (.box T (ti.zero.map bY))
  |none=>False
 |.makeMap t none=>K (.map t [])
 |.assign (.const (.slice none 0 0))=>match TI.of P ty with
  |some ⟨.slice e,_,_,_,_⟩=>match TI.of P e with
   |some te=>K (.aQ e te.size [])
   |none=>False
  |_=>False
 |.buildSlice t n parts=>match TI.of P t with
  |some ⟨.slice e,_,_,_,_⟩=>match TI.of P e with
   |some te=>match cp 0 parts.toList with
    |some l=>match uB (l.map ρ),dL te.size (l.map ρ) with
     | [],some rows=>l.length=n/\0<te.size/\n*te.size<=16777216/\K (.aQ e te.size rows)
     |_,_=>False
    |none=>False
   |none=>False
  |_=>False
 |_=>False
def UE(hs:List (Nat×am))(ρ:Operand->ah)(x:Operand):Option (Option Nat×List (List D)):=
 match x with
 |.tmp k=>match zc hs k with
  |some (.aQ _ _ rows)=>some (some k,rows)
  |some _=>none
  |none=>match ρ (.tmp k) with
   |.d (.sl l)=>some (none,l)
   |.aW=>some (none,[])
   |_=>none
 |x=>match ρ x with
  |.d (.sl l)=>some (none,l)
  |.aW=>some (none,[])
  |_=>none
def BU(bl:Option Nat)(hs:List (Nat×am)):List (Nat×am):=match bl with
 |some k=>dR k hs
 |none=>hs
def UF(P:Program)(hs:List (Nat×am))(ρ:Operand->ah)(j:Nat)(x:Operand)(t t' d:Nat)(K:FK->List (Nat×am)->Prop):Prop:=
 match zc hs j,TI.of P t with
 |some (.aQ T sz rows),some ⟨.slice e,_,_,_,_⟩=>match TI.of P e,UE hs ρ x with
  |some te,some (bl,l)=>(t'=t/\0<te.size/\te.zero.length=te.size/\te.zero.all (·.oneCell')=true/\T=e/\sz=te.size/\(∀ r∈l,r.length=te.size)/\(rows.length+l.length)*te.bytes<=140737488355328 /\
    rows.length+l.length<=maxLen/\bl≠some j)/\K (.fC j bl (.aQ e te.size (rows++l))) ((d,.aQ e te.size (rows++l))::dR j (BU bl hs))
  |_,_=>False
 |_,_=>False
def UG(P:Program)(n0:Nat)(hs:List (Nat×am))(ρ:Operand->ah)(t j:Nat)(x:Operand)(K:FK->List (Nat×am)->Prop):Prop:=
 match TI.of P t,vh (ρ x),zc hs j with
 |some ti,some l,some (.box T cells)=>(l.length=ti.size/\ah.a_ n0 l/\l.length<=cells.length)/\K (.qb j (.box T (aO cells 0 l))) ((j,.box T (aO cells 0 l))::dR j hs)
 |_,_,_=>False
def UH(P:Program)(all:List Oper)(n0:Nat)(o:Oper)(st:St)(hs:List (Nat×am))(K:FK->List (Nat×am)->Prop):Prop:=
 wj P all o st (λs=>ah.lo n0 s/\K (.val s) hs)
def JO(P:Program)(all:List Oper)(n0:Nat)(vl:List Nat)(o:Oper)(st:St)(hs:List (Nat×am))(K:FK->List (Nat×am)->Prop):Prop:=
 match o.op,o.guard,o.dst with
 |.call {callee:=.builtin .append,args:=xs,argTypes:=ts},none,some d=>match xs.toList,ts.toList with
  | [.tmp j,x],[t,t']=>UF P hs st.val j x t t' d K
  |_,_=>False
 |.store t (.tmp j) x,none,none=>UG P n0 hs st.val t j x K
 |op,none,some d=>if TL op=true/\vl.contains d=false then JM P n0 st.val o.type (λob=>K (.mk ob) ((d,ob)::hs)) op else UH P all n0 o st hs K
 |_,_,_=>UH P all n0 o st hs K
def jc(P:Program)(all:List Oper)(n0:Nat)(vl:List Nat)(K:St->List FK->List (Nat×am)->Prop):List Oper->St->List FK->List (Nat×am)->Prop
 | [],st,ks,hs=>K st ks hs
 |o::r,st,ks,hs=>YA o.dst st.n=true/\JO P all n0 vl o st hs (λk hs'=>jc P all n0 vl K r (st.put o.dst k.sym) (k::ks) hs')
def BV(P:Program)(K:St->Prop):List Oper->St->Prop
 | [],st=>K st
 | [o],st=>o.guard=none/\yz P o st K
 |_,_=>False
def XC(all ic:List Oper)(ks:List FK):Bool:=YC all ic ks 0 ic ks&&eP (wJ ks)
section
variable {P:Program} {all:List Oper} {lo:Nat} {bv:St} {F F':XF} {i:Nat} {o:Oper}
theorem zmq{n n0:Nat}{ρ:Operand->ah}{o:Oper}{K:am->Prop}(E:yp o.dst n=true)(h:JM P n0 ρ o.type K o.op):
  ∃ ob,K ob/\ob.lo n0/\∀ (st:St) (K:St->Prop),W5 n ρ o st->K ((st.new ob).put o.dst (cd ob st.next))->yz P o st K:=by
 unfold JM at h
 split at h
 .rename_i T x J
  split at h
  .rename_i l L
   refine⟨_,h.2,h.1,λst K M O=>?_⟩
   have Q:=M.2 x (by rw[J];simp[Op.operands]) (by intro e;rw[e] at L;simp[vh] at L)
   unfold yz;rw[J];simp only;refine⟨by rw[M.1];exact E,?_⟩
   unfold Jl;rw[Q,L];exact O
  .exact h.elim
 .rename_i T J
  split at h
  .rename_i ti ht
   refine⟨_,h.2,AH _ _,λst K M O=>?_⟩
   unfold yz;rw[J];simp only;rw[ht];exact⟨by rw[M.1];exact E,h.1,O⟩
  .exact h.elim
 .rename_i t J
  refine⟨_,h,trivial,λst K M O=>?_⟩
  unfold yz;rw[J];simp only;exact⟨by rw[M.1];exact E,O⟩
 .rename_i J
  split at h
  .rename_i e _ _ _ _ ht
   split at h
   .rename_i te hte
    refine⟨_,h,trivial,λst K M O=>?_⟩
    unfold yz;rw[J];simp only;rw[ht];simp only;rw[hte];exact⟨by rw[M.1];exact E,O⟩
   .exact h.elim
  .exact h.elim
 .rename_i t m parts J
  split at h
  .rename_i e _ _ _ _ ht
   split at h
   .rename_i te hte
    split at h
    .rename_i l L
     split at h
     .rename_i rows F H
      obtain⟨V,X,Y,Z⟩:=h;refine⟨_,Z,trivial,λst K M O=>?_⟩
      have G:l.map st.val=l.map ρ:=by
       refine pD λx A=>M.2 x ?_ (AI H x A)
       obtain⟨i,hi⟩:=AK L x A;rw[J];simp only[Op.operands];simp;exact⟨i,by simpa using hi⟩
      unfold yz;rw[J];simp only;refine⟨by rw[M.1];exact E,?_⟩
      unfold Jr;rw[ht];simp only;rw[hte];simp only;rw[L];simp only;rw[G,F];refine⟨V,X,Y,?_⟩
      simp only[St.xn];rw[G,H];exact O
     .exact h.elim
    .exact h.elim
   .exact h.elim
  .exact h.elim
 .exact h.elim
theorem zmr{hs:List (Nat×am)}{ρ:Operand->ah}{x:Operand}{bl:Option Nat}{l:List (List D)}(h:UE hs ρ x=some (bl,l)):
  (∃ k T sz,x = .tmp k/\bl=some k/\zc hs k=some (.aQ T sz l))\/(bl=none/\(ρ x = .d (.sl l)\/(ρ x = .aW/\l=[]))):=by
 unfold UE at h
 split at h
 .rename_i k
  split at h
  .rename_i T sz rows H;cases h;exact .inl ⟨k,T,sz,rfl,rfl,H⟩
  .cases h
  .split at h
   .rename_i l' G;cases h;exact .inr ⟨rfl,.inl G⟩
   .rename_i G;cases h;exact .inr ⟨rfl,.inr ⟨G,rfl⟩⟩
   .cases h
 .split at h
  .rename_i l' G;cases h;exact .inr ⟨rfl,.inl G⟩
  .rename_i G;cases h;exact .inr ⟨rfl,.inr ⟨G,rfl⟩⟩
  .cases h
theorem zil{n n0:Nat}{hs:List (Nat×am)}{ρ:Operand->ah}{o:Oper}{j t t' d:Nat}{x:Operand}{K:FK->List (Nat×am)->Prop}(O:yp o.dst n=true)(Q:o.op = .call {callee:=.builtin .append,args:=#[.tmp j,x],argTypes:=#[t,t']})
  (h:UF P hs ρ j x t t' d K):∃ bl ob oj ok,K (.fC j bl ob) ((d,ob)::dR j (BU bl hs))/\wG ob/\ob.lo n0/\zc hs j=some oj/\wG oj /\
   (∀ k,bl=some k->x = .tmp k/\k≠j/\zc hs k=some ok/\wG ok) /\
   ∀ (st:St) (K:St->Prop) (id:Nat),W5 n ρ o st->st.val (.tmp j) = .ar id->st.ay id=some oj->(∀ k,bl=some k->∃ id',id'≠id/\st.val (.tmp k) = .ar id'/\st.ay id'=some ok) ->
    K ((st.aV id ob).put o.dst (.ar id))->yz P o st K:=by
 unfold UF at h
 split at h
 .rename_i T sz rows e _ _ _ _ hj ht
  split at h
  .rename_i te bl l E F
   obtain⟨⟨V,X,Y,J,Z,A,B,C,I,N⟩,h⟩:=h;have key:∀ (st:St) (K:St->Prop) (id:Nat),W5 n ρ o st->st.val (.tmp j) = .ar id->st.ay id=some (.aQ T sz rows)->kQ st id (st.val x)=some l->K ((st.aV id (.aQ e te.size (rows++l))).put o.dst (.ar id))->yz P o st K:=by
    intro st K id S W hl hs hK;unfold yz;rw[Q];simp only;refine⟨by rw[S.1];exact O,?_⟩
    refine .inl ?_
    unfold Js;rw[ht];simp only;rw[E];simp only;refine⟨V,X,Y,J,?_⟩
    rw[W];simp only;rw[hl,hs];simp only;exact⟨Z,A,B,C,I,hK⟩
   rcases zmr F with⟨k,T',sz',rfl,rfl,S⟩ | ⟨rfl,W⟩
   .have L:k≠j:=λe=>N (by rw[e])
    refine⟨some k,_,.aQ T sz rows,.aQ T' sz' l,h,trivial,trivial,hj,trivial,λk' e=>by cases e;exact⟨rfl,L,S,trivial⟩,λst K id H W hl hs hK=>?_⟩
    obtain⟨id',g1,g2,g3⟩:=hs k rfl;refine key st K id H W hl ?_ hK
    rw[g2];simp only[kQ];rw[ge g1,g3]
   .refine⟨none,_,.aQ T sz rows,.aQ T sz rows,h,trivial,trivial,hj,trivial,λk' e=>(by cases e),λst K id H M hl hs hK=>?_⟩
    refine key st K id H M hl ?_ hK
    have G:x∈o.op.operands:=by rw[Q];simp[Op.operands,Call.operands]
    rcases W with W | ⟨W,rfl⟩
    .rw[H.2 x G (by rw[W];simp),W];rfl
    .rw[H.2 x G (by rw[W];simp),W];rfl
  .exact h.elim
 .exact h.elim
theorem zim{n n0:Nat}{hs:List (Nat×am)}{ρ:Operand->ah}{o:Oper}{j t:Nat}{x:Operand}{K:FK->List (Nat×am)->Prop}(H:∀ k ob,zc hs k=some ob->ob.lo n0)(J:o.op = .store t (.tmp j) x)(L:o.dst=none)
  (h:UG P n0 hs ρ t j x K) :
  ∃ ob oj,K (.qb j ob) ((j,ob)::dR j hs)/\kU ob/\ob.lo n0/\zc hs j=some oj/\kU oj /\
   ∀ (st:St) (K:St->Prop) (id:Nat),W5 n ρ o st->st.val (.tmp j) = .bp id 0->st.ay id=some oj->K {st with own:=zT id ob st.own}->yz P o st K:=by
 unfold UG at h
 split at h
 .rename_i ti l T cells M O hj
  obtain⟨⟨Q,V,X⟩,h⟩:=h;have G:ρ x≠.junk:=by intro e;rw[e] at O;simp[vh] at O
  have F:x∈o.op.operands:=by rw[J];simp[Op.operands]
  refine⟨_,.box T cells,h,trivial,zmy (H j _ hj) V,hj,trivial,λst K id Y Z E A=>?_⟩
  unfold yz;rw[J];simp only;rw[L,M];simp only;unfold Xm;rw[Z];simp only;rw[E];simp only;rw[Y.2 x F G,O];exact⟨Q,by omega,A⟩
 .exact h.elim
theorem zms(L:yO all=true){vl:List Nat}{aR:List (Nat×am)}{stF:St}(hI:eA P all lo bv aR [] F i)(ho:all[i]?=some o)(V:Seg.zU ⟨all,lo,i,F.cS.reverse,bv,λ_=>aR⟩ i=stF)(hd:YA o.dst bv.n=true){K:FK->List (Nat×am)->Prop}
  (h:JO P all bv.next vl o stF F.hs K):∃ k J,K k J/\eA P all lo bv aR [] (F.push k o.dst J F.ow) (i+1):=by
 have C:yp o.dst bv.n=true:=by
  have:=(UY hd).1
  unfold yp;split
  .rename_i t ht;simpa using this t ht
  .rfl
 have M:stF.val=F.xt.val:=by rw[<-V];exact hI.ag.val
 have O:=λk=>hI.ext (k:=k)
 have hv:UH P all bv.next o stF F.hs K->∃ k J,K k J/\eA P all lo bv aR [] (F.push k o.dst J F.ow) (i+1):=by
  intro h;obtain⟨s,h1,h2,h3⟩:=JB h;refine⟨.val s,F.hs,h3,hI.push L ho hd rfl ?_ (λt2 ob2 hm=>.inl ⟨hm,rfl⟩) hI.aI (.inl ⟨rfl,λ_ _ e=>by cases e⟩)⟩
  refine⟨?_,h2⟩
  rw[tm,G0 (by simpa using hI.len.1) hI.len.2.1 (nJ _),V]
  exact h1
 have I:∀ d,o.guard=none->o.dst=some d->JM P bv.next stF.val o.type (λob=>K (.mk ob) ((d,ob)::F.hs)) o.op->∃ k J,K k J/\eA P all lo bv aR [] (F.push k o.dst J F.ow) (i+1):=by
  intro d Q H h;obtain⟨ob,hK,X,G⟩:=zmq (n:=bv.n) C h;refine⟨.mk ob,_,hK,hI.push L ho hd rfl ?_ ?_ ?_ (.inl ⟨rfl,λ_ _ e=>by cases e⟩)⟩
  .exact⟨Q,⟨d,H⟩,X,λst K hk=>G st K (by rw[M];exact hI.fH hk)⟩
  .intro t2 ob2 hm
   rcases nE.1 hm with e | hm
   .cases e;exact .inr (.inl ⟨rfl,H⟩)
   .exact .inl ⟨hm,rfl⟩
  .simp only[nK,oE]
   exact⟨hI.jp L ho H λx hx=>hx,hI.aI⟩
 unfold JO at h
 split at h
 .rename_i xs' ts d T Q H
  split at h
  .rename_i j x t t' hx ht
   have e1:xs' = #[.tmp j,x]:=by cases xs';simp at hx;rw[hx]
   have e2:ts = #[t,t']:=by cases ts;simp at ht;rw[ht]
   subst e1;subst e2;obtain⟨bl,ob,oj,ok,hK,N,X,hj,B,E,G⟩:=zil (n0:=bv.next) C T h;have Z:=xm hj;have Y:∀ x,Operand.tmp x∈o.op.operands->x∈aX all o:=λx hx=>V4 hx
   refine⟨_,_,hK,hI.push L ho hd rfl ?_ ?_ ?_ (.inl ⟨rfl,λ_ _ e=>by cases e⟩)⟩
   .refine⟨Q,⟨d,H⟩,Y j (by rw[T];simp[Op.operands,Call.operands]),λk hk=>⟨(E k hk).2.1,Y k (by rw[T,(E k hk).1];simp[Op.operands,Call.operands])⟩,X,N,
     oj,ok,(O _).held (hI.hs j oj Z).1.held,B,λk hk=>⟨(O _).held (hI.hs k ok (xm (E k hk).2.2.1)).1.held,(E k hk).2.2.2⟩,λst K id hk=>G st K id (by rw[M];exact hI.fH hk)⟩
   .intro t2 ob2 hm
    rcases nE.1 hm with e | hm
    .cases e;exact .inr (.inl ⟨rfl,H⟩)
    .obtain⟨h1,h2⟩:=XK hm
     left
     have A:Nat.beq j t2=false:=by cases hb:Nat.beq j t2 with | false=>rfl | true=>exact absurd (bm.1 hb).symm h2
     cases bl with
     |none=>exact⟨h1,by simp[dG,A]⟩
     |some k=>
      obtain⟨h3,h4⟩:=XK h1;have S:Nat.beq k t2=false:=by cases hb:Nat.beq k t2 with | false=>rfl | true=>exact absurd (bm.1 hb).symm h4
      exact⟨h3,by simp[dG,A,S]⟩
   .simp only[nK,oE]
    cases bl with
    |none=>exact⟨hI.jp L ho H λx hx=>(XK hx).1,G1 hI.aI⟩
    |some k=>exact⟨hI.jp L ho H λx hx=>(XK (XK hx).1).1,G1 (G1 hI.aI)⟩
  .exact h.elim
 .rename_i t j x T Q H
  have W:∀ k ob,zc F.hs k=some ob->ob.lo bv.next:=λk ob hk=>(hI.hs k ob (xm hk)).2.2
  have H0:j∈aX all o:=V4 (by rw[T];simp[Op.operands])
  obtain⟨ob,oj,hK,hb,X,hj,H1,G⟩:=zim (n:=bv.n) W T H h;have Z:=xm hj;refine⟨_,_,hK,hI.push L ho hd rfl ?_ ?_ ?_ (.inl ⟨rfl,λ_ _ e=>by cases e⟩)⟩
  .exact⟨Q,H,H0,X,hb,oj,(O _).held (hI.hs j oj Z).1.held,H1,λst K id hk=>G st K id (by rw[M];exact hI.fH hk)⟩
  .intro t2 ob2 hm
   rcases nE.1 hm with e | hm
   .cases e;exact .inr (.inr ⟨rfl,oj,Z⟩)
   .obtain⟨h1,h2⟩:=XK hm
    have A:Nat.beq j t2=false:=by cases hb:Nat.beq j t2 with | false=>rfl | true=>exact absurd (bm.1 hb).symm h2
    exact .inl ⟨h1,by simp[dG,A]⟩
  .simp only[nK,oE]
   refine⟨λhm=>?_,G1 hI.aI⟩
   obtain⟨⟨t2,ob2⟩,h1,h2⟩:=nS.1 hm;exact(XK h1).2 h2
 .rename_i Q H _
  split at h
  .exact I _ Q H h
  .exact hv h
 .exact hv h
theorem UI(J:yO all=true){vl:List Nat}{aR:List (Nat×am)}{K:St->List FK->List (Nat×am)->Prop}:∀ {l:List Oper} {i:Nat} {F:XF} {stF:St},(all.drop i).take l.length=l->stF.n=bv.n->eA P all lo bv aR [] F i ->
  Seg.zU ⟨all,lo,i,F.cS.reverse,bv,λ_=>aR⟩ i=stF->jc P all bv.next vl K l stF F.cS F.hs->∃ F':XF,∃ st':St,eA P all lo bv aR [] F' (i+l.length)/\Seg.zU ⟨all,lo,i+l.length,F'.cS.reverse,bv,λ_=>aR⟩ (i+l.length)=st'/\F'.ow=F.ow/\K st' F'.cS F'.hs
 | [],i,F,stF,Q,T,V,H,h=>⟨F,stF,V,H,rfl,h⟩
 |o::r,i,F,stF,Q,T,V,H,h=>by
  simp only[jc] at h;obtain⟨X,h⟩:=h;rw[T] at X;have Y:all[i]?=some o:=by
   have:=congrArg (λl:List Oper=>l[0]?) Q
   simpa using this
  obtain⟨k,L,Z,M⟩:=zms J V Y H X h;have A:(all.drop (i+1)).take r.length=r:=by
   have:=congrArg List.tail Q
   rw[List.tail_cons] at this;rw[<-this];have X:all.drop i=o::all.drop (i+1):=by
    obtain⟨O,B⟩:=nN.1 Y;rw[nY O,B]
   rw[X];simp
  have E:∀ (s:ah),(stF.put o.dst s).n=stF.n:=by intro s;unfold St.put;split <;> rfl
  have G:Seg.zU ⟨all,lo,i+1,(F.push k o.dst L F.ow).cS.reverse,bv,λ_=>aR⟩ (i+1)=stF.put o.dst k.sym:=by
   simp only[XF.push,tm];rw[AN (by simpa using V.len.1) V.len.2.1 Y,H]
  obtain⟨F',st',q1,q2,q3,q4⟩:=UI J A ((E _).trans T) M G Z;have e:i+1+r.length=i+(o::r).length:=by simp;omega
  rw[e] at q1 q2;exact⟨F',st',q1,q2,q3,q4⟩
theorem zt5(L:P.follows .mixedOrders=true)(m:Nat)(vl:List Nat){id:Nat}{ops:List Oper}{st:St}{Q:DE->St->Prop}(M:yO ops=true)(hm:Nat.ble m ops.length=true)(E:(Nat.beq m ops.length || vF ops m)=true)(C:XA st.af=true)
  (h:jc P ops st.next vl (λstF cS hs=>XC ops (ops.take m) cS.reverse=true/\BV P (Q .normal) (ops.drop m) {st with next:=st.next+hs.length,af:=vi st.next hs++stF.af,own:=qA st.next hs++st.own}) (ops.take m) st [] []) :
  aT P (.region id ops.toArray true) Q st:=by
 rw[so] at hm
 refine JK L M ?_
 have Z:Ag st (dt st):=BQ C
 obtain⟨A,K⟩:=Eh (P:=P) (all:=ops) Z (nU _) []
 have e0:(vx (dt st) []).xt.own=st.own:=rfl
 rw[e0] at A K
 have O:Seg.zU ⟨ops,0,0,(vx (dt st) []).cS.reverse,st,λ_=>st.own⟩ 0=st:=by
  unfold Seg.zU;simp[bL]
 have T:(ops.take m).length=m:=by rw[nR];omega
 obtain⟨F,st',hI,J,I,H,G⟩:=UI (l:=ops.take m) M (by simp) rfl A O h
 rw[T,pG] at hI J
 have V:F.ow=st.own:=I
 have S:YC ops ((ops.drop 0).take (m-0)) F.cS.reverse 0 ((ops.drop 0).take (m-0)) F.cS.reverse=true/\eP (wJ F.cS.reverse)=true:=by
  unfold XC at H;rw[nI] at H;simpa using H
 obtain⟨g1,g2,g3⟩:=Eg (s0:=dt st) M hI K Z (xs':={(dt st) with next:=(dt st).next+F.hs.length,af:=YD F.xt (dt st).next F.hs,own:=qA (dt st).next F.hs++F.ow}) (by
  unfold W4;simp only
  rw[UW,nI];exact⟨S,rfl⟩)
 refine .ic (hi:=m) F.cS.reverse (λ_=>st.own) F.hs F.ow g1 g2 ?_ ?_
 .rw[oS,bm] at E
  exact E.elim .inr .inl
 .have Y:Seg.ck ⟨ops,0,m,F.cS.reverse,st,λ_=>st.own⟩ F.hs F.ow = {st with next:=st.next+F.hs.length,af:=vi st.next F.hs++st'.af,own:=qA st.next F.hs++st.own}:=by
   unfold Seg.ck;rw[J,V]
  rw[Y];generalize ({st with next:=st.next+F.hs.length,af:=vi st.next F.hs++st'.af,own:=qA st.next F.hs++st.own}:St)=stE at G;cases hd:ops.drop m with
  |nil=>
   rw[hd] at G;have:m=ops.length:=by
    have:=congrArg List.length hd
    simp at this;omega
   rw[this];exact .done G
  |cons o r=>
   cases r with
   |cons _ _=>rw[hd] at G;exact G.elim
   |nil=>
    rw[hd] at G;obtain⟨hg,W⟩:=G;have B:m+1=ops.length:=by
     have:=congrArg List.length hd
     simp at this;omega
    have ho:ops[m]?=some o:=by
     have:=congrArg (λl:List Oper=>l[0]?) hd
     simpa using this
    refine eR.mG (Q .normal) (by omega) (.inr B) ?_ ?_
    .intro X w0 β a w H0 N Q' hN
     unfold wpOp;have:ops.toArray[m]?=some o:=by simpa using ho
     rw[this];simp only[Region.wanted,hg,oV];exact .inl (wi H0 W N _ λa' w' st' β' hk H1=>hN a' w' st' β' hk H1)
    .intro st' hK
     rw[B];exact .done hK
theorem ZI{c:Code}{Q:DE->St->Prop}{st:St}(aD:List Nat)(h:aT P c Q (st.xn aD)):aT P c Q st:=λX w0 β a w hm=>h X w0 β a w (hm.xn (l:=aD))
theorem zfm{c:Code}{Q:DE->St->Prop}{st:St}(aD:List Nat)(h:aT P c (λe st'=>Q e (st'.xn aD)) st):aT P c Q st:=by
 intro X w0 β a w G
 refine wp_mono (h X w0 β a w G) ?_
 rintro e a' w' ⟨de,st',β',F,E,H⟩
 exact⟨de,st'.xn aD,β',F,E,H.xn (l:=aD)⟩
end
attribute [simp] TL JM UE BU UF UG UH JO jc BV vi qA cd dR YA FK.sym FK.eV
end Go.V
namespace Go.V
variable [Dr] [Ov]
open Go.RowKit
def zt6(P:Program)(st:St)(t:Nat)(ad x:ah)(K:Nat->am->Prop):Prop:=
 match TI.of P t,ad with
 |some ti,.ap id sz i off=>match st.ay id with
  |some (.aQ T sz' rows)=>match vh x with
   |some l=>match vD l with
    |some ds=>(sz=sz'/\i<rows.length/\ds.length=ti.size/\off+ds.length<=(rows.getD i []).length)/\K id (.aQ T sz (rows.set i (aO (rows.getD i []) off ds)))
    |none=>False
   |none=>False
  |_=>False
 |_,_=>False
def cq(st:St)(b:Bool):St:={st with own:=if b=true then st.own else []}
def TM(P:Program)(all:List Oper)(n0:Nat)(dp:Nat->Bool):Nat->List Oper->St->List ah->(St->List ah->Prop)->Prop
 |_,[],st,ss,K=>K st ss
 |i,o::r,st,ss,K=>yp o.dst st.n=true/\wj P all o (cq st (dp i)) (λs=>ah.lo n0 s/\TM P all n0 dp (i+1) r (st.put o.dst s) (s::ss) K)
def gk(P:Program)(K:St->Prop):List Oper->St->Prop
 | [],st=>K st
 |o::r,st=>o.guard=none/\yz P o st (λst'=>gk P K r st')
def Yw(all:List Oper)(k:Nat):Bool:=(List.range all.length).all λi=>Nat.ble i k || vF all i
section
variable {P:Program} {all:List Oper} {st:St}
theorem V7{K:St->Prop}:∀ {r:List Oper} {k:Nat} {st:St},k<=all.length->all.drop k=r->(∀ i,k<i->i<all.length->vF all i=true)->gk P K r st->eR P all K k st
 | [],k,st,H,J,L,h=>by
  have:k=all.length:=by
   have:=congrArg List.length J
   simp at this;omega
  subst this;exact .done h
 |o::r,k,st,H,J,L,h=>by
  obtain⟨M,G⟩:=h;have O:k<all.length:=by
   have:=congrArg List.length J
   simp at this;omega
  have Q:all[k]?=some o:=by
   have:=congrArg (λl:List Oper=>l[0]?) J
   simpa using this
  have T:all.drop (k+1)=r:=by
   have:=congrArg List.tail J
   simpa using this
  refine eR.mG (λst'=>gk P K r st') O ?_ ?_ λst' h'=>V7 O T (λi V Y=>L i (by omega) Y) h'
  .rcases pn (show k+1<=all.length from O) with e | e
   .exact .inr e
   .exact .inl (L (k+1) (by omega) e)
  .intro X w0 β a w F N Q' hN
   unfold wpOp;have:all.toArray[k]?=some o:=by simpa using Q
   rw[this];simp only[Region.wanted,M,oV];exact .inl (wi F G N _ λa' w' st' β' O E=>hN a' w' st' β' O E)
end
attribute [simp] zt6 TM gk cq
end Go.V
namespace Go.V
variable [Dr] [Ov]
open Go.RowKit
section
variable {P:Program} {f:Nat} {args:List D} {r:D} {st:St} {K:St->Prop}
theorem uY.toR(h:uY P f args r):aq P f args r:=
 ⟨h.1,λw E vs H G=>(h.2 w E vs H G).mono λ_ w' ⟨v,F,K,J⟩=>⟨v,F,K,J.over (bh.dy λ_ K=>.inl K) _ _⟩⟩
theorem BW{T sz:Nat}{rows:List (List D)}(h:eG P f args T sz rows)(hs:D.dj rows.flatten=true):uY P f args (.sl rows):=by
 obtain⟨F,K,J⟩:=h
 refine⟨F,λw E vs L M=>(J w E vs L M).mono λ_ w' ⟨v,xs,O,Q,V,X,H⟩=>⟨v,O,Q,?_⟩⟩
 have Y:ja (λb=>w.heap.size<=b) w' T sz v rows.length xs:=ja.Rj V X λ_ h=>h
 refine RH Y (zI.cells (Jj hs H.fS) H.cB) K (λb G=>?_) (bh.refl _ _)
 rintro(h | h)
 .have:=(Y.2 b G).1
  have:=L.1 b h
  omega
 .have:=(Y.2 b G).1
  omega
theorem zE.V8{f:Operand}{xs:List Operand}{dst:Option Tmp}{g:Nat}{ds:List D}{lent:Bool}{r:D}(H:k7 st f xs=Option.some (g,ds,lent))(G:uY P g ds r)
  (F:K (st.put dst (.d r))):zE P st f xs dst K:=by
 unfold zE ZB;left;rw[H];exact .inl ⟨r,G.toR,λ_=>.inr G,F⟩
theorem zfn{ay:Nat->Option am}{c:ah}{args:List ah}{k:ah->Prop}{f:Nat}{aJ:List ah}{ds:List D}{lent:Bool}{r:D}(H:xF c=some (f,aJ))(G:vO ay (args++aJ)=some (ds,lent))(F:uY P f ds r)
  (E:k (.d r)):k5 P ay c args k:=by
 unfold k5 Xi
 rw[H]
 dsimp only
 rw[G]
 exact⟨r,F.toR,λ_=>.inr F,E⟩
end
section
variable {P:Program} {all:List Oper} {lo:Nat} {bv:St} {i:Nat} {o:Oper}
theorem zt7(L:P.follows .mixedOrders=true)(m:Nat)(vl:List Nat){id:Nat}{ops:List Oper}{st:St}{Q:DE->St->Prop}(M:yO ops=true)(N:Nat.ble m ops.length=true)(E:(Nat.beq m ops.length || vF ops m)=true)(H:Yw ops m=true)(B:XA st.af=true)
  (h:jc P ops st.next vl (λstF cS hs=>XC ops (ops.take m) cS.reverse=true/\gk P (Q .normal) (ops.drop m) {st with next:=st.next+hs.length,af:=vi st.next hs++stF.af,own:=qA st.next hs++st.own}) (ops.take m) st [] []) :
  aT P (.region id ops.toArray true) Q st:=by
 rw[so] at N
 refine JK L M ?_
 have Y:Ag st (dt st):=BQ B
 obtain⟨Z,K⟩:=Eh (P:=P) (all:=ops) Y (nU _) []
 have e0:(vx (dt st) []).xt.own=st.own:=rfl
 rw[e0] at Z K
 have O:Seg.zU ⟨ops,0,0,(vx (dt st) []).cS.reverse,st,λ_=>st.own⟩ 0=st:=by
  unfold Seg.zU;simp[bL]
 have T:(ops.take m).length=m:=by rw[nR];omega
 obtain⟨F,st',S,J,C,G,A⟩:=UI (l:=ops.take m) M (by simp) rfl Z O h
 rw[T,pG] at S J
 have V:F.ow=st.own:=C
 have I:YC ops ((ops.drop 0).take (m-0)) F.cS.reverse 0 ((ops.drop 0).take (m-0)) F.cS.reverse=true/\eP (wJ F.cS.reverse)=true:=by
  unfold XC at G;rw[nI] at G;simpa using G
 obtain⟨g1,g2,g3⟩:=Eg (s0:=dt st) M S K Y (xs':={(dt st) with next:=(dt st).next+F.hs.length,af:=YD F.xt (dt st).next F.hs,own:=qA (dt st).next F.hs++F.ow}) (by
  unfold W4;simp only
  rw[UW,nI];exact⟨I,rfl⟩)
 refine .ic (hi:=m) F.cS.reverse (λ_=>st.own) F.hs F.ow g1 g2 ?_ ?_
 .rw[oS,bm] at E
  exact E.elim .inr .inl
 .have X:Seg.ck ⟨ops,0,m,F.cS.reverse,st,λ_=>st.own⟩ F.hs F.ow = {st with next:=st.next+F.hs.length,af:=vi st.next F.hs++st'.af,own:=qA st.next F.hs++st.own}:=by
   unfold Seg.ck;rw[J,V]
  rw[X];generalize ({st with next:=st.next+F.hs.length,af:=vi st.next F.hs++st'.af,own:=qA st.next F.hs++st.own}:St)=stE at A;refine V7 N rfl (λi W h2=>?_) A
  unfold Yw at H;rw[oo] at H;have:=H i (oc.2 h2)
  rw[oS,so] at this;rcases this with e | e
  .omega
  .exact e
end
end Go.V
namespace Go.V
variable [Dr] [Ov]
open Go.RowKit
def zsq(P:Program)(r:Option Nat)(c:Code)(Q:DE->St->Prop)(st:St):Prop:=
 ∀ X w0 β a w ms n,MX X w0 ms st β a w->c.wpIn (FW r) n P (λe' a' w'=>∃ de st' β',yq e' de/\Q de st'/\MX X w0 ms st' β' a' w') a w
def ZJ(P:Program)(st:St)(id:Nat)(xs:List Operand)(dst:Option Tmp)(K:St->Prop):Prop:=
 ∃ (k:Nat) (aD:List Nat) (args0:List ah) (aR:List (Nat×am)) (s:ah) (nx:Nat) (own':List (Nat×am)) (mv:List Nat),(k<aD.length/\ce aD k=id)/\yf (ce aD) args0=xs.map st.val/\ah.a_ aD.length args0/\cV st aD aR /\
  Yy P k args0 aR aD.length s nx own' mv/\K ((st.after aD nx own' mv).put dst (cg (yE aD st.next) s))
def BX:ah->Option Nat
 |.yd id=>some id
 |_=>none
def XD(P:Program)(o:Oper)(st:St)(K:St->Prop):Prop:=
 match o.op with
 |.call {callee:=.value f,args:=xs,argTypes:=ts}=>match BX (st.val f) with
  |some id=>yp o.dst st.n=true/\ZJ P st id xs.toList o.dst K
  |none=>yz P o st K
 |_=>yz P o st K
def wH(P:Program)(all:List Oper):List Oper->St->(St->Prop)->Prop
 | [],st,K=>K st
 |o::r,st,K=>match o.guard with
  |none=>XD P o st (lz λst'=>wH P all r st' K)
  |some (j,want)=>match (all[j]?).bind (·.dst) with
   |some t=>match zc st.af t with
    |some (.d (.bool b))=>(b=want->XD P o (st.put (some t) (.d (.bool want))) (lz λst'=>wH P all r st' K)) /\
     (b = !want->yp o.dst st.n=true/\wH P all r ((st.put (some t) (.d (.bool !want))).put o.dst (.d (.val undef))) K)
    |some (.d (.val v))=>v=undef/\yp o.dst st.n=true/\wH P all r (st.put o.dst (.d (.val undef))) K
    |_=>False
   |none=>False
def qB(P:Program):Code->(DE->St->Prop)->St->Prop
 |.skip,Q,st=>Q .normal st
 |.region _ ops draw,Q,st=>draw=false/\wH P ops.toList ops.toList st (Q .normal)
 |.seq x y,Q,st=>qB P x (Xr (λst'=>qB P y Q st') Q) st
 |.cond c x y,Q,st=>match st.val c with
  |.d (.bool b)=>(b=true->qB P x Q st)/\(b=false->qB P y Q st)
  |_=>False
 |.block id c,Q,st=>qB P c (jD id Q) st
 |.exit id,Q,st=>Q (.exit id) st
 |.ret,Q,st=>Q .ret st
 |_,_,_=>False
section
variable {P:Program} {X:Nat->Prop} {w0:bz} {st:St} {β:Nat->Value} {a:Act} {w w':World} {K:St->Prop}
theorem zmt{o:Oper}(h:yz P o st K):∀ c,o.op≠.defer c:=by
 intro c e
 unfold yz at h
 rw[e] at h
 simp only[vQ,uA] at h
 exact h.2
theorem MX.jx{ms:List Nat}(H:a.defers=ms.map mark++w0.dF):({({a with defers:=w0.dF}:Act) with defers:=ms.map mark++w0.dF}:Act)=a:=by
 cases a;simp only at H;subst H;rfl
theorem zsr{ms:List Nat}(L:MX X w0 ms st β a w){o:Oper}(h:∀ X' w0',ax X' w0' st β {a with defers:=w0.dF} w->br P X' w0' o {a with defers:=w0.dF} w K)(G:∀ c,o.op≠.defer c)(r:Option Nat)(n:Nat){N:Act->World->Prop}{Q:Exit->Act->World->Prop}
  (M:∀ a' w' st' β',K st'->MX X w0 ms st' β' a' w'->N a' w'):o.wpIn (FW r) n P a w N Q:=by
 obtain⟨⟨X',w0',O,F,E⟩,T,J⟩:=L
 have:=zsx (h X' w0' F) G O.dF.symm r n (ms.map mark++w0.dF) (N:=N) (Q:=Q) λa' w' st' β' V H=>
  M _ w' st' β' V ⟨⟨X',w0',O,by have e:=H.defers.trans O.dF;cases a';simp only at e;subst e;exact H,E⟩,rfl,J⟩
 rw[MX.jx T] at this
 exact this
theorem zqj(I:ax X w0 st β a w){o:Oper}{f:Operand}{args:Array Operand}{ts:Array TypeId}(S:o.op = .call {callee:=.value f,args,argTypes:=ts})
  {id:Nat} (W:st.val f = .yd id) (M:∀ t,o.dst=some t->t<st.n) (h:ZJ P st id args.toList o.dst K) (r:Option Nat) (n:Nat) (ms:List Deferred)
  {N:Act->World->Prop} {Q:Exit->Act->World->Prop} (hN:∀ a' w' st' β',K st'->ax X w0 st' β' a' w'->N {a' with defers:=ms} w'):o.wpIn (FW r) n P {a with defers:=ms} w N Q:=by
 obtain⟨k,aD,args0,aR,s,nx,own',mv,⟨C,O⟩,ha,hl,hf,H,hK⟩:=h
 have hE:Ex (cZ X β aD st.own) (λi=>β (ce aD i)) aR=Ex X β st.own:=funext λb=>propext (hf.ex b)
 have T:zi w (Ex (cZ X β aD st.own) (λi=>β (ce aD i)) aR) (λi=>β (ce aD i)) args0 (args.toList.map a.eval):=by
  have h1:=(zi.Z4 I args.toList).1;rw[<-ha] at h1;rw[hE];exact Z5 (ρ:=ce aD) (β:=λi=>β (ce aD i)) (β':=β) (m:=aD.length) (λ_ _=>rfl) hl h1
 obtain⟨b,hb,H⟩:=H (cZ X β aD st.own) (eE β aD w) (λi=>β (ce aD i)) w _ rfl (I.Ug hf) T
 simp only[O] at hb
 have hv:=(I.val f).2
 rw[W] at hv
 simp only[Sm] at hv
 obtain⟨b',L,hv⟩:=hv
 rw[hb] at L;cases L
 obtain⟨fn,tmps,a_s,bd,V,G⟩:=H r (n-1)
 have F:∀ c,o.op≠.defer c:=λc e=>by rw[S] at e;cases e
 unfold Oper.wpIn
 refine⟨λ_ _=>trivial,?_⟩
 rw[Oper.semAt_eq _ _ _ F]
 have Y:({a with defers:=ms}:Act).eval=a.eval:=rfl
 rw[Y]
 have E:(execOp a.eval o).run P w = .ok (.round b fn tmps a_s bd) w:=by
  have e3:Array.map a.eval args=(args.toList.map a.eval).toArray:=tb (by simp)
  simp only[execOp,S,resolve,hv];rw[e3];exact zsy V
 rw[E]
 simp only[Oper.uponIn]
 refine⟨λhd=>by simp[FW,Fence.wide] at hd,G.mono λe w' he=>?_⟩
 obtain⟨β1,v,rfl,Z,A,B⟩:=he
 obtain⟨h1,h2⟩:=I.Uh hf Z
 obtain⟨q1,q2⟩:=h2 s v A B
 have J:(({a with defers:=ms}:Act).put o.dst v) = {a.put o.dst v with defers:=ms}:=by cases o.dst <;> rfl
 show N (({a with defers:=ms}:Act).put o.dst v) w'
 rw[J]
 exact hN _ w' _ _ hK (h1.yH M q1 q2)
theorem TN{ms:List Nat}(J:MX X w0 ms st β a w){o:Oper}(h:XD P o st K)(r:Option Nat)(n:Nat){N:Act->World->Prop}{Q:Exit->Act->World->Prop}
  (L:∀ a' w' st' β',K st'->MX X w0 ms st' β' a' w'->N a' w'):o.wpIn (FW r) n P a w N Q:=by
 have plain:yz P o st K->o.wpIn (FW r) n P a w N Q:=λh=>zsr J (λX' w0' H=>wi H h) (zmt h) r n L
 unfold XD at h
 split at h
 .rename_i f xs ts M
  split at h
  .rename_i id O
   have O:st.val f = .yd id:=by
    revert O
    cases st.val f <;> simp[BX]
   obtain⟨⟨X',w0',T,H,F⟩,V,E⟩:=J;have:=zqj H M O (xw h.1) h.2 r n (ms.map mark++w0.dF) (N:=N) (Q:=Q) λa' w' st' β' Y G=>
    L _ w' st' β' Y ⟨⟨X',w0',T,by have e:=G.defers.trans T.dF;cases a';simp only at e;subst e;exact G,F⟩,rfl,E⟩
   rw[MX.jx V] at this;exact this
  .exact plain h
 .exact plain h
theorem JP{all:List Oper}{ms:List Nat}{r:Option Nat}{n:Nat}{Q:Exit->Act->World->Prop}:∀ {l:List Oper} {st:St} {β:Nat->Value} {a:Act} {w:World} {K:St->Prop},
  wH P all l st K->MX X w0 ms st β a w->(∀ a' w' st' β',K st'->MX X w0 ms st' β' a' w'->Q .normal a' w')->wpListIn (FW r) n P all.toArray Q l a w
 | [],st,β,a,w,K,h,B,C=>C a w st β h B
 |o::l,st,β,a,w,K,h,B,C=>by
  simp only[wH] at h;refine wpListIn_step λN' F=>?_
  split at h
  .rename_i J
   simp only[Region.wanted,J,oV];exact TN B h r n λa' w' st' β' I H=>F a' w' (JP I H C)
  .rename_i j want J
   split at h
   .rename_i t N
    split at h
    .rename_i b S
     have L:=zir B S;have W:=Tv (Yq N) L;simp only[Region.wanted,J,W];have G:∀ c:Bool,b=c->MX X w0 ms (st.put (some t) (.d (.bool c))) β a w:=by
      intro c e;subst e;obtain⟨⟨X',w0',hu,H,T⟩,hd,V⟩:=B;have Y:t<st.n:=by
       rw[<-H.size];rcases pe t a.tmps.size with h | h
       .exact h
       .rw[Array.getElem?_eq_none (by simpa using h)] at L;cases L
      have:=H.yH (dst:=some t) (s:=.d (.bool b)) (v:=.bool b) (λu e=>by cases e;exact Y) (by simp[ah.lo]) (by simp[Sm,R])
      have e2:({a with defers:=w0.dF}:Act).put (some t) (.bool b) = {a with defers:=w0.dF}:=by
       have M:a.tmps[t]?=some (.bool b):=L
       obtain⟨h1,h2⟩:=oD.1 M;show({tmps:=a.tmps.setIfInBounds t (.bool b),defers:=w0.dF}:Act)=_
       congr 1
       apply Array.ext
       .simp
       .intro i h3 h4
        rw[rj];split
        .rename_i e;subst e;exact h2.symm
        .rfl
      rw[e2] at this;exact⟨⟨X',w0',hu,this,T⟩,hd,V⟩
     by_cases e:b=want
     .subst e
      simp only[tD,oV];exact TN (G b rfl) (h.1 rfl) r n λa' w' st' β' I H=>F a' w' (JP I H C)
     .have e':b = !want:=by cases b <;> cases want <;> simp_all
      have:(some b==some want)=false:=by simpa using e
      simp only[this,ou,oU];obtain⟨hd,h⟩:=h.2 e';refine⟨λ_ _=>trivial,?_⟩
      exact F _ w (JP h ((G (!want) e').put (xw hd) (by simp[ah.lo]) (λE=>by simp[Sm,R])) C)
    .rename_i hv
     obtain⟨Z,hd,h⟩:=h;obtain⟨A,O⟩:=B.plain.af t _ hv;rw[Z] at O;simp only[Sm,R] at O;have W:yielded all.toArray a.tmps j=none:=Up (Yq N) O
     simp only[Region.wanted,J,W];have:((none:Option Bool)==some want)=false:=rfl
     simp only[this,ou,oU];refine⟨λ_ _=>trivial,?_⟩
     exact F _ w (JP h (B.put (xw hd) (by simp[ah.lo]) (λE=>by simp[Sm,R])) C)
    .exact h.elim
   .exact h.elim
theorem ZK:∀ {c:Code} {Q:DE->St->Prop} {st:St} {r:Option Nat},qB P c Q st->zsq P r c Q st
 |.skip,Q,st,r,h=>λX w0 β a w ms n G=>wpIn_skip ⟨.normal,st,β,trivial,h,G⟩
 |.region id ops draw,Q,st,r,h=>by
  obtain⟨rfl,h⟩:=h;intro X w0 β a w ms n G;refine wpIn_region_list ?_
  have:=JP (r:=r) (n:=n) (Q:=λe' a' w'=>∃ de st' β',yq e' de/\Q de st'/\MX X w0 ms st' β' a' w') h G (λa' w' st' β' F H=>⟨.normal,st',β',trivial,F,H⟩)
  simpa using this
 |.seq x y,Q,st,r,h=>by
  intro X w0 β a w ms n G;refine wpIn_seq (wpIn_mono (ZK (c:=x) h X w0 β a w ms n G) ?_)
  rintro e a' w' ⟨de,st',β',E,K,H⟩
  cases e <;> cases de <;> simp only[yq] at E
  .exact ZK (c:=y) K X w0 β' a' w' ms n H
  .subst E;exact⟨.exit _,st',β',rfl,K,H⟩
  .exact⟨.ret,st',β',trivial,K,H⟩
 |.cond c x y,Q,st,r,h=>by
  simp only[qB] at h;intro X w0 β a w ms n G;split at h
  .rename_i b hb
   have J:=(G.plain.val c).2;rw[hb] at J;simp only[Sm,R] at J;cases b
   .exact wpIn_cond_false J (ZK (h.2 rfl) X w0 β a w ms n G)
   .exact wpIn_cond_true J (ZK (h.1 rfl) X w0 β a w ms n G)
  .exact h.elim
 |.block id c,Q,st,r,h=>by
  intro X w0 β a w ms n G;refine wpIn_block (wpIn_mono (ZK (c:=c) h X w0 β a w ms n G) ?_)
  rintro e a' w' ⟨de,st',β',E,K,H⟩
  cases e <;> cases de <;> simp only[yq] at E
  .exact⟨.normal,st',β',trivial,K,H⟩
  .subst E
   simp only[jD] at K;simp only[Exit.inBlock];split
   .rename_i e;rw[gt e] at K;exact⟨.normal,st',β',trivial,K,H⟩
   .rename_i e;rw[ge e] at K;exact⟨.exit _,st',β',rfl,K,H⟩
  .exact⟨.ret,st',β',trivial,K,H⟩
 |.exit id,Q,st,r,h=>λX w0 β a w ms n G=>wpIn_exit ⟨.exit id,st,β,rfl,h,G⟩
 |.ret,Q,st,r,h=>λX w0 β a w ms n G=>wpIn_ret ⟨.ret,st,β,trivial,h,G⟩
 |.loop _,Q,st,r,h=>h.elim
 |.rangeFunc ..,Q,st,r,h=>h.elim
 |.scope _,Q,st,r,h=>h.elim
 |.label _,Q,st,r,h=>h.elim
 |.goto ..,Q,st,r,h=>h.elim
 |.refuse ..,Q,st,r,h=>h.elim
theorem UJ{c:Code}{Q:DE->St->Prop}(h:qB P c Q st):aT P c Q st:=by
 intro X w0 β a w G
 refine(wpIn_wide (n:=0)).1 (wpIn_mono (ZK (r:=none) h X w0 β a w [] 0 (.of G)) ?_)
 rintro e a' w' ⟨de,st',β',F,E,H⟩
 exact⟨de,st',β',F,E,H.nil⟩
def JQ:List Nat->List ah->St->St
 |p::ps,s::ss,st=>JQ ps ss (st.put (some p) s)
 |_,_,st=>st
theorem TO:∀ {ps:List Nat} {ss:List ah} {vs:List Value} {st:St} {a:Act},ax X w0 st β a w->(∀ p∈ps,p<st.n)->ah.a_ st.next ss->zi w (Ex X β st.own) β ss vs->ps.length=ss.length ->
  ax X w0 (JQ ps ss st) β {a with tmps:=(ps.zip vs).foldl (λt (p,v)=>t.setIfInBounds p v) a.tmps} w
 | [],[],vs,st,a,F,_,_,_,_=>by simpa[JQ] using F
 |p::ps,s::ss,vs,st,a,F,E,K,hs,H=>by
  simp only[zi] at hs;obtain⟨v,vs',rfl,J,L⟩:=hs;simp only[ah.a_] at K;have G:=F.yH (dst:=some p) (s:=s) (v:=v) (λt e=>by cases e;exact E p (by simp)) K.1 J
  exact TO (ps:=ps) (ss:=ss) (vs:=vs') G (λq M=>E q (nG _ M)) K.2 L (by simpa using H)
def iT(id n nx:Nat)(s:ah)(own':List (Nat×am))(mv:List Nat):DE->St->Prop:=λde fK=>
 (fK.ai=n/\id∉fK.aA)/\match fK.ay id with
  |some (.cN (.lp ps a_s bd .busy none) cells2)=>s = .d (.bool (W0 de))/\dx {fK with own:=zT id (.cN (.lp ps a_s bd (UV de) (gm de)) cells2) fK.own} {n:=fK.n,next:=nx,af:=[],own:=own',ai:=n,aA:=mv}
  |_=>False
def BZ(P:Program)(bd:Code)(id n:Nat)(Q:DE->St->Prop):DE->St->Prop:=λe fO=>
 match e with
 |.normal=>(fO.ai=n/\id∉fO.aA)/\match fO.ay id with
  |some (.cN (.lp ps a_s bd' .ready none) cells1)=>bd'=bd/\qB P bd Q {fO with own:=zT id (.cN (.lp ps a_s bd' .busy none) cells1) fO.own}
  |_=>False
 |_=>False
theorem JR{id n nx:Nat}{own own':List (Nat×am)}{cells args:List ah}{ps:Array Tmp}{a_s bd:Code}{s:ah}{mv:List Nat}
  (H0:zc own id=some (.cN (.lp ps a_s bd .ready none) cells)) (E:args.length=ps.size) (H1:∀ p∈ps.toList,p<cells.length) (cq:id<n) (hl:ah.a_ n args)
  (h:qB P a_s (BZ P bd id n (iT id n nx s own' mv)) (JQ ps.toList args (cz 0 cells own n))):Yy P id args own n s nx own' mv:=by
 intro X w0 β w vs hβ hm hs
 have O:(yW own n n []).ay id=some (.cN (.lp ps a_s bd .ready none) cells):=H0
 obtain⟨_,H2,b,fn,D,vs0,hb,hN,hh,Hb⟩:=hm.dm O
 replace hb:β id = .pointer (some ⟨b,0,none⟩):=hb
 refine⟨b,hb,λr m=>?_⟩
 have K:=hs.length
 have hy:=run_yield (P:=P) (args:=vs.toArray) hh (by simp[K,E])
 refine⟨fn,_,a_s,bd,hy,roundIn_of_wpIn trivial ?_⟩
 have Hc:=hm.cz (ntmps:=0) Hb H2
 have Hd:=TO (ps:=ps.toList) (ss:=args) (vs:=vs) Hc (λp hp=>by have:=H1 p hp;simpa[cz] using this) hl hs (by simp[E])
 have Q:({tmps:=(ps.zip vs.toArray).foldl (λtmps (t,a)=>tmps.setIfInBounds t a) vs0.toArray,defers:=[]}:Act) =
   {({tmps:=vs0.toArray++Array.replicate (0-vs0.toArray.size) undef,defers:=[]}:Act) with tmps:=(ps.toList.zip vs).foldl (λt (p,v)=>t.setIfInBounds p v) (vs0.toArray++Array.replicate (0-vs0.toArray.size) undef)}:=by
  congr 1
  rw[<-Cq];simp
 rw[Q]
 have J:=ZK (r:=some b) h X w0 β _ w [] m (.of Hd)
 have efw:(FW r).inRound b=FW (some b):=rfl
 rw[efw]
 refine wpIn_mono J ?_
 rintro e' a' w' ⟨de,fK,β2,he,hq,T⟩
 have N:=T.nil
 cases e' <;> cases de <;> simp only[yq] at he <;> simp only[BZ] at hq
 obtain⟨⟨Hi,V⟩,hq⟩:=hq
 split at hq
 .rename_i ps1 a1 b1 cells1 Y
  obtain⟨rfl,hq⟩:=hq;have same:∀ {st':St} {β':Nat->Value} {a':Act} {w':World},ax X w0 st' β' a' w'->st'.ai=n->id∉st'.aA->β' id=β id:=by
   intro st' β' a' w' Hp Hs Z;rw[Hp.bI.2 id (by rw[Hs];exact cq) Z,hβ]
  obtain⟨b',fn',D',vs',Hx,G2,Ga⟩:=E8 (s':=.busy) (pd':=none) N Y;have ebb:b'=b:=by
   have:=same N Hi V
   rw[Hx,hb] at this;simpa using this
  subst ebb;refine⟨_,run_beginRound G2 rfl,?_⟩
  have L:=ZK (r:=some b') hq X w0 β2 a' _ [] m (.of Ga);refine wpIn_mono L ?_
  rintro e' a' w' ⟨de,st4,β4,S,M,A⟩
  have W:=A.nil;obtain⟨⟨Gb,B⟩,M⟩:=M;split at M
  .rename_i ps2 a2 b2 cells2 C
   obtain⟨rfl,Gc⟩:=M;obtain⟨b4,fn4,D4,vs4,I,Gd,Go⟩:=E8 (s':=UV de) (pd':=gm de) W C;have ebb4:b4=b':=by
    have:=same W Gb B
    rw[I,hb] at this;simpa using this
   subst ebb4;have H:=Go.dY Gc;have Gr:ax X w0 (yW own' n nx mv) β4 vv _:=⟨H.bU,H.bI,H.cB,hm.defers,rfl,H.below,H.bB,H.own,H.apart,by intro t s ht;simp[yW,zc] at ht⟩
   have G:=run_endRound (P:=P) (gm de) Gd;have est:(if (gm de).isNone then LoopState.ready else .done)=UV de:=by cases de <;> rfl
   have ebo:(gm de).isNone=W0 de:=by cases de <;> rfl
   have F:∃ β' v,Ending.returned (.bool (gm de).isNone) = .returned v/\ax X w0 (yW own' n nx mv) β' vv
     (w'.putObj b4 (.loop {state:=if (gm de).isNone then .ready else .done,pending:=gm de,fn:=fn4,tmps:=vs4,params:=ps2,assign:=a2,body:=b2,defers:=D4}))/\ah.lo nx (.d (.bool (W0 de))) /\
     Sm (w'.putObj b4 (.loop {state:=if (gm de).isNone then .ready else .done,pending:=gm de,fn:=fn4,tmps:=vs4,params:=ps2,assign:=a2,body:=b2,defers:=D4})) (Ex X β' own') β' (.d (.bool (W0 de))) v:=by
    rw[est];exact⟨β4,_,rfl,Gr,by simp[ah.lo],by simp[Sm,R,ebo]⟩
   cases e' <;> cases de <;> simp only[yq] at S
   .exact⟨_,_,G,F⟩
   .subst S;exact⟨_,_,G,F⟩
   .exact⟨_,_,G,F⟩
  .exact M.elim
 .exact hq.elim
def ZL(P:Program)(c:Code)(Q:DE->St->Prop)(st:St):Prop:=
 ∀ X w0 β a w n,ax X w0 st β a w->c.wpIn (FW none) n P (λe' a' w'=>∃ de st' β' ms',yq e' de/\Q de st'/\MX X w0 ms' st' β' a' w') a w
def XE(st:St):Nat->Nat->List ah
 |0,_=>[]
 |k+1,t=>(match zc st.af t with
  |some s=>s
  |none=>.junk)::XE st k (t+1)
theorem TP(F:ax X w0 st β a w):∀ (k t:Nat),t+k=a.tmps.size->zi w (Ex X β st.own) β (XE st k t) (a.tmps.toList.drop t)/\ah.a_ st.next (XE st k t)
 |0,t,h=>by
  simp only[XE];rw[pJ (by simp;omega)]
  exact⟨by simp[zi],by simp[ah.a_]⟩
 |k+1,t,h=>by
  obtain⟨E,K⟩:=TP F k (t+1) (by omega)
  have G:t<a.tmps.toList.length:=by simp;omega
  rw[nY G];simp only[XE];have J:a.tmps.getD t undef=a.tmps.toList[t]:=by
   have H:t<a.tmps.size:=by simpa using G
   simp[H]
  cases hs:zc st.af t with
  |none=>
   refine⟨?_,?_⟩
   .simp only[zi];exact⟨_,_,rfl,by simp[Sm],E⟩
   .simp only[ah.a_];exact⟨by simp[ah.lo],K⟩
  |some s=>
   obtain⟨q1,q2⟩:=F.af t s hs;rw[J] at q2;refine⟨?_,?_⟩
   .simp only[zi];exact⟨_,_,rfl,q2,E⟩
   .simp only[ah.a_];exact⟨q1,K⟩
def JS(st:St)(ps:Array Tmp)(a_s bd:Code):St:=st.new (.cN (.lp ps a_s bd .ready none) (XE st st.n 0))
def JU(st:St)(id:Nat):St:={st with own:=st.own.filter λx=>!Nat.beq x.1 id}
def E0(id:Nat)(Q:DE->St->Prop)(st:St):Prop:=match st.ay id with
 |some (.cN (.lp _ _ _ s pend) _)=>match s,pend with
  |.busy,_=>False
  |_,none=>Q .normal (JU st id)
  |_,some .ret=>Q .ret (JU st id)
  |_,some (.exit i)=>Q (.exit i) (JU st id)
  |_,_=>False
 |_=>False
theorem UK{g:Operand}{ps:Array Tmp}{a_s bd:Code}{Q:DE->St->Prop}{gf:Nat}{aJ:List ah}(H:xF (st.val g)=some (gf,aJ))(k:Nat)(aD:List Nat)(args0:List ah)(aR:List (Nat×am))
  {s:ah} {nx:Nat} {own':List (Nat×am)} {mv:List Nat} (hk:k<aD.length/\ce aD k=st.next/\k∉mv)
  (ha:yf (ce aD) args0 = .yd st.next::aJ) (hl:ah.a_ aD.length args0) (hf:cV (JS st ps a_s bd) aD aR) (hp:aU P gf args0 aR aD.length s nx own' mv)
  (hK:E0 st.next Q ((JS st ps a_s bd).after aD nx own' mv)):ZL P (.rangeFunc g ps a_s bd) Q st:=by
 intro X w0 β a w n hm
 refine wpIn_rangeFunc (F:=FW none) ?_
 intro fn _
 have Hb:Below w.heap.size w (w.alloc (.deferred (some []))):=kP w _
 have Hi:∀ b,(X b\/b=w.heap.size)->X b\/(w.heap.size<=b/\b<(w.alloc (.deferred (some []))).heap.size):=λb hb=>hb.elim .inl λe=>.inr ⟨by omega,by simp;omega⟩
 have L:ax (λb=>X b\/b=w.heap.size) (JY (w.alloc (.deferred (some []))) st β w0.β0 w0.dF) st β a (w.alloc (.deferred (some []))):=
  hm.Ax Hi (λb=>.inl) (by simp) (λb hb _=>Hb.block b hb)
 have hu:=hm.h_ (X':=λb=>X b\/b=w.heap.size) (λb=>.inl) (hm.below.next Hb)
 have hD:(w.alloc (.deferred (some []))).heap[w.heap.size]?=some (.deferred (some [])):=World.alloc_heap_new w _
 obtain⟨G,O⟩:=TP L st.n 0 (by rw[<-hm.size];omega)
 rw[p_] at G
 generalize Hp:(λb=>X b\/b=w.heap.size)=X' at L hu G
 have A:X' w.heap.size:=by rw[<-Hp];exact .inr rfl
 generalize Hc:w.alloc (.deferred (some []))=w1 at L hu hD G
 generalize B:JY w1 st β w0.β0 w0.dF=w0' at L hu
 have C:w0'.w=w1:=by rw[<-B];rfl
 have I:w1.heap.size=w.heap.size+1:=by rw[<-Hc];simp
 let cw:Loop:={state:=.ready,pending:=none,fn,tmps:=a.tmps,params:=ps,assign:=a_s,body:=bd,defers:=w.heap.size}
 have T:ax X' w0' (JS st ps a_s bd) (λi=>if i=st.next then .pointer (some ⟨w1.heap.size,0,none⟩) else β i) a (w1.alloc (.loop cw)):=by
  refine L.new (kP w1 _) rfl O (λb hb=>by simp[bP] at hb;omega) ?_
  refine⟨w1.heap.size,fn,w.heap.size,a.tmps.toList,by simp[RK.ptr],.inl L.below.size,?_,?_⟩
  .have:=World.alloc_heap_new w1 (.loop cw)
   simpa[RK.at,cw] using this
  .refine zi.over (m:=st.next) (λid h=>by simp;intro e;omega) ?_ O G
   intro b hb he;refine⟨?_,(kP w1 _).block b hb⟩
   rintro(h | h)
   .exact he h
   .simp[bP] at h;omega
 generalize V:JS st ps a_s bd=fK at T hf hK
 have Y:fK.val g=st.val g:=by rw[<-V];rfl
 have N:fK.next=st.next+1:=by rw[<-V];rfl
 have hv:=(T.val g).2
 rw[Y] at hv
 obtain⟨lb,Hs,Hx⟩:∃ lb:List Value,a.eval g = .func (.func gf) #[] lb.toArray/\zi (w1.alloc (.loop cw)) (Ex X' (λi=>if i=st.next then .pointer (some ⟨w1.heap.size,0,none⟩) else β i) fK.own) (λi=>if i=st.next then .pointer (some ⟨w1.heap.size,0,none⟩) else β i) aJ lb:=by
  cases hf:st.val g <;> rw[hf] at H hv <;> simp only[xF] at H
  case d x=>
   cases x <;> simp only[xF] at H
   case fn f' l=>
    simp at H;obtain⟨rfl,rfl⟩:=H
    simp only[Sm,R] at hv;obtain⟨vs,h1,h2⟩:=hv;exact⟨vs,h1,zi.Z3 h2⟩
   all_goals cases H
  case fn f' l=>
   simp at H;obtain⟨rfl,rfl⟩:=H
   simp only[Sm] at hv;exact hv
  all_goals cases H
 have S:zi (w1.alloc (.loop cw)) (Ex X' (λi=>if i=st.next then .pointer (some ⟨w1.heap.size,0,none⟩) else β i) fK.own) (λi=>if i=st.next then .pointer (some ⟨w1.heap.size,0,none⟩) else β i) (.yd st.next::aJ) (.func (.yield w1.heap.size) #[] #[]::lb):=by
  simp only[zi];refine⟨_,_,rfl,?_,Hx⟩
  simp only[Sm];exact⟨w1.heap.size,by simp,rfl⟩
 generalize hβ2:(λi=>if i=st.next then Value.pointer (some ⟨w1.heap.size,0,none⟩) else β i)=β2 at T S
 have hβn:β2 st.next = .pointer (some ⟨w1.heap.size,0,none⟩):=by rw[<-hβ2];simp
 have hE:Ex (cZ X' β2 aD fK.own) (λi=>β2 (ce aD i)) aR=Ex X' β2 fK.own:=funext λb=>propext (hf.ex b)
 have G2:zi (w1.alloc (.loop cw)) (Ex (cZ X' β2 aD fK.own) (λi=>β2 (ce aD i)) aR) (λi=>β2 (ce aD i)) args0 (.func (.yield w1.heap.size) #[] #[]::lb):=by
  rw[<-ha] at S;rw[hE];exact Z5 (ρ:=ce aD) (β:=λi=>β2 (ce aD i)) (β':=β2) (m:=aD.length) (λ_ _=>rfl) hl S
 obtain⟨M,Ga⟩:=hp
 have E:=Ga (cZ X' β2 aD fK.own) (eE β2 aD (w1.alloc (.loop cw))) (λi=>β2 (ce aD i)) _ _ rfl (T.Ug hf) G2
 refine⟨w1.heap.size,[mark w.heap.size],w1.alloc (.loop cw),{target:=.fn (.func gf) lb.toArray,args:=#[.func (.yield w1.heap.size) #[] #[]]},w1.alloc (.loop cw),gf,(.func (.yield w1.heap.size) #[] #[]::lb).toArray,w1.alloc (.loop cw),?_,?_,λ_ _=>trivial,?_,λhd=>by simp[FW,Fence.wide] at hd,?_⟩
 .have:=run_enterLoop_outer (P:=P) (w:=w) fn a.tmps ps a_s bd
  rw[Hc,<-I] at this;exact this
 .simp only[resolve,Hs]
  simp[go_sem]
 .unfold aN at M
  cases W:P.funcs[gf]? with
  |none=>simp[W] at M
  |some fnn=>
   simp[W] at M;have e1:¬fnn.body=none:=by intro e;rw[e] at M;simp at M
   simp[invoke,callFunc,W,e1,M.1]
 .refine Aw (E.mono λe' w3 he=>?_)
  obtain⟨β1,v,rfl,Z,Gb,F0⟩:=he;have H0:=(T.Uh hf Z).1;have hβ3:wF β2 β1 aD fK.next st.next = .pointer (some ⟨w1.heap.size,0,none⟩):=by
   have h1:=Sz (β:=β2) (β1:=β1) hf k;have h2:yE aD fK.next k=st.next:=by
    unfold yE;rw[gt hk.1];exact hk.2.1
   rw[h2] at h1;rw[h1,Z.bI.2 k hk.1 hk.2.2];show β2 (ce aD k)=_
   rw[hk.2.1];exact hβn
  generalize Gc:fK.after aD nx own' mv=PR at H0 hK;generalize wF β2 β1 aD fK.next=β3 at H0 hβ3;unfold E0 at hK;split at hK
  .rename_i ps1 a1 b1 s1 pend cells1 Gd
   obtain⟨b,fn',D',vs',hb,hh,Go⟩:=E8 (s':=.exhausted) (pd':=pend) H0 Gd;have Gr:b=w1.heap.size:=by
    rw[hb] at hβ3;simpa using hβ3
   subst Gr;have Hd:=Go.filt (λx=>!Nat.beq x.1 st.next)
   rw[Az] at Hd;have H1:MX X w0 [w.heap.size] (JU PR st.next) β3 {a with defers:=[mark w.heap.size]++a.defers} _:=
    ⟨⟨X',w0',hu,by
     have e:({({a with defers:=[mark w.heap.size]++a.defers}:Act) with defers:=w0.dF}:Act)=a:=by have:=hm.defers;cases a;simp only at this;subst this;rfl
     rw[e];exact Hd,λD H2=>by
      have:D=w.heap.size:=by simpa using H2
      subst this;exact⟨A,by rw[C];exact hD⟩⟩,by rw[hm.defers];rfl,by simp,λD H2=>by
      have:D=w.heap.size:=by simpa using H2
      subst this;exact .inl hm.below.size⟩
   have K:s1≠.busy->(Instr.endLoop w1.heap.size).run P w3 = .ok pend _:=λJ=>run_endLoop (P:=P) hh J
   split at hK
   .exact hK.elim
   .rename_i _ _ J
    exact⟨none,_,K J,⟨.normal,_,β3,_,trivial,hK,H1⟩⟩
   .rename_i _ _ J
    exact⟨some .ret,_,K J,wpIn_ret ⟨.ret,_,β3,_,trivial,hK,H1⟩⟩
   .rename_i _ _ i J
    exact⟨some (.exit i),_,K J,wpIn_exit ⟨.exit i,_,β3,_,rfl,hK,H1⟩⟩
   .exact hK.elim
  .exact hK.elim
end
section
variable {P:Program} {st:St} {Q:DE->St->Prop}
def JV(P:Program)(y:Code)(Q:DE->St->Prop):DE->St->Prop:=Xr (λst=>qB P y Q st) Q
theorem UL{x y:Code}(h:ZL P x (JV P y Q) st):ZL P (.seq x y) Q st:=by
 intro X w0 β a w n K
 refine wpIn_seq (wpIn_mono (h X w0 β a w n K) ?_)
 rintro e a' w' ⟨de,st',β',ms',J,L,H⟩
 cases e <;> cases de <;> simp only[yq] at J
 .refine wpIn_mono (ZK (c:=y) (Q:=Q) (r:=none) L X w0 β' a' w' ms' n H) ?_
  rintro e2 a2 w2 ⟨de2,fK,β2,G,F,E⟩
  exact⟨de2,fK,β2,ms',G,F,E⟩
 .subst J;exact⟨.exit _,st',β',ms',rfl,L,H⟩
 .exact⟨.ret,st',β',ms',trivial,L,H⟩
theorem UM{id:Nat}{c:Code}(h:ZL P c (jD id Q) st):ZL P (.block id c) Q st:=by
 intro X w0 β a w n G
 refine wpIn_block (wpIn_mono (h X w0 β a w n G) ?_)
 rintro e a' w' ⟨de,st',β',ms',F,E,H⟩
 cases e <;> cases de <;> simp only[yq] at F
 .exact⟨.normal,st',β',ms',trivial,E,H⟩
 .subst F
  simp only[jD] at E;simp only[Exit.inBlock];split
  .rename_i e;rw[gt e] at E;exact⟨.normal,st',β',ms',trivial,E,H⟩
  .rename_i e;rw[ge e] at E;exact⟨.exit _,st',β',ms',rfl,E,H⟩
 .exact⟨.ret,st',β',ms',trivial,E,H⟩
theorem Yx(H:P.follows .mixedOrders=true)(n:Nat){c:Code}(S:St)(hs:uE n c=true):∀ {st:St},ev P (yo n c) (qL S Q) st->ZL P (yK n c) Q S->ZL P c Q st:=by
 induction n generalizing c with
 |zero=>
  intro st h F X w0 β a w m E;exact F X w0 β a w m (E.dY h)
 |succ n ih=>
  intro st h F;cases c <;> simp only[yo,yK,uE,reduceCtorEq] at h F hs
  case seq x y=>
   intro X w0 β a w m E;simp only[ev] at h;refine wpIn_seq (wpIn_mono (wpIn_wide.2 (bF H h X w0 β a w E)) ?_)
   rintro e a' w' ⟨de,st',β',K,J,G⟩
   cases e <;> cases de <;> simp only[yq] at K
   .exact ih hs J F X w0 β' a' w' m G
   .subst K;exact⟨.exit _,st',β',[],rfl,J,.of G⟩
   .exact⟨.ret,st',β',[],trivial,J,.of G⟩
theorem TQ{f:Nat}{fn:Func}{c:Code}(J:P.funcs[f]?=some fn)(L:fn.body=some c)(H:aN P f=true){args:List D}{r:D}
  (h:ZL P c (cJ (eF P fn.results.toList r)) (ct fn.ntmps args)):aq P f args r:=by
 refine⟨H,λw E vs M O=>?_⟩
 refine(callsIn_wide (n:=0)).1 (callsIn_of_wp_marks (F:=Fence.wide) (n:=0) J L trivial ?_)
 refine wpIn_mono (h E (.of w) _ _ w 0 (ax.iM M O)) ?_
 have ck:∀ {st' β' ms' a' w'},eF P fn.results.toList r st'->MX E (.of w) ms' st' β' a' w'->LeavesInM Fence.wide 0 P fn a'.tmps (λe w'=>∃ v,e = .returned v/\Below w.heap.size w w'/\R w' E r v) a'.defers .returning w':=by
  intro bv β' ms' a' w' Q G;rw[G.defers,show(bz.of w).dF=[] from rfl,oq]
  refine E9 rfl G λa2 w2 ea K=>?_
  obtain⟨v,T,V⟩:=kT K Q;rw[<-ea];exact⟨v,T,v,rfl,K.below.below,V⟩
 rintro e a' w' ⟨de,st',β',ms',X,Q,G⟩
 cases e <;> cases de <;> simp only[yq] at X
 .exact ck Q G
 .exact Q.elim
 .exact ck Q G
end
def wI:Code->Option (Array Tmp×Code×Code)
 |.rangeFunc _ ps a b=>some (ps,a,b)
 |.seq x y=>match wI x with
  |some r=>some r
  |none=>wI y
 |.block _ c=>wI c
 |_=>none
def jd(f:Func):Code:=match f.body with
 |some c=>match wI c with
  |some (_,a,_)=>a
  |none=>.skip
 |none=>.skip
def je(f:Func):Code:=match f.body with
 |some c=>match wI c with
  |some (_,_,b)=>b
  |none=>.skip
 |none=>.skip
theorem ZJ.t_o{P:Program}{st:St}{id:Nat}{xs:List Operand}{dst:Option Tmp}{K:St->Prop}(k:Nat)(aD:List Nat)(args0:List ah)(aR:List (Nat×am)){s:ah}{nx:Nat}{own':List (Nat×am)}{mv:List Nat}
  (H:k<aD.length/\ce aD k=id) (G:yf (ce aD) args0=xs.map st.val) (F:ah.a_ aD.length args0) (E:cV st aD aR) (J:Yy P k args0 aR aD.length s nx own' mv)
  (L:K ((st.after aD nx own' mv).put dst (cg (yE aD st.next) s))):ZJ P st id xs dst K:=⟨k,aD,args0,aR,s,nx,own',mv,H,G,F,E,J,L⟩
theorem aU.JW{P:Program}{f:Nat}{args:List ah}{own:List (Nat×am)}{n nx:Nat}{own':List (Nat×am)}{mv:List Nat}(h:aU P f args own n (.bE []) nx own' mv):aU P f args own n (.d (.bE [])) nx own' mv:=by
 refine⟨h.1,λX w0 β w vs hβ H hs=>(h.2 X w0 β w vs hβ H hs).mono λe w' G=>?_⟩
 obtain⟨β',v,F,E,K,J⟩:=G
 refine⟨β',v,F,E,by simp[ah.lo],?_⟩
 simp only[Sm,zi] at J
 obtain⟨vs',rfl,rfl⟩:=J
 simp[Sm,R,zI]
section
variable {P:Program} {st:St} {Q:DE->St->Prop} {K:St->Prop} {all r:List Oper}
def E1(P:Program)(all r:List Oper)(K:St->Prop):St->Prop:=λst=>wH P all r st K
theorem zqk:qB P .skip Q st=Q .normal st:=rfl
theorem zin(id:Nat)(ops:List Oper):qB P (.region id ops.toArray false) Q st=wH P ops ops st (Ux Q):=by simp[qB];rfl
theorem zss(x y:Code):qB P (.seq x y) Q st=qB P x (JV P y Q) st:=rfl
theorem zql(c:Operand)(x y:Code):qB P (.cond c x y) Q st=match st.val c with
  |.d (.bool b)=>(b=true->qB P x Q st)/\(b=false->qB P y Q st)
  |_=>False:=rfl
theorem zmu(id:Nat)(c:Code):qB P (.block id c) Q st=qB P c (jD id Q) st:=rfl
theorem zqm(id:Nat):qB P (.exit id) Q st=Q (.exit id) st:=rfl
theorem zst:qB P .ret Q st=Q .ret st:=rfl
theorem zfo(y:Code):JV P y Q .normal st=qB P y Q st:=rfl
theorem zmv(y:Code)(i:Nat):JV P y Q (.exit i) st=Q (.exit i) st:=rfl
theorem zqn(y:Code):JV P y Q .ret st=Q .ret st:=rfl
theorem zmw:wH P all [] st K=K st:=rfl
theorem zfp(dst:Option Tmp)(op:Op)(ty:Nat)(pos:String)(after:Array Edge):
  wH P all (⟨dst,op,ty,pos,after,none⟩::r) st K=XD P ⟨dst,op,ty,pos,after,none⟩ st (E1 P all r K):=rfl
theorem zfq(dst:Option Tmp)(op:Op)(ty:Nat)(pos:String)(after:Array Edge)(j:Nat)(want:Bool):
  wH P all (⟨dst,op,ty,pos,after,some (j,want)⟩::r) st K=match (all[j]?).bind (·.dst) with
   |some t=>match zc st.af t with
    |some (.d (.bool b))=>(b=want->XD P ⟨dst,op,ty,pos,after,some (j,want)⟩ (st.put (some t) (.d (.bool want))) (E1 P all r K)) /\
     (b = !want->yp dst st.n=true/\wH P all r ((st.put (some t) (.d (.bool !want))).put dst (.d (.val undef))) K)
    |some (.d (.val v))=>v=undef/\yp dst st.n=true/\wH P all r (st.put dst (.d (.val undef))) K
    |_=>False
   |none=>False:=rfl
theorem zio:E1 P all r K st=wH P all r st K:=rfl
theorem zao{bd:Code}{id n:Nat}:BZ P bd id n Q .normal st=((st.ai=n/\id∉st.aA)/\match st.ay id with
  |some (.cN (.lp ps a_s bd' .ready none) cells1)=>bd'=bd/\qB P bd Q {st with own:=zT id (.cN (.lp ps a_s bd' .busy none) cells1) st.own}
  |_=>False):=rfl
end
attribute [simp] zqk zin zss zql zmu zqm zst zfo zmv zqn zmw zfp zfq zio XD BX zao JQ cz Yu iT W0 UV gm XE JS JU E0
section
variable {P:Program} {st:St} {all:List Oper}
def XH(P:Program)(all:List Oper)(m:Nat)(K:St->Prop):List Oper->St->Prop
 | [],st=>K st
 |x::r,st=>yp x.dst st.n=true/\wj P all x st (λs=>ah.lo m s/\XH P all m K r (st.put x.dst s))
theorem TR{m:Nat}{K:St->Prop}:∀ {l:List Oper} {st:St},XH P all m K l st->∃ ss,ff P all l ss st/\(∀ s∈ss,ah.lo m s)/\K (bL l ss st)
 | [],st,h=>⟨[],rfl,by simp,h⟩
 |x::r,st,h=>by
  simp only[XH] at h;obtain⟨H,h⟩:=h;obtain⟨s,G,F,E⟩:=JB h;obtain⟨ss,q1,q2,q3⟩:=TR E;refine⟨s::ss,⟨s,ss,rfl,H,G,q1⟩,?_,q3⟩
  intro u J;rcases nE.1 J with e | J
  .subst e;exact F
  .exact q2 u J
theorem zmx(K:P.follows .mixedOrders=true){id:Nat}{bJ post:List Oper}(X:yO (bJ++post)=true)(Y:post≠[])(J:vF (bJ++post) bJ.length=true)(G:Yw (bJ++post) bJ.length=true){Q:DE->St->Prop}
  (F:(st.own.map (·.1)).Nodup) (h:XH P (bJ++post) st.next (gk P (Q .normal) post) bJ st):aT P (.region id (bJ++post).toArray true) Q st:=by
 refine JK K X ?_
 obtain⟨ss,Z,C,hd⟩:=TR h
 have L:=JC Z
 have M:∀ i k,(Seg.kd ⟨bJ++post,0,bJ.length,ss.map .val,st,λ_=>st.own⟩ i)=some k->∃ s,ss[i]?=some s/\k = .val s:=by
  intro i k hk;unfold Seg.kd at hk;split at hk
  .simp only[sq,pC] at hk
   cases hs:ss[i]? with
   |none=>rw[hs] at hk;cases hk
   |some s=>rw[hs] at hk;simp at hk;exact⟨s,rfl,hk.symm⟩
  .cases hk
 have H:∀ t,¬(Seg.U ⟨bJ++post,0,bJ.length,ss.map .val,st,λ_=>st.own⟩ t):=by
  rintro t ⟨i,ob,y,k,_,hk,_,hm⟩
  obtain⟨s,_,rfl⟩:=M i k hk;cases hm
 have O:∀ i id ob,Seg.kd ⟨bJ++post,0,bJ.length,ss.map .val,st,λ_=>st.own⟩ i≠some (.eh id ob):=by
  intro i id ob hk;obtain⟨s,_,e⟩:=M i _ hk;cases e
 have E:∀ i,Seg.zU ⟨bJ++post,0,bJ.length,ss.map .val,st,λ_=>st.own⟩ i=bL ((bJ++post).take i) (ss.take i) st:=by
  intro i;unfold Seg.zU;have I:(ss.map FK.val).map FK.sym=ss:=by
   rw[rW];have:(FK.sym∘FK.val)=λs=>s:=rfl
   rw[this,AM]
  simp only[p_,sq];rw[I]
 have A:∀ i,i<=bJ.length->(bJ++post).take i=bJ.take i:=λi hi=>by rw[o_ hi]
 refine eR.ic (pos:=0) (hi:=bJ.length) (ss.map .val) (λ_=>st.own) [] st.own ?_ ?_ (.inl J) ?_
 .refine⟨X,⟨nU _,by simp,by simp[L]⟩,λt _ _ h=>absurd h (H t),λi t ob m h=>absurd ⟨i,ob,h⟩ (H t),λi j id ob ob' h=>absurd h (O i id ob),λ_ id ob h=>⟨h,λi ob hk=>absurd hk (O i id ob)⟩,?_⟩
  intro i y k hy hk;obtain⟨s,hs,rfl⟩:=M i k hk;have hi:i<bJ.length:=by
   have:=(nN.1 hs).1
   omega
  have N:bJ[i]?=some y:=by
   have:(bJ++post)[i]?=bJ[i]?:=pl hi
   rw[<-this];exact hy
  obtain⟨s',B,S,W⟩:=Ut Z N;rw[hs] at B;cases B;refine⟨S,λt _=>H t,?_,C s (ol hs)⟩
  show eI P (bJ++post) y (Seg.zU ⟨bJ++post,0,bJ.length,ss.map .val,st,λ_=>st.own⟩ i) s
  rw[E,A i (by omega)]
  exact W
 .refine⟨λt ob h=>by simp at h,by simp,rfl,λ_ id ob h=>.inr ⟨?_,λi ob=>O i id ob⟩⟩
  have T:∀ {l:List (Nat×am)},(l.map (·.1)).Nodup->(id,ob)∈l->zc l id=some ob:=by
   intro l;induction l with
   |nil=>intro _ h;cases h
   |cons x r ih=>
    intro hn h;obtain⟨k,u⟩:=x;simp only[nK,oE] at hn;simp only[zc];rcases nE.1 h with e | h
    .cases e;simp
    .have H0:k≠id:=by intro e;subst e;exact hn.1 (nS.2 ⟨_,h,rfl⟩)
     rw[ge H0];exact ih hn.2 h
  exact T F h
 .have V:Seg.ck ⟨bJ++post,0,bJ.length,ss.map .val,st,λ_=>st.own⟩ [] st.own=bL bJ ss st:=by
   unfold Seg.ck;simp only[E,A bJ.length (nJ _),nH];have H1:ss.take bJ.length=ss:=by rw[oa (by omega)]
   obtain⟨p1,p2,p3,p4,p5⟩:=Xu bJ ss st;rw[H1];simp only[pc,rf,vi,qA,oP];cases hp:bL bJ ss st with
   |mk n next af own ai aA=>
    rw[hp] at p1 p2 p3 p4 p5;simp only at p1 p2 p3 p4 p5
    subst p1;subst p2;subst p3;subst p4;subst p5;rfl
  rw[V];refine V7 (k:=bJ.length) (by simp) (by simp) (λi h1 h2=>?_) hd
  have:=oo.1 G i (oc.2 h2)
  rw[oS,so] at this;exact this.elim (λe=>by omega) λe=>e
theorem zt8(F:P.follows .mixedOrders=true)(m:Nat){id:Nat}{ops:List Oper}{Q:DE->St->Prop}(K:yO ops=true)(J:decide (m<ops.length)=true)(E:vF ops m=true)(H:Yw ops m=true)
  (G:(st.own.map (·.1)).Nodup) (h:XH P ops st.next (gk P (Q .normal) (ops.drop m)) (ops.take m) st):aT P (.region id ops.toArray true) Q st:=by
 have J:m<ops.length:=w_ J
 have e:ops.take m++ops.drop m=ops:=oT m ops
 have L:(ops.take m).length=m:=by rw[nR];omega
 have:=zmx (P:=P) (st:=st) (bJ:=ops.take m) (post:=ops.drop m) (id:=id) (Q:=Q) F (by rw[e];exact K) (by intro e2;have:=congrArg List.length e2;rw[oO] at this;simp at this;omega) (by rw[e,L];exact E) (by rw[e,L];exact H) G (by rw[e];exact h)
 rw[e] at this
 exact this
attribute [simp] XH gk
end
section
variable {P:Program} {all:List Oper} {st:St} {Q:DE->St->Prop}
def zsu(P:Program)(ib n0:Nat)(st:St)(t:Nat)(ad x:ah)(K:Nat->am->Prop):Prop:=
 match TI.of P t,ad with
 |some ti,.bp id off=>match st.ay id with
  |some (.box T cells)=>match vh x with
   |some l=>(id=ib/\l.length=ti.size/\off+l.length<=cells.length/\ah.a_ n0 (aO cells off l))/\K id (.box T (aO cells off l))
   |none=>False
  |_=>False
 |_,_=>False
def TS(ib:Nat)(st:St)(b:Bool):St:={st with own:=if b=true then st.own else st.own.filter λx=>!Nat.beq x.1 ib}
def TU(P:Program)(all:List Oper)(n0:Nat)(dp:Nat->Bool)(ib:Nat):Nat->List Oper->St->List ah->(St->List ah->Prop)->Prop
 |_,[],st,ss,K=>K st ss
 |i,o::r,st,ss,K=>yp o.dst st.n=true/\wj P all o (TS ib st (dp i)) (λs=>ah.lo n0 s/\TU P all n0 dp ib (i+1) r (st.put o.dst s) (s::ss) K)
attribute [simp] zsu TU TS
end
end Go.V
namespace Go.V
variable [Dr] [Ov]
open Go.RowKit
def UN(P:Program)(n0:Nat)(st:St)(t id:Nat)(ad x:ah)(K:am->Prop):Prop:=
 match TI.of P t,vh x with
 |some ti,some l=>match ad,st.ay id with
  |.bp id' off,some (.box T cells)=>(id'=id/\l.length=ti.size/\off+l.length<=cells.length/\ah.a_ n0 (aO cells off l))/\K (.box T (aO cells off l))
  |.ap id' sz i off,some (.aQ T sz' rows)=>match vD l with
   |some ds=>(id'=id/\sz=sz'/\i<rows.length/\ds.length=ti.size/\off+ds.length<=(rows.getD i []).length)/\K (.aQ T sz (rows.set i (aO (rows.getD i []) off ds)))
   |none=>False
  |_,_=>False
 |_,_=>False
def ZM(aD:List Nat)(st:St):St:={st with own:=st.own.filter λx=>!aD.contains x.1}
def dD(all:List Oper)(m i:Nat):List Nat->List Nat
 | []=>[]
 |id::r=>if ZF all 4 m i=true then dD all (m+1) i r else id::dD all (m+1) i r
def V9(P:Program)(all:List Oper)(n0 m:Nat)(aD:List Nat):Nat->List Oper->St->List ah->(St->List ah->Prop)->Prop
 |_,[],st,ss,K=>K st ss
 |i,o::r,st,ss,K=>yp o.dst st.n=true/\wj P all o (ZM (dD all m i aD) st) (λs=>ah.lo n0 s/\V9 P all n0 m aD (i+1) r (st.put o.dst s) (s::ss) K)
def Va(P:Program)(n0:Nat)(st:St):List Oper->List Nat->List (Nat×am)->(List (Nat×am)->Prop)->Prop
 | [],[],bs,K=>K bs
 |o::r,id::aD,bs,K=>(o.guard=none/\o.dst=none/\(bs.map (·.1)).contains id=false)/\match o.op with
  |.store t (.tmp j) x=>UN P n0 st t id (st.val (.tmp j)) (st.val x) λob=>Va P n0 st r aD (bs++[(id,ob)]) K
  |_=>False
 |_,_,_,_=>False
def Z7:List (Nat×am)->List (Nat×am)->List (Nat×am)
 | [],own=>own
 |(id,ob)::r,own=>Z7 r (zT id ob own)
section
variable {P:Program} {all:List Oper} {st:St} {Q:DE->St->Prop}
theorem TV{n0 m:Nat}{aD:List Nat}{K:St->List ah->Prop}:∀ {l:List Oper} {i:Nat} {st:St} {rs:List ah},V9 P all n0 m aD i l st rs K ->
  ∃ ss:List ah,ss.length=l.length/\K (bL l ss st) (ss.reverse++rs)/\∀ j o,l[j]?=some o->∃ s,ss[j]?=some s/\yp o.dst st.n=true/\eI P all o (ZM (dD all m (i+j) aD) (bL (l.take j) (ss.take j) st)) s/\ah.lo n0 s
 | [],i,st,rs,h=>⟨[],rfl,by simp only[V9] at h;simpa[bL] using h,λj o hj=>by simp at hj⟩
 |x::r,i,st,rs,h=>by
  simp only[V9] at h;obtain⟨H,h⟩:=h;obtain⟨s,G,F,E⟩:=JB h;obtain⟨ss,q1,q2,q3⟩:=TV E;refine⟨s::ss,by simp[q1],by simpa[bL] using q2,λj o hj=>?_⟩
  cases j with
  |zero=>
   simp at hj;subst hj
   exact⟨s,rfl,H,by simpa[bL] using G,F⟩
  |succ j=>
   obtain⟨s',e1,e2,e3,e4⟩:=q3 j o (by simpa using hj)
   refine⟨s',by simpa using e1,?_,?_,e4⟩
   .have:(st.put x.dst s).n=st.n:=by unfold St.put;split <;> rfl
    rw[this] at e2;exact e2
   .rw[show i+(j+1)=i+1+j by omega]
    simpa[bL] using e3
theorem TW(aD:List Nat):∀ (l:List Oper) (ss:List ah) (st:St),bL l ss (ZM aD st)=ZM aD (bL l ss st)
 | [],ss,st=>by simp[bL]
 |o::r,[],st=>by simp[bL]
 |o::r,s::ss,st=>by
  have:(ZM aD st).put o.dst s=ZM aD (st.put o.dst s):=by
   unfold ZM St.put;cases o.dst <;> rfl
  simp only[bL];rw[this,TW aD r ss]
theorem TX(o':List (Nat×am)):∀ (l:List Oper) (ss:List ah) (st:St),(bL l ss {st with own:=o' }).af=(bL l ss st).af
 | [],ss,st=>by simp[bL]
 |y::r,[],st=>by simp[bL]
 |y::r,s::ss,st=>by
  simp only[bL];have:({st with own:=o' }:St).put y.dst s = {(st.put y.dst s) with own:=o' }:=by
   unfold St.put;cases y.dst <;> rfl
  rw[this];exact TX o' r ss (st.put y.dst s)
theorem TY:∀ {l:List Oper} {ss:List ah} {st:St},(∀ o∈l,o.dst=none)->bL l ss st=st
 | [],ss,st,_=>by simp[bL]
 |o::r,[],st,_=>by simp[bL]
 |o::r,s::ss,st,h=>by
  simp only[bL];rw[h o nL];exact TY λx H=>h x (nG _ H)
theorem E2{aD:List Nat}:∀ {l:List (Nat×am)} {id:Nat} {o:am},zc (l.filter λx=>!aD.contains x.1) id=some o->id∉aD/\zc l id=some o
 | [],id,o,h=>by simp[zc] at h
 |(k,v)::r,id,o,h=>by
  by_cases H:aD.contains k=true
  .rw[ri (by show ¬(!aD.contains k)=true;rw[H];simp)] at h
   obtain⟨G,F⟩:=E2 h;refine⟨G,?_⟩
   simp only[zc];rw[ge (λe=>by subst e;exact G (by simpa using H))];exact F
  .rw[pT (by show(!aD.contains k)=true;rw[rV.2 H];rfl)] at h
   simp only[zc] at h ⊢;split at h
   .rename_i e;subst e;rw[gt rfl];exact⟨λE=>H (by simpa using E),h⟩
   .rename_i e;rw[ge e];exact E2 h
theorem A0{i:Nat}:∀ {aD:List Nat} {m j id:Nat},aD[j]?=some id->ZF all 4 (m+j) i=true\/id∈dD all m i aD
 | [],m,j,id,h=>by simp at h
 |x::r,m,0,id,h=>by
  simp at h;subst h
  unfold dD;by_cases c:ZF all 4 m i=true
  .exact .inl c
  .rw[ge c];exact .inr nL
 |x::r,m,j+1,id,h=>by
  have ih:=A0 (i:=i) (aD:=r) (m:=m+1) (j:=j) (id:=id) (by simpa using h)
  rw[show m+(j+1)=m+1+j by omega]
  refine ih.imp_right λhm=>?_
  unfold dD;split
  .exact hm
  .exact nG _ hm
def E3(P:Program)(n0:Nat)(st:St)(o:Oper)(id:Nat)(ob:am):Prop:=
 o.guard=none/\o.dst=none/\ob.lo n0/\∃ o0,st.ay id=some o0/\∀ (S:Seg) (k:Nat),(∀ y,(S.zU k).val y=st.val y)->∀ (st':St) (K:St->Prop),dM S k o st'->st'.ay id=some o0->K {st' with own:=zT id ob st'.own}->yz P o st' K
theorem zqo{n0 t j id:Nat}{x:Operand}{o:Oper}{K:am->Prop}(E:o.op = .store t (.tmp j) x)(M:o.guard=none)(O:o.dst=none)(h:UN P n0 st t id (st.val (.tmp j)) (st.val x) K):∃ ob,E3 P n0 st o id ob/\K ob:=by
 unfold UN at h
 have kn:∀ {S:Seg} {k:Nat} {st':St},(∀ y,(S.zU k).val y=st.val y)->dM S k o st'->(st.val (.tmp j)≠.junk->st'.val (.tmp j)=st.val (.tmp j))/\(st.val x≠.junk->st'.val x=st.val x):=λ{S k st'} Q V=>by
  refine⟨λX=>?_,λX=>?_⟩
  .rw[V.2 (.tmp j) (by rw[E];simp[Op.operands]) (by rw[Q];exact X),Q]
  .rw[V.2 x (by rw[E];simp[Op.operands]) (by rw[Q];exact X),Q]
 split at h
 .rename_i ti l L hl
  have Y:st.val x≠.junk:=by intro e;rw[e] at hl;simp[vh] at hl
  split at h
  .rename_i id' off T cells F J
   obtain⟨⟨rfl,c1,c2,c3⟩,Z⟩:=h;refine⟨.box T (aO cells off l),⟨M,O,c3,_,J,λS k Q st' K V H G=>?_⟩,Z⟩
   obtain⟨k1,k2⟩:=kn Q V;unfold yz;rw[E];simp only;rw[O,L];simp only;unfold Xm;rw[k1 (by rw[F];simp),F,k2 Y];simp only
   rw[H];simp only;rw[hl];simp only;exact⟨c1,c2,G⟩
  .rename_i id' sz i off T sz' rows F J
   split at h
   .rename_i ds hds
    obtain⟨⟨rfl,rfl,c1,c2,c3⟩,Z⟩:=h;refine⟨.aQ T sz (rows.set i (aO (rows.getD i []) off ds)),⟨M,O,trivial,_,J,λS k Q st' K V H G=>?_⟩,Z⟩
    obtain⟨k1,k2⟩:=kn Q V;unfold yz;rw[E];simp only;rw[O,L];simp only;unfold Xm;rw[k1 (by rw[F];simp),F,k2 Y];simp only
    rw[H];simp only;rw[hl];simp only;rw[hds];simp only;first | exact⟨⟨rfl,c1,c2,c3⟩,G⟩ | exact⟨⟨trivial,c1,c2,c3⟩,G⟩ | exact⟨trivial,c1,c2,c3,G⟩ | exact⟨c1,c2,c3,G⟩ | (trace_state;exact⟨⟨c1,c2,c3⟩,G⟩)
   .exact h.elim
  .exact h.elim
 .exact h.elim
theorem A1{n0:Nat}{K:List (Nat×am)->Prop}:∀ {l:List Oper} {aD:List Nat} {bs:List (Nat×am)},Va P n0 st l aD bs K->∃ obs:List (Nat×am),obs.map (·.1)=aD/\l.length=aD.length/\(∀ (j:Nat) (o:Oper) (x:Nat×am),l[j]?=some o->obs[j]?=some x->E3 P n0 st o x.1 x.2)/\(∀ id∈bs.map (·.1),id∉aD)/\aD.Nodup/\K (bs++obs)
 | [],[],bs,h=>⟨[],rfl,rfl,λj o x hj=>by simp at hj,λ_ _=>by simp,tZ,by simp only[Va] at h;simpa using h⟩
 | [],_::_,bs,h=>h.elim
 |_::_,[],bs,h=>h.elim
 |o::r,id::aD,bs,h=>by
  unfold Va at h;obtain⟨⟨G,F,E⟩,h⟩:=h;split at h
  .rename_i t j x H
   obtain⟨ob,J,h⟩:=zqo H G F h;obtain⟨obs,q1,q2,q3,q4,q5,q6⟩:=A1 h;have cq:id∉bs.map (·.1):=by
    intro L;have:(bs.map (·.1)).contains id=true:=by simpa using L
    rw[E] at this;cases this
   refine⟨(id,ob)::obs,by simp[q1],by simp[q2],λj o' x' hj M=>?_,λk O L=>?_,oE.2 ⟨q4 id (by simp),q5⟩,by simpa using q6⟩
   .cases j with
    |zero=>simp at hj M;subst hj;subst M;exact J
    |succ j=>exact q3 j o' x' (by simpa using hj) (by simpa using M)
   .rcases nE.1 L with rfl | L
    .exact cq O
    .exact q4 k (by rw[oF];exact nM.2 (.inl O)) L
  .exact h.elim
theorem A2:∀ {l own:List (Nat×am)},(∀ x∈l,x.1∈own.map (·.1))->(Z7 l own).map (·.1)=own.map (·.1)
 | [],own,_=>rfl
 |(id,ob)::r,own,h=>by
  have H:=QH (v:=ob) (h _ nL);unfold Z7;rw[A2 λx G=>by rw[H];exact h x (nG _ G),H]
theorem A3:∀ {l own:List (Nat×am)} {id:Nat} {o:am},(∀ x∈l,x.1∈own.map (·.1))->(own.map (·.1)).Nodup->(l.map (·.1)).Nodup->(id,o)∈Z7 l own->(id,o)∈l\/((id,o)∈own/\id∉l.map (·.1))
 | [],own,id,o,_,_,_,h=>.inr ⟨h,by simp⟩
 |(k,ob)::r,own,id,o,G,F,E,h=>by
  have K:=QH (v:=ob) (G _ nL);have E:=oE.1 E;unfold Z7 at h;rcases A3 (λx J=>by rw[K];exact G x (nG _ J)) (by rw[K];exact F) E.2 h with h | ⟨h,L⟩
  .exact .inl (nG _ h)
  .rcases QI F h with⟨rfl,rfl⟩ | ⟨H,h⟩
   .exact .inl nL
   .exact .inr ⟨h,λM=>(nE.1 M).elim H L⟩
theorem Z8(Z:P.follows .mixedOrders=true)(m:Nat)(aD:List Nat){id:Nat}{ops:List Oper}(N:yO ops=true)(Y:Nat.ble (m+aD.length) ops.length=true)(O:Nat.blt 0 aD.length=true)(A:Yw ops (m+aD.length-1)=true)(K:(st.own.map (·.1)).Nodup)
  (h:V9 P ops st.next m aD 0 (ops.take m) st [] (λstF _=>Va P st.next {stF with own:=st.own} ((ops.drop m).take aD.length) aD [] (λbs=>gk P (Q .normal) (ops.drop (m+aD.length)) {st with af:=stF.af,own:=Z7 bs st.own}))) :
  aT P (.region id ops.toArray true) Q st:=by
 refine JK Z N ?_
 rw[so] at Y
 have O:0<aD.length:=by simpa using O
 obtain⟨ss,H,hK,T⟩:=TV h
 have W:(ops.take m).length=m:=by rw[nR];omega
 rw[W] at H
 obtain⟨p1,p2,p3,p4,p5⟩:=Xu (ops.take m) ss st
 generalize hE:bL (ops.take m) ss st=stE at hK p1 p2 p3 p4 p5
 obtain⟨obs,q1,q2,q3,_,q5,hK⟩:=A1 hK
 rw[oP] at hK
 have H1:obs.length=aD.length:=by rw[<-q1,om]
 have L:∀ j x,obs[j]?=some x->∃ o,ops[m+j]?=some o/\E3 P st.next {stE with own:=st.own} o x.1 x.2:=by
  intro j x hx;have hj:j<aD.length:=by have:=(nN.1 hx).1;omega
  have ho:((ops.drop m).take aD.length)[j]?=some (ops[m+j]'(by omega)):=by
   rw[og,gt hj,oQ];exact ac _
  exact⟨_,ac (by omega),q3 j _ x ho hx⟩
 have V:∀ x∈obs,x.1∈st.own.map (·.1):=by
  intro x hx;obtain⟨j,hj,e⟩:=nT.1 hx;obtain⟨o,_,_,_,_,o0,B,_⟩:=L j x (by rw[ac hj,e])
  exact nS.2 ⟨_,xm B,rfl⟩
 let ks:List FK:=ss.map .val++obs.map λx=>.eh x.1 x.2
 have H2:ks.length=m+aD.length:=by simp[ks,H,H1]
 let S:Seg:=⟨ops,0,m+aD.length,ks,st,λi=>if i<m then st.own.filter (λx=>!(dD ops m i aD).contains x.1) else []⟩
 have J:∀ i,S.aR i=if i<m then st.own.filter (λx=>!(dD ops m i aD).contains x.1) else []:=λi=>rfl
 have H0:∀ i,S.kd i=if i<m then (ss[i]?).map .val else (obs[i-m]?).map λx=>.eh x.1 x.2:=by
  intro i;show(if 0<=i/\i<m+aD.length then ks[i-0]? else none)=_
  rw[sq];by_cases h1:i<m
  .rw[gt (by omega),gt h1]
   simp only[ks];rw[pl (by simp;omega),pC]
  .rw[ge h1]
   by_cases h2:i<m+aD.length
   .rw[gt (by omega)]
    simp only[ks];rw[pF (by simp;omega),pC]
    simp[H]
   .rw[ge (by omega),ra (by omega)];rfl
 have M:∀ i k,S.kd i=some k->(i<m/\∃ s,ss[i]?=some s/\k = .val s)\/(∃ j x,i=m+j/\obs[j]?=some x/\k = .eh x.1 x.2):=by
  intro i k hk;rw[H0] at hk;split at hk <;> rw[rE] at hk <;> obtain⟨s,e1,e2⟩:=hk
  .rename_i h1;exact .inl ⟨h1,s,e1,e2.symm⟩
  .exact .inr ⟨i-m,s,by omega,e1,e2.symm⟩
 have F:∀ {i id ob},S.kd i=some (.eh id ob)->∃ j,i=m+j/\obs[j]?=some (id,ob):=by
  intro i id ob hk;rcases M i _ hk with⟨_,s,_,e⟩ | ⟨j,x,e1,e2,e3⟩
  .cases e
  .cases e3;exact⟨j,e1,e2⟩
 have E:∀ u,¬S.U u:=by
  rintro u ⟨i,o,y,k,_,hk,_,hm⟩
  rcases M i k hk with⟨_,s,_,rfl⟩ | ⟨_,_,_,_,rfl⟩ <;> cases hm
 have C:∀ i,i<m->S.zU i=ZM (dD ops m i aD) (bL (ops.take i) (ss.take i) st):=by
  intro i hi;unfold Seg.zU;show bL ((ops.drop 0).take (i-0)) ((ks.map FK.sym).take (i-0)) {st with own:=S.aR i}=_
  have Hb:(ks.map FK.sym).take i=ss.take i:=by
   simp only[ks,oF,rW];rw[show(FK.sym∘FK.val)=λs=>s from rfl,AM,o_ (by omega)]
  rw[J,gt hi];simp only[p_,sq];rw[Hb];exact TW _ _ _ st
 have G:∀ j,j<=aD.length->(S.zU (m+j)).af=stE.af:=by
  intro j hj;unfold Seg.zU;show(bL ((ops.drop 0).take (m+j-0)) ((ks.map FK.sym).take (m+j-0)) {st with own:=S.aR (m+j)}).af=_
  simp only[p_,sq];rw[TX];have e1:ops.take (m+j)=ops.take m++(ops.drop m).take j:=List.take_add ..
  have e2:(ks.map FK.sym).take (m+j)=ss++((obs.map λx=>FK.eh x.1 x.2).map FK.sym).take j:=by
   simp only[ks,oF,rW];rw[show(FK.sym∘FK.val)=λs=>s from rfl,AM,z_,oa (by omega),H,tf]
  rw[e1,e2,TJ (by rw[W,H]),TY,hE]
  intro o ho;obtain⟨i,hi,e⟩:=nT.1 ho;rw[nR,oO] at hi;have Hc:i<obs.length:=by omega
  obtain⟨o',X,_,hd,_⟩:=L i obs[i] (ac Hc);rw[sE,rm] at e;rw[ac (by omega),e] at X
  cases X;exact hd
 have Hd:∀ j,j<=aD.length->∀ y,(S.zU (m+j)).val y=({stE with own:=st.own}:St).val y:=by
  intro j hj y;cases y with
  |tmp u=>simp only[St.val];rw[G j hj]
  |_=>rfl
 have cuts:∀ i,m+aD.length-1<i->i<ops.length->vF ops i=true:=by
  intro i h1 h2;have:=oo.1 A i (oc.2 h2)
  rw[oS,so] at this;exact this.elim (λe=>by omega) λe=>e
 refine eR.ic (pos:=0) (hi:=m+aD.length) ks S.aR [] (Z7 obs st.own) ?_ ?_ ?_ ?_
 .refine⟨N,⟨nU _,Y,by simp[H2]⟩,λu _ _ hu=>absurd hu (E u),λi u o m' hc=>absurd ⟨i,o,hc⟩ (E u),?_,?_,?_⟩
  .intro a b id ob1 ob2 h1 h2
   obtain⟨j1,rfl,e1⟩:=F h1;obtain⟨j2,rfl,e2⟩:=F h2;have g1:aD[j1]?=some id:=by rw[<-q1,pC,e1];rfl
   have g2:aD[j2]?=some id:=by rw[<-q1,pC,e2];rfl
   obtain⟨l1,g1⟩:=nN.1 g1;obtain⟨l2,g2⟩:=nN.1 g2;rw[(List.getElem_inj q5).1 (g1.trans g2.symm)]
  .intro i id o ho
   have ho:zc (S.aR i) id=some o:=ho
   rw[J] at ho;split at ho
   .obtain⟨h1,h2⟩:=E2 ho
    refine⟨h2,λm' ob' hk=>?_⟩
    obtain⟨j,rfl,e1⟩:=F hk;have g1:aD[j]?=some id:=by rw[<-q1,pC,e1];rfl
    rcases A0 (all:=ops) (i:=i) (m:=m) g1 with hw | hw
    .exact⟨4,hw⟩
    .exact absurd hw h1
   .simp[zc] at ho
  .intro i o k ho hk
   have ho:ops[i]?=some o:=ho
   rcases M i k hk with⟨hi,s,hs,rfl⟩ | ⟨j,x,rfl,hx,rfl⟩
   .obtain⟨s',e1,e2,e3,e4⟩:=T i o (by rw[og,gt hi];exact ho)
    rw[hs] at e1;cases e1;refine⟨e2,λu _=>E u,?_,e4⟩
    show eI P ops o (S.zU i) s
    rw[C i hi];rw[pG,Bx,Nat.min_eq_left (by omega)] at e3
    exact e3
   .obtain⟨o',X,hg,hd,Hi,o0,B,Hp⟩:=L j x hx
    rw[ho] at X;cases X;have hj:j<obs.length:=(nN.1 hx).1
    exact⟨by rw[hd];rfl,hg,hd,λu _=>E u,Hi,o0,B,Hp S (m+j) (Hd j (by omega))⟩
 .refine⟨λu ob' hm=>by simp at hm,by simp,A2 V,λhn id o Hs=>?_⟩
  rcases A3 V K (by rw[q1];exact q5) Hs with h1 | ⟨h1,h2⟩
  .obtain⟨j,hj,e⟩:=nT.1 h1
   refine .inl ⟨m+j,?_⟩
   rw[H0,ge (by omega),tf,ac hj,e];rfl
  .refine .inr ⟨Ed K h1,λi ob' hk=>?_⟩
   obtain⟨j,_,e⟩:=F hk;exact h2 (nS.2 ⟨_,ol e,rfl⟩)
 .rcases pn Y with e | e
  .exact .inr e
  .exact .inl (cuts (m+aD.length) (by omega) e)
 .have I:Seg.ck ⟨ops,0,m+aD.length,ks,st,S.aR⟩ [] (Z7 obs st.own) = {st with af:=stE.af,own:=Z7 obs st.own}:=by
   unfold Seg.ck;rw[show(Seg.zU ⟨ops,0,m+aD.length,ks,st,S.aR⟩ (m+aD.length)).af=stE.af from G aD.length (nJ _)];rfl
  rw[I];exact V7 Y rfl (λi h1 h2=>cuts i (by omega) h2) hK
attribute [simp] UN V9 ZM dD Va Z7
end
end Go.V

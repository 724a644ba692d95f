/- A program logic of my own over the kit: part W1. It needs no conditions. -/
import Derived.Test.YtknekjalbninmaaGreatB1
set_option linter.unusedVariables false
set_option linter.unusedSimpArgs false
set_option linter.unusedSectionVars false
namespace Go.V
variable [Dr] [Ov]
open Go.RowKit
def Yn(P:Program)(all:List Oper)(m:Nat)(o:Oper):List Oper->St->(St->Prop)->Prop
 | [],st,K=>yq P o st K
 |x::r,st,K=>yj x.dst st.n=true/\jk P all x st (λs=>Sym.lo m s/\Yn P all m o r (st.put x.dst s) K)
section
variable {P:Program} {X:Nat->Prop} {w0:Base} {st:St} {β:Nat->Value} {a:Act} {w w':World} {all:List Oper}
theorem N9{m:Nat}{o:Oper}:∀ {l:List Oper} {st:St} {K:St->Prop},Yn P all m o l st K->∃ ss,Chain P all l ss st/\(∀ s∈ss,Sym.lo m s)/\yq P o (puts l ss st) K
 | [],st,K,h=>⟨[],rfl,by simp,h⟩
 |x::r,st,K,h=>by
  simp only[Yn] at h;obtain⟨H,h⟩:=h;obtain⟨s,G,F,E⟩:=Vw h;obtain⟨ss,q1,q2,q3⟩:=N9 E;refine⟨s::ss,⟨s,ss,rfl,H,G,q1⟩,?_,q3⟩
  intro u J;rcases List.mem_cons.1 J with e | J
  .subst e;exact F
  .exact q2 u J
theorem Na(E:P.follows .mixedOrders=true){id:Nat}{pre:List Oper}{o:Oper}(V:yT (pre++[o])=true)(K:vX (pre++[o]) pre.length=true)(hg:o.guard=none){Q:DE->St->Prop}
  (G:(st.own.map (·.1)).Nodup) (h:Yn P (pre++[o]) st.next o pre st (Q .normal)):Triple P (.region id (pre++[o]).toArray true) Q st:=by
 refine VF E V ?_
 obtain⟨ss,Y,B,hd⟩:=N9 h
 have J:=Vx Y
 have L:∀ i k,(Seg.kd ⟨pre++[o],0,pre.length,ss.map .val,st,λ_=>st.own⟩ i)=some k->∃ s,ss[i]?=some s/\k = .val s:=by
  intro i k hk;unfold Seg.kd at hk;split at hk
  .simp only[Nat.sub_zero,List.getElem?_map] at hk
   cases hs:ss[i]? with
   |none=>rw[hs] at hk;cases hk
   |some s=>rw[hs] at hk;simp at hk;exact⟨s,rfl,hk.symm⟩
  .cases hk
 have H:∀ t,¬(Seg.U ⟨pre++[o],0,pre.length,ss.map .val,st,λ_=>st.own⟩ t):=by
  rintro t ⟨i,ob,y,k,_,hk,_,hm⟩
  obtain⟨s,_,rfl⟩:=L i k hk;cases hm
 have M:∀ i id ob,Seg.kd ⟨pre++[o],0,pre.length,ss.map .val,st,λ_=>st.own⟩ i≠some (.bst id ob):=by
  intro i id ob hk;obtain⟨s,_,e⟩:=L i _ hk;cases e
 have F:∀ i,Seg.zX ⟨pre++[o],0,pre.length,ss.map .val,st,λ_=>st.own⟩ i=puts ((pre++[o]).take i) (ss.take i) st:=by
  intro i;unfold Seg.zX;have C:(ss.map FK.val).map FK.sym=ss:=by
   rw[List.map_map];have:(FK.sym∘FK.val)=λs=>s:=rfl
   rw[this,List.map_id']
  simp only[List.drop_zero,Nat.sub_zero];rw[C]
 have Z:∀ i,i<=pre.length->(pre++[o]).take i=pre.take i:=λi hi=>by rw[List.take_append_of_le_length hi]
 refine RegI.seg (pos:=0) (hi:=pre.length) (ss.map .val) (λ_=>st.own) [] st.own ?_ ?_ (.inl K) ?_
 .refine⟨V,⟨Nat.zero_le _,by simp,by simp[J]⟩,λt _ _ h=>absurd h (H t),λi t ob m h=>absurd ⟨i,ob,h⟩ (H t),λi j id ob ob' h=>absurd h (M i id ob),λ_ id ob h=>⟨h,λi ob hk=>absurd hk (M i id ob)⟩,?_⟩
  intro i y k hy hk;obtain⟨s,hs,rfl⟩:=L i k hk;have hi:i<pre.length:=by
   have:=(List.getElem?_eq_some_iff.1 hs).1
   omega
  have I:pre[i]?=some y:=by
   have:(pre++[o])[i]?=pre[i]?:=List.getElem?_append_left hi
   rw[<-this];exact hy
  obtain⟨s',A,S,W⟩:=WZ Y I;rw[hs] at A;cases A;refine⟨S,λt _=>H t,?_,B s (List.mem_of_getElem? hs)⟩
  show DStep P (pre++[o]) y (Seg.zX ⟨pre++[o],0,pre.length,ss.map .val,st,λ_=>st.own⟩ i) s
  rw[F,Z i (by omega)]
  exact W
 .refine⟨λt ob h=>by simp at h,by simp,rfl,λ_ id ob h=>.inr ⟨?_,λi ob=>M i id ob⟩⟩
  have O:∀ {l:List (Nat×Obj')},(l.map (·.1)).Nodup->(id,ob)∈l->zc l id=some ob:=by
   intro l;induction l with
   |nil=>intro _ h;cases h
   |cons x r ih=>
    intro hn h;obtain⟨k,u⟩:=x;simp only[List.map_cons,List.nodup_cons] at hn;simp only[zc];rcases List.mem_cons.1 h with e | h
    .cases e;simp
    .have H0:k≠id:=by intro e;subst e;exact hn.1 (List.mem_map.2 ⟨_,h,rfl⟩)
     rw[if_neg H0];exact ih hn.2 h
  exact O G h
 .have T:Seg.fin ⟨pre++[o],0,pre.length,ss.map .val,st,λ_=>st.own⟩ [] st.own=puts pre ss st:=by
   unfold Seg.fin;simp only[F,Z pre.length (Nat.le_refl _),List.take_length];have H1:ss.take pre.length=ss:=by rw[List.take_of_length_le (by omega)]
   obtain⟨p1,p2,p3,p4,p5⟩:=Yi pre ss st;rw[H1];simp only[List.length_nil,Nat.add_zero,vC,ve,List.nil_append];cases hp:puts pre ss st with
   |mk n next slots own base moved=>
    rw[hp] at p1 p2 p3 p4 p5;simp only at p1 p2 p3 p4 p5
    subst p1;subst p2;subst p3;subst p4;subst p5;rfl
  rw[T];refine RegI.tot (Q .normal) (by simp) (.inr (by simp)) ?_ ?_
  .intro X w0 β a w hm N Q' hN
   unfold wpOp;have:(pre++[o]).toArray[pre.length]?=some o:=by simp
   rw[this];simp only[Region.wanted,hg,if_true];exact .inl (ji hm hd N _ λa' w' st' β' hk Hc=>hN a' w' st' β' hk Hc)
  .intro st' hK
   have:pre.length+1=(pre++[o]).length:=by simp
   rw[this];exact .done hK
end
attribute [simp] Yn
end Go.V
namespace Go.V
def VG(l:List (Nat×Sym)):Bool:=l.all λx=>Nat.blt (x.1+1) 4096
end Go.V
namespace Go.V
variable [Dr] [Ov]
open Go.RowKit
def K9:List (Nat×Sym)->Tr
 | []=>.leaf
 |(t,s)::r=>(K9 r).put dep t s
def xsOf(st:St):XS:=⟨st.n,st.next,K9 st.slots,st.own,st.base,st.moved⟩
theorem Nb:∀ {l:List (Nat×Sym)} {u:Nat},VG l=true->Tr.get dep (K9 l) u=zc l u
 | [],u,h=>Tr.Q8 dep u
 |(t,s)::r,u,h=>by
  simp only[VG,List.all_cons,Bool.and_eq_true] at h;have H:t+1<4096:=by simpa using h.1
  simp only[K9,zc];rw[Tr.get_put dep _ t s u (by simpa[dep] using H),Nb (l:=r) h.2]
theorem Nc{st:St}(h:VG st.slots=true):Ag st (xsOf st) where
 n:=rfl
 next:=rfl
 own:=rfl
 base:=rfl
 moved:=λ_ _ h=>h
 slots:=λt=>(Nb h).symm
section
variable {P:Program} {Γ:XG} {call:Caller}
end
end Go.V
namespace Go.V
variable [Dr] [Ov]
open Go.RowKit
def qW(S:St)(Q:DE->St->Prop):DE->St->Prop
 |.normal,st=>Weak st S
 |e,st=>Q e st
def yn:Nat->Code->Code
 |0,_=>.skip
 |n+1,.seq a b=>.seq a (yn n b)
 |_+1,c=>c
def kj:Nat->Code->Bool
 |0,_=>true
 |n+1,.seq _ b=>kj n b
 |_+1,_=>false
def yL:Nat->Code->Code
 |0,c=>c
 |n+1,.seq _ b=>yL n b
 |_+1,_=>.skip
section
variable {P:Program} {st:St} {Q:DE->St->Prop}
theorem Yo{id:Nat}{c:Code}(h:Triple P c (vU id Q) st):Triple P (.block id c) Q st:=by
 intro X w0 β a w G
 refine wp_block (wp_mono (h X w0 β a w G) ?_)
 rintro e a' w' ⟨de,st',β',F,E,H⟩
 cases e <;> cases de <;> simp only[yr] at F
 .exact⟨.normal,st',β',trivial,E,H⟩
 .subst F
  simp only[vU] at E;simp only[Exit.inBlock];split
  .rename_i e;rw[if_pos e] at E;exact⟨.normal,st',β',trivial,E,H⟩
  .rename_i e;rw[if_neg e] at E;exact⟨.exit _,st',β',rfl,E,H⟩
 .exact⟨.ret,st',β',trivial,E,H⟩
theorem VH{x y:Code}(h:Triple P x (VA P y Q) st)(H:P.follows .mixedOrders=true):Triple P (.seq x y) Q st:=by
 intro X w0 β a w F
 refine wp_seq (wp_mono (h X w0 β a w F) ?_)
 rintro e a' w' ⟨de,st',β',E,K,G⟩
 cases e <;> cases de <;> simp only[yr] at E
 .exact zL H K X w0 β' a' w' G
 .subst E;exact⟨.exit _,st',β',rfl,K,G⟩
 .exact⟨.ret,st',β',trivial,K,G⟩
theorem Ka{x y:Code}(S:St)(h:Triple P x (qW S Q) st)(G:Triple P y Q S):Triple P (.seq x y) Q st:=by
 intro X w0 β a w F
 refine wp_seq (wp_mono (h X w0 β a w F) ?_)
 rintro e a' w' ⟨de,st',β',E,K,H⟩
 cases e <;> cases de <;> simp only[yr] at E
 .exact G X w0 β' a' w' (H.weak K)
 .subst E;exact⟨.exit _,st',β',rfl,K,H⟩
 .exact⟨.ret,st',β',trivial,K,H⟩
theorem jI(H:P.follows .mixedOrders=true)(n:Nat){c:Code}(S:St)(hs:kj n c=true):∀ {st:St},ev P (yn n c) (qW S Q) st->Triple P (yL n c) Q S->Triple P c Q st:=by
 induction n generalizing c with
 |zero=>
  intro st h F X w0 β a w E;exact F X w0 β a w (E.weak h)
 |succ n ih=>
  intro st h F;cases c <;> simp only[yn,yL,kj,reduceCtorEq] at h F hs
  case seq x y=>
   intro X w0 β a w E;simp only[ev] at h;refine wp_seq (wp_mono (zL H h X w0 β a w E) ?_)
   rintro e a' w' ⟨de,st',β',K,J,G⟩
   cases e <;> cases de <;> simp only[yr] at K
   .exact ih hs J F X w0 β' a' w' G
   .subst K;exact⟨.exit _,st',β',rfl,J,G⟩
   .exact⟨.ret,st',β',trivial,J,G⟩
def Kb(S:St)(p:Prop)(Q:DE->St->Prop):DE->St->Prop
 |.normal,st=>p/\Weak st S
 |e,st=>Q e st
theorem zjs(H:P.follows .mixedOrders=true)(n:Nat){c:Code}(S:St)(p:Prop)(hs:kj n c=true):∀ {st:St},ev P (yn n c) (Kb S p Q) st->(p->Triple P (yL n c) Q S)->Triple P c Q st:=by
 induction n generalizing c with
 |zero=>
  intro st h F X w0 β a w E;exact F h.1 X w0 β a w (E.weak h.2)
 |succ n ih=>
  intro st h F;cases c <;> simp only[yn,yL,kj,reduceCtorEq] at h F hs
  case seq x y=>
   intro X w0 β a w E;simp only[ev] at h;refine wp_seq (wp_mono (zL H h X w0 β a w E) ?_)
   rintro e a' w' ⟨de,st',β',K,J,G⟩
   cases e <;> cases de <;> simp only[yr] at K
   .exact ih hs J F X w0 β' a' w' G
   .subst K;exact⟨.exit _,st',β',rfl,J,G⟩
   .exact⟨.ret,st',β',trivial,J,G⟩
theorem zdm{S:St}{p:Prop}:Kb S p Q .normal st=(p/\Weak st S):=rfl
theorem zg1{S:St}{p:Prop}(i:Nat):Kb S p Q (.exit i) st=Q (.exit i) st:=rfl
theorem zil{S:St}{p:Prop}:Kb S p Q .ret st=Q .ret st:=rfl
theorem zaz{f:Nat}{fn:Func}{c:Code}(F:P.funcs[f]?=some fn)(E:fn.body=some c)(H:callable P f=true)
  {args:List Sym} {own:List (Nat×Obj')} {n:Nat} {s:Sym} {nx:Nat} {own':List (Nat×Obj')} {mv:List Nat} (K:Sym.los n args)
  (h:Triple P c (jG (uE P fn.results.toList n s nx own' mv)) (initC fn.ntmps args own n)):zJ P f args own n s nx own' mv:=by
 refine⟨H,λX w0 β w vs hβ J hs=>?_⟩
 refine calls_of_wp F E ?_
 refine wp_mono (h X w0 _ _ w (J.initC hs K)) ?_
 rintro e a' w' ⟨de,st',β',L,M,G⟩
 cases e <;> cases de <;> simp only[yr] at L
 .obtain⟨v,O,Q,T,V⟩:=uF J.defers G M
  exact⟨G.defers.trans J.defers.symm,v,O,β',v,rfl,Q,T,V⟩
 .exact M.elim
 .obtain⟨v,O,Q,T,V⟩:=uF J.defers G M
  exact⟨G.defers.trans J.defers.symm,v,O,β',v,rfl,Q,T,V⟩
theorem FT{f:Nat}{fn:Func}{c:Code}(F:P.funcs[f]?=some fn)(K:fn.body=some c)(G:callable P f=true){args:List D}{r:D}
  (h:Triple P c (jG (uD P fn.results.toList r)) (jj fn.ntmps args)):zj P f args r:=by
 refine⟨G,λw E vs J L=>?_⟩
 refine calls_of_wp F K ?_
 refine wp_mono (h E (.of w) _ _ w (Mods.init J L)) ?_
 rintro e a' w' ⟨de,st',β',M,O,H⟩
 cases e <;> cases de <;> simp only[yr] at M
 .obtain⟨v,Q,T⟩:=wN H O
  exact⟨H.defers,v,Q,v,rfl,H.below.below,T⟩
 .exact O.elim
 .obtain⟨v,Q,T⟩:=wN H O
  exact⟨H.defers,v,Q,v,rfl,H.below.below,T⟩
theorem wrap64{n:Int}(h : -9223372036854775808<=n/\n<=9223372036854775807):IntKind.i64.wrap n=n:=IntWalk.i64_in n (by omega)
theorem yU(J:P.follows .mixedOrders=true){α:Type}{c:Code}{Q:DE->St->Prop}(S:α->St)(inv:α->Prop)(μ:α->Nat)(x0:α)(Y:inv x0)(Z:Weak st (S x0))
  (A:∀ x,inv x->Triple P c (afterLoop S inv μ x Q) (S x)):Triple P (.loop c) Q st:=by
 intro X w0 β a w B
 let I:Nat->Act->World->Prop:=λn a w=>∃ x β,inv x/\μ x=n/\Mods X w0 (S x) β a w
 have key:∀ a w,(∃ n,I n a w)->∃ n,I n a w/\∀ m,I m a w->n<=m:=by
  intro a w ⟨n,C⟩;induction n using Nat.strongRecOn with
  |_ n ih=>
   by_cases h:∃ m,m<n/\I m a w
   .obtain⟨m,N,W⟩:=h;exact ih m N W
   .exact⟨n,C,λm B=>by rcases Nat.lt_or_ge m n with h' | h';exact absurd ⟨m,h',B⟩ h;exact h'⟩
 classical
 let M:Act->World->Nat:=λa w=>if h:∃ n,I n a w then Classical.choose (key a w h) else 0
 refine wp_loop (λa w=>∃ n,I n a w) M ⟨_,x0,β,Y,rfl,B.weak Z⟩ ?_
 intro a w hI
 have G:=Classical.choose_spec (key a w hI)
 have hM:M a w=Classical.choose (key a w hI):=dif_pos hI
 rw[<-hM] at G
 obtain⟨⟨x,β',hx,hμ,L⟩,O⟩:=G
 refine wp_mono (A x hx X w0 β' a w L) ?_
 rintro e a' w' ⟨de,st',β'',he,hq,H⟩
 cases e <;> cases de <;> simp only[yr] at he
 .obtain⟨y,hy,V,E⟩:=hq
  have F:∃ n,I n a' w':=⟨μ y,y,β'',hy,rfl,H.weak E⟩
  refine⟨F,?_⟩
  have K:=Classical.choose_spec (key a' w' F);have T:M a' w'=Classical.choose (key a' w' F):=dif_pos F
  rw[<-T] at K;have:=K.2 (μ y) ⟨y,β'',hy,rfl,H.weak E⟩
  omega
 .subst he;exact⟨.exit _,st',β'',rfl,hq,H⟩
 .exact⟨.ret,st',β'',trivial,hq,H⟩
theorem zdn{S:St}:qW S Q .normal st=Weak st S:=rfl
theorem zg2{S:St}(i:Nat):qW S Q (.exit i) st=Q (.exit i) st:=rfl
theorem zim{S:St}:qW S Q .ret st=Q .ret st:=rfl
end
attribute [simp] zdm zg1 zil
attribute [simp] zdn zg2 zim yn yL
end Go.V
namespace Go.V
variable [Dr] [Ov]
open Go.RowKit
def Nf(P:Program)(all:List Oper)(m:Nat):List Oper->St->(St->Prop)->Prop
 | [],st,K=>K st
 |x::r,st,K=>yj x.dst st.n=true/\jk P all x st (λs=>Sym.lo m s/\Nf P all m r (st.put x.dst s) K)
section
variable {P:Program} {st:St} {all:List Oper}
theorem Ng:∀ {l l':List Oper} {ss ss':List Sym} {st:St},ss.length=l.length->puts (l++l') (ss++ss') st=puts l' ss' (puts l ss st)
 | [],l',[],ss',st,_=>rfl
 |o::r,l',s::ss,ss',st,h=>by
  simp only[List.cons_append,puts];exact Ng (by simpa using h)
theorem FU{f:Operand}{xs:List Operand}{dst:Option Tmp}{K:St->Prop}{g:Nat}{ds:List D}{lent:Bool}{r:D}(H:jY (st.xi (kg (xs.map st.val))) f xs=some (g,ds,lent))(G:zj P g ds r)
  (hs:lent=true->r.scalar=true) (F:K ((st.xi (kg (xs.map st.val))).put dst (.d r))):zF P st f xs dst K:=by
 refine zF.frozen ?_
 unfold gk;rw[H];exact .inl ⟨r,G,λe=>.inl (hs e),F⟩
end
attribute [simp] Nf
end Go.V
namespace Go.V
variable [Dr] [Ov]
open Go.RowKit
def Nh:Op->Bool
 |.box _ _ |.alloc _ |.makeMap _ none |.buildSlice _ _ _ |.assign (.const (.slice none 0 0))=>true
 |_=>false
def VI(P:Program)(n0:Nat)(ρ:Operand->Sym)(ty:Nat)(K:Obj'->Prop):Op->Prop
 |.box T x=>match qG (ρ x) with
  |some l=>Sym.los n0 l/\K (.box T l)
  |none=>False
 |.alloc T=>match TI.of P T with
  |some ti=>ti.zero.all (·.oneCell')=true/\K (.box T (ti.zero.map ofConst))
  |none=>False
 |.makeMap t none=>K (.map t [])
 |.assign (.const (.slice none 0 0))=>match TI.of P ty with
  |some ⟨.slice e,_,_,_,_⟩=>match TI.of P e with
   |some te=>K (.arr e te.size [])
   |none=>False
  |_=>False
 |.buildSlice t n parts=>match TI.of P t with
  |some ⟨.slice e,_,_,_,_⟩=>match TI.of P e with
   |some te=>match inOrder 0 parts.toList with
    |some l=>match kg (l.map ρ),rowsOf te.size (l.map ρ) with
     | [],some rows=>l.length=n/\0<te.size/\n*te.size<=16777216/\K (.arr e te.size rows)
     |_,_=>False
    |none=>False
   |none=>False
  |_=>False
 |_=>False
def Kc(hs:List (Nat×Obj'))(ρ:Operand->Sym)(x:Operand):Option (Option Nat×List (List D)):=
 match x with
 |.tmp k=>match zc hs k with
  |some (.arr _ _ rows)=>some (some k,rows)
  |some _=>none
  |none=>match ρ (.tmp k) with
   |.d (.sl l)=>some (none,l)
   |.nils=>some (none,[])
   |_=>none
 |x=>match ρ x with
  |.d (.sl l)=>some (none,l)
  |.nils=>some (none,[])
  |_=>none
def FV(src:Option Nat)(hs:List (Nat×Obj')):List (Nat×Obj'):=match src with
 |some k=>hdrop k hs
 |none=>hs
def Kd(P:Program)(hs:List (Nat×Obj'))(ρ:Operand->Sym)(j:Nat)(x:Operand)(t t' d:Nat)(K:FK->List (Nat×Obj')->Prop):Prop:=
 match zc hs j,TI.of P t with
 |some (.arr T sz rows),some ⟨.slice e,_,_,_,_⟩=>match TI.of P e,Kc hs ρ x with
  |some te,some (src,l)=>(t'=t/\0<te.size/\te.zero.length=te.size/\te.zero.all (·.oneCell')=true/\T=e/\sz=te.size/\(∀ r∈l,r.length=te.size)/\(rows.length+l.length)*te.bytes<=140737488355328 /\
    rows.length+l.length<=maxLen/\src≠some j)/\K (.app j src (.arr e te.size (rows++l))) ((d,.arr e te.size (rows++l))::hdrop j (FV src hs))
  |_,_=>False
 |_,_=>False
def Ke(P:Program)(n0:Nat)(hs:List (Nat×Obj'))(ρ:Operand->Sym)(t j:Nat)(x:Operand)(K:FK->List (Nat×Obj')->Prop):Prop:=
 match TI.of P t,qG (ρ x),zc hs j with
 |some ti,some l,some (.box T cells)=>(l.length=ti.size/\Sym.los n0 l/\l.length<=cells.length)/\K (.qA j (.box T (splice cells 0 l))) ((j,.box T (splice cells 0 l))::hdrop j hs)
 |_,_,_=>False
def Kf(P:Program)(all:List Oper)(n0:Nat)(o:Oper)(st:St)(hs:List (Nat×Obj'))(K:FK->List (Nat×Obj')->Prop):Prop:=
 jk P all o st (λs=>Sym.lo n0 s/\K (.val s) hs)
def VJ(P:Program)(all:List Oper)(n0:Nat)(vl:List Nat)(o:Oper)(st:St)(hs:List (Nat×Obj'))(K:FK->List (Nat×Obj')->Prop):Prop:=
 match o.op,o.guard,o.dst with
 |.call {callee:=.builtin .append,args:=xs,argTypes:=ts},none,some d=>match xs.toList,ts.toList with
  | [.tmp j,x],[t,t']=>Kd P hs st.val j x t t' d K
  |_,_=>False
 |.store t (.tmp j) x,none,none=>Ke P n0 hs st.val t j x K
 |op,none,some d=>if Nh op=true/\vl.contains d=false then VI P n0 st.val o.type (λob=>K (.mk ob) ((d,ob)::hs)) op else Kf P all n0 o st hs K
 |_,_,_=>Kf P all n0 o st hs K
def jm(P:Program)(all:List Oper)(n0:Nat)(vl:List Nat)(K:St->List FK->List (Nat×Obj')->Prop):List Oper->St->List FK->List (Nat×Obj')->Prop
 | [],st,ks,hs=>K st ks hs
 |o::r,st,ks,hs=>Zx o.dst st.n=true/\VJ P all n0 vl o st hs (λk hs'=>jm P all n0 vl K r (st.put o.dst k.sym) (k::ks) hs')
def Ni(P:Program)(K:St->Prop):List Oper->St->Prop
 | [],st=>K st
 | [o],st=>o.guard=none/\yq P o st K
 |_,_=>False
def Kg(all seg:List Oper)(ks:List FK):Bool:=Yu all seg ks 0 seg ks&&nodupB (w9 ks)
section
variable {P:Program} {all:List Oper} {lo:Nat} {st0:St} {F F':XF} {i:Nat} {o:Oper}
theorem zg3{n n0:Nat}{ρ:Operand->Sym}{o:Oper}{K:Obj'->Prop}(E:yj o.dst n=true)(h:VI P n0 ρ o.type K o.op):
  ∃ ob,K ob/\ob.lo n0/\∀ (st:St) (K:St->Prop),VZ n ρ o st->K ((st.new ob).put o.dst (ref ob st.next))->yq P o st K:=by
 unfold VI at h
 split at h
 .rename_i T x J
  split at h
  .rename_i l L
   refine⟨_,h.2,h.1,λst K M O=>?_⟩
   have Q:=M.2 x (by rw[J];simp[Op.operands]) (by intro e;rw[e] at L;simp[qG] at L)
   unfold yq;rw[J];simp only;refine⟨by rw[M.1];exact E,?_⟩
   unfold Vf;rw[Q,L];exact O
  .exact h.elim
 .rename_i T J
  split at h
  .rename_i ti ht
   refine⟨_,h.2,O9 _ _,λst K M O=>?_⟩
   unfold yq;rw[J];simp only;rw[ht];exact⟨by rw[M.1];exact E,h.1,O⟩
  .exact h.elim
 .rename_i t J
  refine⟨_,h,trivial,λst K M O=>?_⟩
  unfold yq;rw[J];simp only;exact⟨by rw[M.1];exact E,O⟩
 .rename_i J
  split at h
  .rename_i e _ _ _ _ ht
   split at h
   .rename_i te hte
    refine⟨_,h,trivial,λst K M O=>?_⟩
    unfold yq;rw[J];simp only;rw[ht];simp only;rw[hte];exact⟨by rw[M.1];exact E,O⟩
   .exact h.elim
  .exact h.elim
 .rename_i t m parts J
  split at h
  .rename_i e _ _ _ _ ht
   split at h
   .rename_i te hte
    split at h
    .rename_i l L
     split at h
     .rename_i rows F H
      obtain⟨V,X,Y,Z⟩:=h;refine⟨_,Z,trivial,λst K M O=>?_⟩
      have G:l.map st.val=l.map ρ:=by
       refine List.map_congr_left λx A=>M.2 x ?_ (Oa H x A)
       obtain⟨i,hi⟩:=Ob L x A;rw[J];simp only[Op.operands];simp;exact⟨i,by simpa using hi⟩
      unfold yq;rw[J];simp only;refine⟨by rw[M.1];exact E,?_⟩
      unfold Vm;rw[ht];simp only;rw[hte];simp only;rw[L];simp only;rw[G,F];refine⟨V,X,Y,?_⟩
      simp only[St.xi];rw[G,H];exact O
     .exact h.elim
    .exact h.elim
   .exact h.elim
  .exact h.elim
 .exact h.elim
theorem zg4{hs:List (Nat×Obj')}{ρ:Operand->Sym}{x:Operand}{src:Option Nat}{l:List (List D)}(h:Kc hs ρ x=some (src,l)):
  (∃ k T sz,x = .tmp k/\src=some k/\zc hs k=some (.arr T sz l))\/(src=none/\(ρ x = .d (.sl l)\/(ρ x = .nils/\l=[]))):=by
 unfold Kc at h
 split at h
 .rename_i k
  split at h
  .rename_i T sz rows H;cases h;exact .inl ⟨k,T,sz,rfl,rfl,H⟩
  .cases h
  .split at h
   .rename_i l' G;cases h;exact .inr ⟨rfl,.inl G⟩
   .rename_i G;cases h;exact .inr ⟨rfl,.inr ⟨G,rfl⟩⟩
   .cases h
 .split at h
  .rename_i l' G;cases h;exact .inr ⟨rfl,.inl G⟩
  .rename_i G;cases h;exact .inr ⟨rfl,.inr ⟨G,rfl⟩⟩
  .cases h
theorem ze1{n n0:Nat}{hs:List (Nat×Obj')}{ρ:Operand->Sym}{o:Oper}{j t t' d:Nat}{x:Operand}{K:FK->List (Nat×Obj')->Prop}(O:yj o.dst n=true)(Q:o.op = .call {callee:=.builtin .append,args:=#[.tmp j,x],argTypes:=#[t,t']})
  (h:Kd P hs ρ j x t t' d K):∃ src ob oj ok,K (.app j src ob) ((d,ob)::hdrop j (FV src hs))/\jH ob/\ob.lo n0/\zc hs j=some oj/\jH oj /\
   (∀ k,src=some k->x = .tmp k/\k≠j/\zc hs k=some ok/\jH ok) /\
   ∀ (st:St) (K:St->Prop) (id:Nat),VZ n ρ o st->st.val (.tmp j) = .ar id->st.look id=some oj->(∀ k,src=some k->∃ id',id'≠id/\st.val (.tmp k) = .ar id'/\st.look id'=some ok) ->
    K ((st.renew id ob).put o.dst (.ar id))->yq P o st K:=by
 unfold Kd at h
 split at h
 .rename_i T sz rows e _ _ _ _ hj ht
  split at h
  .rename_i te src l E F
   obtain⟨⟨V,X,Y,J,Z,A,B,C,I,N⟩,h⟩:=h;have key:∀ (st:St) (K:St->Prop) (id:Nat),VZ n ρ o st->st.val (.tmp j) = .ar id->st.look id=some (.arr T sz rows)->wK st id (st.val x)=some l->K ((st.renew id (.arr e te.size (rows++l))).put o.dst (.ar id))->yq P o st K:=by
    intro st K id S W hl hs hK;unfold yq;rw[Q];simp only;refine⟨by rw[S.1];exact O,?_⟩
    refine .inl ?_
    unfold Vn;rw[ht];simp only;rw[E];simp only;refine⟨V,X,Y,J,?_⟩
    rw[W];simp only;rw[hl,hs];simp only;exact⟨Z,A,B,C,I,hK⟩
   rcases zg4 F with⟨k,T',sz',rfl,rfl,S⟩ | ⟨rfl,W⟩
   .have L:k≠j:=λe=>N (by rw[e])
    refine⟨some k,_,.arr T sz rows,.arr T' sz' l,h,trivial,trivial,hj,trivial,λk' e=>by cases e;exact⟨rfl,L,S,trivial⟩,λst K id H W hl hs hK=>?_⟩
    obtain⟨id',g1,g2,g3⟩:=hs k rfl;refine key st K id H W hl ?_ hK
    rw[g2];simp only[wK];rw[if_neg g1,g3]
   .refine⟨none,_,.arr T sz rows,.arr T sz rows,h,trivial,trivial,hj,trivial,λk' e=>(by cases e),λst K id H M hl hs hK=>?_⟩
    refine key st K id H M hl ?_ hK
    have G:x∈o.op.operands:=by rw[Q];simp[Op.operands,Call.operands]
    rcases W with W | ⟨W,rfl⟩
    .rw[H.2 x G (by rw[W];simp),W];rfl
    .rw[H.2 x G (by rw[W];simp),W];rfl
  .exact h.elim
 .exact h.elim
theorem ze2{n n0:Nat}{hs:List (Nat×Obj')}{ρ:Operand->Sym}{o:Oper}{j t:Nat}{x:Operand}{K:FK->List (Nat×Obj')->Prop}(H:∀ k ob,zc hs k=some ob->ob.lo n0)(J:o.op = .store t (.tmp j) x)(L:o.dst=none)
  (h:Ke P n0 hs ρ t j x K) :
  ∃ ob oj,K (.qA j ob) ((j,ob)::hdrop j hs)/\wO ob/\ob.lo n0/\zc hs j=some oj/\wO oj /\
   ∀ (st:St) (K:St->Prop) (id:Nat),VZ n ρ o st->st.val (.tmp j) = .bp id 0->st.look id=some oj->K {st with own:=zV id ob st.own}->yq P o st K:=by
 unfold Ke at h
 split at h
 .rename_i ti l T cells M O hj
  obtain⟨⟨Q,V,X⟩,h⟩:=h;have G:ρ x≠.junk:=by intro e;rw[e] at O;simp[qG] at O
  have F:x∈o.op.operands:=by rw[J];simp[Op.operands]
  refine⟨_,.box T cells,h,trivial,zhb (H j _ hj) V,hj,trivial,λst K id Y Z E A=>?_⟩
  unfold yq;rw[J];simp only;rw[L,M];simp only;unfold Yc;rw[Z];simp only;rw[E];simp only;rw[Y.2 x F G,O];exact⟨Q,by omega,A⟩
 .exact h.elim
theorem zg5(L:yT all=true){vl:List Nat}{own0:List (Nat×Obj')}{stF:St}(hI:FInv P all lo st0 own0 [] F i)(ho:all[i]?=some o)(V:Seg.zX ⟨all,lo,i,F.rks.reverse,st0,λ_=>own0⟩ i=stF)(hd:Zx o.dst st0.n=true){K:FK->List (Nat×Obj')->Prop}
  (h:VJ P all st0.next vl o stF F.hs K):∃ k J,K k J/\FInv P all lo st0 own0 [] (F.push k o.dst J F.ow) (i+1):=by
 have C:yj o.dst st0.n=true:=by
  have:=(Ku hd).1
  unfold yj;split
  .rename_i t ht;simpa using this t ht
  .rfl
 have M:stF.val=F.xt.val:=by rw[<-V];exact hI.ag.val
 have O:=λk=>hI.ext (k:=k)
 have hv:Kf P all st0.next o stF F.hs K->∃ k J,K k J/\FInv P all lo st0 own0 [] (F.push k o.dst J F.ow) (i+1):=by
  intro h;obtain⟨s,h1,h2,h3⟩:=Vw h;refine⟨.val s,F.hs,h3,hI.push L ho hd rfl ?_ (λt2 ob2 hm=>.inl ⟨hm,rfl⟩) hI.hsn (.inl ⟨rfl,λ_ _ e=>by cases e⟩)⟩
  refine⟨?_,h2⟩
  rw[List.reverse_cons,Kx (by simpa using hI.len.1) hI.len.2.1 (Nat.le_refl _),V]
  exact h1
 have I:∀ d,o.guard=none->o.dst=some d->VI P st0.next stF.val o.type (λob=>K (.mk ob) ((d,ob)::F.hs)) o.op->∃ k J,K k J/\FInv P all lo st0 own0 [] (F.push k o.dst J F.ow) (i+1):=by
  intro d Q H h;obtain⟨ob,hK,X,G⟩:=zg3 (n:=st0.n) C h;refine⟨.mk ob,_,hK,hI.push L ho hd rfl ?_ ?_ ?_ (.inl ⟨rfl,λ_ _ e=>by cases e⟩)⟩
  .exact⟨Q,⟨d,H⟩,X,λst K hk=>G st K (by rw[M];exact hI.knows hk)⟩
  .intro t2 ob2 hm
   rcases List.mem_cons.1 hm with e | hm
   .cases e;exact .inr (.inl ⟨rfl,H⟩)
   .exact .inl ⟨hm,rfl⟩
  .simp only[List.map_cons,List.nodup_cons]
   exact⟨hI.fresh' L ho H λx hx=>hx,hI.hsn⟩
 unfold VJ at h
 split at h
 .rename_i xs' ts d T Q H
  split at h
  .rename_i j x t t' hx ht
   have e1:xs' = #[.tmp j,x]:=by cases xs';simp at hx;rw[hx]
   have e2:ts = #[t,t']:=by cases ts;simp at ht;rw[ht]
   subst e1;subst e2;obtain⟨src,ob,oj,ok,hK,N,X,hj,B,E,G⟩:=ze1 (n0:=st0.next) C T h;have Z:=yZ hj;have Y:∀ x,Operand.tmp x∈o.op.operands->x∈tmpsOf all o:=λx hx=>XQ hx
   refine⟨_,_,hK,hI.push L ho hd rfl ?_ ?_ ?_ (.inl ⟨rfl,λ_ _ e=>by cases e⟩)⟩
   .refine⟨Q,⟨d,H⟩,Y j (by rw[T];simp[Op.operands,Call.operands]),λk hk=>⟨(E k hk).2.1,Y k (by rw[T,(E k hk).1];simp[Op.operands,Call.operands])⟩,X,N,
     oj,ok,(O _).held (hI.hs j oj Z).1.held,B,λk hk=>⟨(O _).held (hI.hs k ok (yZ (E k hk).2.2.1)).1.held,(E k hk).2.2.2⟩,λst K id hk=>G st K id (by rw[M];exact hI.knows hk)⟩
   .intro t2 ob2 hm
    rcases List.mem_cons.1 hm with e | hm
    .cases e;exact .inr (.inl ⟨rfl,H⟩)
    .obtain⟨h1,h2⟩:=Yw hm
     left
     have A:Nat.beq j t2=false:=by cases hb:Nat.beq j t2 with | false=>rfl | true=>exact absurd (beq_iff.1 hb).symm h2
     cases src with
     |none=>exact⟨h1,by simp[takes,A]⟩
     |some k=>
      obtain⟨h3,h4⟩:=Yw h1;have S:Nat.beq k t2=false:=by cases hb:Nat.beq k t2 with | false=>rfl | true=>exact absurd (beq_iff.1 hb).symm h4
      exact⟨h3,by simp[takes,A,S]⟩
   .simp only[List.map_cons,List.nodup_cons]
    cases src with
    |none=>exact⟨hI.fresh' L ho H λx hx=>(Yw hx).1,Ky hI.hsn⟩
    |some k=>exact⟨hI.fresh' L ho H λx hx=>(Yw (Yw hx).1).1,Ky (Ky hI.hsn)⟩
  .exact h.elim
 .rename_i t j x T Q H
  have W:∀ k ob,zc F.hs k=some ob->ob.lo st0.next:=λk ob hk=>(hI.hs k ob (yZ hk)).2.2
  have H0:j∈tmpsOf all o:=XQ (by rw[T];simp[Op.operands])
  obtain⟨ob,oj,hK,hb,X,hj,H1,G⟩:=ze2 (n:=st0.n) W T H h;have Z:=yZ hj;refine⟨_,_,hK,hI.push L ho hd rfl ?_ ?_ ?_ (.inl ⟨rfl,λ_ _ e=>by cases e⟩)⟩
  .exact⟨Q,H,H0,X,hb,oj,(O _).held (hI.hs j oj Z).1.held,H1,λst K id hk=>G st K id (by rw[M];exact hI.knows hk)⟩
  .intro t2 ob2 hm
   rcases List.mem_cons.1 hm with e | hm
   .cases e;exact .inr (.inr ⟨rfl,oj,Z⟩)
   .obtain⟨h1,h2⟩:=Yw hm
    have A:Nat.beq j t2=false:=by cases hb:Nat.beq j t2 with | false=>rfl | true=>exact absurd (beq_iff.1 hb).symm h2
    exact .inl ⟨h1,by simp[takes,A]⟩
  .simp only[List.map_cons,List.nodup_cons]
   refine⟨λhm=>?_,Ky hI.hsn⟩
   obtain⟨⟨t2,ob2⟩,h1,h2⟩:=List.mem_map.1 hm;exact(Yw h1).2 h2
 .rename_i Q H _
  split at h
  .exact I _ Q H h
  .exact hv h
 .exact hv h
theorem FX(J:yT all=true){vl:List Nat}{own0:List (Nat×Obj')}{K:St->List FK->List (Nat×Obj')->Prop}:∀ {l:List Oper} {i:Nat} {F:XF} {stF:St},(all.drop i).take l.length=l->stF.n=st0.n->FInv P all lo st0 own0 [] F i ->
  Seg.zX ⟨all,lo,i,F.rks.reverse,st0,λ_=>own0⟩ i=stF->jm P all st0.next vl K l stF F.rks F.hs->∃ F':XF,∃ st':St,FInv P all lo st0 own0 [] F' (i+l.length)/\Seg.zX ⟨all,lo,i+l.length,F'.rks.reverse,st0,λ_=>own0⟩ (i+l.length)=st'/\F'.ow=F.ow/\K st' F'.rks F'.hs
 | [],i,F,stF,Q,T,V,H,h=>⟨F,stF,V,H,rfl,h⟩
 |o::r,i,F,stF,Q,T,V,H,h=>by
  simp only[jm] at h;obtain⟨X,h⟩:=h;rw[T] at X;have Y:all[i]?=some o:=by
   have:=congrArg (λl:List Oper=>l[0]?) Q
   simpa using this
  obtain⟨k,L,Z,M⟩:=zg5 J V Y H X h;have A:(all.drop (i+1)).take r.length=r:=by
   have:=congrArg List.tail Q
   rw[List.tail_cons] at this;rw[<-this];have X:all.drop i=o::all.drop (i+1):=by
    obtain⟨O,B⟩:=List.getElem?_eq_some_iff.1 Y;rw[List.drop_eq_getElem_cons O,B]
   rw[X];simp
  have E:∀ (s:Sym),(stF.put o.dst s).n=stF.n:=by intro s;unfold St.put;split <;> rfl
  have G:Seg.zX ⟨all,lo,i+1,(F.push k o.dst L F.ow).rks.reverse,st0,λ_=>own0⟩ (i+1)=stF.put o.dst k.sym:=by
   simp only[XF.push,List.reverse_cons];rw[Od (by simpa using V.len.1) V.len.2.1 Y,H]
  obtain⟨F',st',q1,q2,q3,q4⟩:=FX J A ((E _).trans T) M G Z;have e:i+1+r.length=i+(o::r).length:=by simp;omega
  rw[e] at q1 q2;exact⟨F',st',q1,q2,q3,q4⟩
theorem VK(L:P.follows .mixedOrders=true)(m:Nat)(vl:List Nat){id:Nat}{ops:List Oper}{st:St}{Q:DE->St->Prop}(M:yT ops=true)(hm:Nat.ble m ops.length=true)(E:(Nat.beq m ops.length || vX ops m)=true)(C:VG st.slots=true)
  (h:jm P ops st.next vl (λstF rks hs=>Kg ops (ops.take m) rks.reverse=true/\Ni P (Q .normal) (ops.drop m) {st with next:=st.next+hs.length,slots:=vC st.next hs++stF.slots,own:=ve st.next hs++st.own}) (ops.take m) st [] []) :
  Triple P (.region id ops.toArray true) Q st:=by
 rw[Nat.ble_eq] at hm
 refine VF L M ?_
 have Z:Ag st (xsOf st):=Nc C
 obtain⟨A,K⟩:=Oj (P:=P) (all:=ops) Z (Nat.zero_le _) []
 have e0:(vn (xsOf st) []).xt.own=st.own:=rfl
 rw[e0] at A K
 have O:Seg.zX ⟨ops,0,0,(vn (xsOf st) []).rks.reverse,st,λ_=>st.own⟩ 0=st:=by
  unfold Seg.zX;simp[puts]
 have T:(ops.take m).length=m:=by rw[List.length_take];omega
 obtain⟨F,st',hI,J,I,H,G⟩:=FX (l:=ops.take m) M (by simp) rfl A O h
 rw[T,Nat.zero_add] at hI J
 have V:F.ow=st.own:=I
 have S:Yu ops ((ops.drop 0).take (m-0)) F.rks.reverse 0 ((ops.drop 0).take (m-0)) F.rks.reverse=true/\nodupB (w9 F.rks.reverse)=true:=by
  unfold Kg at H;rw[Bool.and_eq_true] at H;simpa using H
 obtain⟨g1,g2,g3⟩:=Oi (s0:=xsOf st) M hI K Z (xs':={(xsOf st) with next:=(xsOf st).next+F.hs.length,slots:=Yv F.xt (xsOf st).next F.hs,own:=ve (xsOf st).next F.hs++F.ow}) (by
  unfold Kw;simp only
  rw[Dh,Bool.and_eq_true];exact⟨S,rfl⟩)
 refine .seg (hi:=m) F.rks.reverse (λ_=>st.own) F.hs F.ow g1 g2 ?_ ?_
 .rw[Bool.or_eq_true,beq_iff] at E
  exact E.elim .inr .inl
 .have Y:Seg.fin ⟨ops,0,m,F.rks.reverse,st,λ_=>st.own⟩ F.hs F.ow = {st with next:=st.next+F.hs.length,slots:=vC st.next F.hs++st'.slots,own:=ve st.next F.hs++st.own}:=by
   unfold Seg.fin;rw[J,V]
  rw[Y];generalize ({st with next:=st.next+F.hs.length,slots:=vC st.next F.hs++st'.slots,own:=ve st.next F.hs++st.own}:St)=stE at G;cases hd:ops.drop m with
  |nil=>
   rw[hd] at G;have:m=ops.length:=by
    have:=congrArg List.length hd
    simp at this;omega
   rw[this];exact .done G
  |cons o r=>
   cases r with
   |cons _ _=>rw[hd] at G;exact G.elim
   |nil=>
    rw[hd] at G;obtain⟨hg,W⟩:=G;have B:m+1=ops.length:=by
     have:=congrArg List.length hd
     simp at this;omega
    have ho:ops[m]?=some o:=by
     have:=congrArg (λl:List Oper=>l[0]?) hd
     simpa using this
    refine RegI.tot (Q .normal) (by omega) (.inr B) ?_ ?_
    .intro X w0 β a w H0 N Q' hN
     unfold wpOp;have:ops.toArray[m]?=some o:=by simpa using ho
     rw[this];simp only[Region.wanted,hg,if_true];exact .inl (ji H0 W N _ λa' w' st' β' hk H1=>hN a' w' st' β' hk H1)
    .intro st' hK
     rw[B];exact .done hK
theorem VL{c:Code}{Q:DE->St->Prop}{st:St}(ids:List Nat)(h:Triple P c Q (st.xi ids)):Triple P c Q st:=λX w0 β a w hm=>h X w0 β a w (hm.xi (l:=ids))
end
attribute [simp] Nh VI Kc FV Kd Ke Kf VJ jm Ni vC ve ref hdrop Zx FK.sym FK.made
end Go.V
namespace Go.V
variable [Dr] [Ov]
open Go.RowKit
def zks(P:Program)(st:St)(t:Nat)(ad x:Sym)(K:Nat->Obj'->Prop):Prop:=
 match TI.of P t,ad with
 |some ti,.ap id sz i off=>match st.look id with
  |some (.arr T sz' rows)=>match qG x with
   |some l=>match vd l with
    |some ds=>(sz=sz'/\i<rows.length/\ds.length=ti.size/\off+ds.length<=(rows.getD i []).length)/\K id (.arr T sz (rows.set i (splice (rows.getD i []) off ds)))
    |none=>False
   |none=>False
  |_=>False
 |_,_=>False
def hid(st:St)(b:Bool):St:={st with own:=if b=true then st.own else []}
def Nj(P:Program)(all:List Oper)(n0:Nat)(dp:Nat->Bool):Nat->List Oper->St->List Sym->(St->List Sym->Prop)->Prop
 |_,[],st,ss,K=>K st ss
 |i,o::r,st,ss,K=>yj o.dst st.n=true/\jk P all o (hid st (dp i)) (λs=>Sym.lo n0 s/\Nj P all n0 dp (i+1) r (st.put o.dst s) (s::ss) K)
def gw(P:Program)(K:St->Prop):List Oper->St->Prop
 | [],st=>K st
 |o::r,st=>o.guard=none/\yq P o st (λst'=>gw P K r st')
def VM(all:List Oper)(k:Nat):Bool:=(List.range all.length).all λi=>Nat.ble i k || vX all i
section
variable {P:Program} {all:List Oper} {st:St}
theorem VN{K:St->Prop}:∀ {r:List Oper} {k:Nat} {st:St},k<=all.length->all.drop k=r->(∀ i,k<i->i<all.length->vX all i=true)->gw P K r st->RegI P all K k st
 | [],k,st,H,J,L,h=>by
  have:k=all.length:=by
   have:=congrArg List.length J
   simp at this;omega
  subst this;exact .done h
 |o::r,k,st,H,J,L,h=>by
  obtain⟨M,G⟩:=h;have O:k<all.length:=by
   have:=congrArg List.length J
   simp at this;omega
  have Q:all[k]?=some o:=by
   have:=congrArg (λl:List Oper=>l[0]?) J
   simpa using this
  have T:all.drop (k+1)=r:=by
   have:=congrArg List.tail J
   simpa using this
  refine RegI.tot (λst'=>gw P K r st') O ?_ ?_ λst' h'=>VN O T (λi V Y=>L i (by omega) Y) h'
  .rcases Nat.eq_or_lt_of_le (show k+1<=all.length from O) with e | e
   .exact .inr e
   .exact .inl (L (k+1) (by omega) e)
  .intro X w0 β a w F N Q' hN
   unfold wpOp;have:all.toArray[k]?=some o:=by simpa using Q
   rw[this];simp only[Region.wanted,M,if_true];exact .inl (ji F G N _ λa' w' st' β' O E=>hN a' w' st' β' O E)
end
attribute [simp] zks Nj gw hid
end Go.V
namespace Go.V
variable [Dr] [Ov]
open Go.RowKit
section
variable {P:Program} {f:Nat} {args:List D} {r:D} {st:St} {K:St->Prop}
theorem kT.toR(h:kT P f args r):zj P f args r:=
 ⟨h.1,λw E vs H G=>(h.2 w E vs H G).mono λ_ w' ⟨v,F,K,J⟩=>⟨v,F,K,J.over (Over.less λ_ K=>.inl K) _ _⟩⟩
theorem FY{T sz:Nat}{rows:List (List D)}(h:uC P f args T sz rows)(hs:D.scalars rows.flatten=true):kT P f args (.sl rows):=by
 obtain⟨F,K,J⟩:=h
 refine⟨F,λw E vs L M=>(J w E vs L M).mono λ_ w' ⟨v,xs,O,Q,V,X,H⟩=>⟨v,O,Q,?_⟩⟩
 have Y:vB (λb=>w.heap.size<=b) w' T sz v rows.length xs:=vB.Iv V X λ_ h=>h
 refine IR Y (zH.cells (Vd hs H.vals) H.one) K (λb G=>?_) (Over.refl _ _)
 rintro(h | h)
 .have:=(Y.2 b G).1
  have:=L.1 b h
  omega
 .have:=(Y.2 b G).1
  omega
theorem zF.XV{f:Operand}{xs:List Operand}{dst:Option Tmp}{g:Nat}{ds:List D}{lent:Bool}{r:D}(H:jY st f xs=Option.some (g,ds,lent))(G:kT P g ds r)
  (F:K (st.put dst (.d r))):zF P st f xs dst K:=by
 unfold zF gk;left;rw[H];exact .inl ⟨r,G.toR,λ_=>.inr G,F⟩
theorem zdo{look:Nat->Option Obj'}{c:Sym}{args:List Sym}{k:Sym->Prop}{f:Nat}{caps:List Sym}{ds:List D}{lent:Bool}{r:D}(H:xh c=some (f,caps))(G:vj look (args++caps)=some (ds,lent))(F:kT P f ds r)
  (E:k (.d r)):jW P look c args k:=by
 unfold jW Y8
 rw[H]
 dsimp only
 rw[G]
 exact⟨r,F.toR,λ_=>.inr F,E⟩
end
section
variable {P:Program} {all:List Oper} {lo:Nat} {st0:St} {i:Nat} {o:Oper}
theorem zkt(L:P.follows .mixedOrders=true)(m:Nat)(vl:List Nat){id:Nat}{ops:List Oper}{st:St}{Q:DE->St->Prop}(M:yT ops=true)(N:Nat.ble m ops.length=true)(E:(Nat.beq m ops.length || vX ops m)=true)(H:VM ops m=true)(B:VG st.slots=true)
  (h:jm P ops st.next vl (λstF rks hs=>Kg ops (ops.take m) rks.reverse=true/\gw P (Q .normal) (ops.drop m) {st with next:=st.next+hs.length,slots:=vC st.next hs++stF.slots,own:=ve st.next hs++st.own}) (ops.take m) st [] []) :
  Triple P (.region id ops.toArray true) Q st:=by
 rw[Nat.ble_eq] at N
 refine VF L M ?_
 have Y:Ag st (xsOf st):=Nc B
 obtain⟨Z,K⟩:=Oj (P:=P) (all:=ops) Y (Nat.zero_le _) []
 have e0:(vn (xsOf st) []).xt.own=st.own:=rfl
 rw[e0] at Z K
 have O:Seg.zX ⟨ops,0,0,(vn (xsOf st) []).rks.reverse,st,λ_=>st.own⟩ 0=st:=by
  unfold Seg.zX;simp[puts]
 have T:(ops.take m).length=m:=by rw[List.length_take];omega
 obtain⟨F,st',S,J,C,G,A⟩:=FX (l:=ops.take m) M (by simp) rfl Z O h
 rw[T,Nat.zero_add] at S J
 have V:F.ow=st.own:=C
 have I:Yu ops ((ops.drop 0).take (m-0)) F.rks.reverse 0 ((ops.drop 0).take (m-0)) F.rks.reverse=true/\nodupB (w9 F.rks.reverse)=true:=by
  unfold Kg at G;rw[Bool.and_eq_true] at G;simpa using G
 obtain⟨g1,g2,g3⟩:=Oi (s0:=xsOf st) M S K Y (xs':={(xsOf st) with next:=(xsOf st).next+F.hs.length,slots:=Yv F.xt (xsOf st).next F.hs,own:=ve (xsOf st).next F.hs++F.ow}) (by
  unfold Kw;simp only
  rw[Dh,Bool.and_eq_true];exact⟨I,rfl⟩)
 refine .seg (hi:=m) F.rks.reverse (λ_=>st.own) F.hs F.ow g1 g2 ?_ ?_
 .rw[Bool.or_eq_true,beq_iff] at E
  exact E.elim .inr .inl
 .have X:Seg.fin ⟨ops,0,m,F.rks.reverse,st,λ_=>st.own⟩ F.hs F.ow = {st with next:=st.next+F.hs.length,slots:=vC st.next F.hs++st'.slots,own:=ve st.next F.hs++st.own}:=by
   unfold Seg.fin;rw[J,V]
  rw[X];generalize ({st with next:=st.next+F.hs.length,slots:=vC st.next F.hs++st'.slots,own:=ve st.next F.hs++st.own}:St)=stE at A;refine VN N rfl (λi W h2=>?_) A
  unfold VM at H;rw[List.all_eq_true] at H;have:=H i (List.mem_range.2 h2)
  rw[Bool.or_eq_true,Nat.ble_eq] at this;rcases this with e | e
  .omega
  .exact e
end
end Go.V
namespace Go.V
variable [Dr] [Ov]
open Go.RowKit
def zjt(P:Program)(r:Option Nat)(c:Code)(Q:DE->St->Prop)(st:St):Prop:=
 ∀ X w0 β a w ms n,MX X w0 ms st β a w->c.wpIn (FW r) n P (λe' a' w'=>∃ de st' β',yr e' de/\Q de st'/\MX X w0 ms st' β' a' w') a w
def gx(P:Program)(st:St)(id:Nat)(xs:List Operand)(dst:Option Tmp)(K:St->Prop):Prop:=
 ∃ (k:Nat) (ids:List Nat) (args0:List Sym) (own0:List (Nat×Obj')) (s:Sym) (nx:Nat) (own':List (Nat×Obj')) (mv:List Nat),(k<ids.length/\rho ids k=id)/\yp (rho ids) args0=xs.map st.val/\Sym.los ids.length args0/\Fits st ids own0 /\
  Zv P k args0 own0 ids.length s nx own' mv/\K ((st.after ids nx own' mv).put dst (ren (yA ids st.next) s))
def FZ:Sym->Option Nat
 |.yd id=>some id
 |_=>none
def Yp(P:Program)(o:Oper)(st:St)(K:St->Prop):Prop:=
 match o.op with
 |.call {callee:=.value f,args:=xs,argTypes:=ts}=>match FZ (st.val f) with
  |some id=>yj o.dst st.n=true/\gx P st id xs.toList o.dst K
  |none=>yq P o st K
 |_=>yq P o st K
def jJ(P:Program)(all:List Oper):List Oper->St->(St->Prop)->Prop
 | [],st,K=>K st
 |o::r,st,K=>match o.guard with
  |none=>Yp P o st (lz λst'=>jJ P all r st' K)
  |some (j,want)=>match (all[j]?).bind (·.dst) with
   |some t=>match zc st.slots t with
    |some (.d (.bool b))=>(b=want->Yp P o (st.put (some t) (.d (.bool want))) (lz λst'=>jJ P all r st' K)) /\
     (b = !want->yj o.dst st.n=true/\jJ P all r ((st.put (some t) (.d (.bool !want))).put o.dst (.d (.val undef))) K)
    |some (.d (.val v))=>v=undef/\yj o.dst st.n=true/\jJ P all r (st.put o.dst (.d (.val undef))) K
    |_=>False
   |none=>False
def qc(P:Program):Code->(DE->St->Prop)->St->Prop
 |.skip,Q,st=>Q .normal st
 |.region _ ops draw,Q,st=>draw=false/\jJ P ops.toList ops.toList st (Q .normal)
 |.seq x y,Q,st=>qc P x (Yg (λst'=>qc P y Q st') Q) st
 |.cond c x y,Q,st=>match st.val c with
  |.d (.bool b)=>(b=true->qc P x Q st)/\(b=false->qc P y Q st)
  |_=>False
 |.block id c,Q,st=>qc P c (vU id Q) st
 |.exit id,Q,st=>Q (.exit id) st
 |.ret,Q,st=>Q .ret st
 |_,_,_=>False
section
variable {P:Program} {X:Nat->Prop} {w0:Base} {st:St} {β:Nat->Value} {a:Act} {w w':World} {K:St->Prop}
theorem zg6{o:Oper}(h:yq P o st K):∀ c,o.op≠.defer c:=by
 intro c e
 unfold yq at h
 rw[e] at h
 simp only[vm,kf] at h
 exact h.2
theorem MX.back{ms:List Nat}(H:a.defers=ms.map mark++w0.dfs):({({a with defers:=w0.dfs}:Act) with defers:=ms.map mark++w0.dfs}:Act)=a:=by
 cases a;simp only at H;subst H;rfl
theorem zju{ms:List Nat}(L:MX X w0 ms st β a w){o:Oper}(h:∀ X' w0',Mods X' w0' st β {a with defers:=w0.dfs} w->Goes P X' w0' o {a with defers:=w0.dfs} w K)(G:∀ c,o.op≠.defer c)(r:Option Nat)(n:Nat){N:Act->World->Prop}{Q:Exit->Act->World->Prop}
  (M:∀ a' w' st' β',K st'->MX X w0 ms st' β' a' w'->N a' w'):o.wpIn (FW r) n P a w N Q:=by
 obtain⟨⟨X',w0',O,F,E⟩,T,J⟩:=L
 have:=zj0 (h X' w0' F) G O.dfs.symm r n (ms.map mark++w0.dfs) (N:=N) (Q:=Q) λa' w' st' β' V H=>
  M _ w' st' β' V ⟨⟨X',w0',O,by have e:=H.defers.trans O.dfs;cases a';simp only at e;subst e;exact H,E⟩,rfl,J⟩
 rw[MX.back T] at this
 exact this
theorem zin(I:Mods X w0 st β a w){o:Oper}{f:Operand}{args:Array Operand}{ts:Array TypeId}(S:o.op = .call {callee:=.value f,args,argTypes:=ts})
  {id:Nat} (W:st.val f = .yd id) (M:∀ t,o.dst=some t->t<st.n) (h:gx P st id args.toList o.dst K) (r:Option Nat) (n:Nat) (ms:List Deferred)
  {N:Act->World->Prop} {Q:Exit->Act->World->Prop} (hN:∀ a' w' st' β',K st'->Mods X w0 st' β' a' w'->N {a' with defers:=ms} w'):o.wpIn (FW r) n P {a with defers:=ms} w N Q:=by
 obtain⟨k,ids,args0,own0,s,nx,own',mv,⟨C,O⟩,ha,hl,hf,H,hK⟩:=h
 have hE:Ex (outOf X β ids st.own) (λi=>β (rho ids i)) own0=Ex X β st.own:=funext λb=>propext (hf.ex b)
 have T:zh w (Ex (outOf X β ids st.own) (λi=>β (rho ids i)) own0) (λi=>β (rho ids i)) args0 (args.toList.map a.eval):=by
  have h1:=(zh.uz I args.toList).1;rw[<-ha] at h1;rw[hE];exact uA (ρ:=rho ids) (β:=λi=>β (rho ids i)) (β':=β) (m:=ids.length) (λ_ _=>rfl) hl h1
 obtain⟨b,hb,H⟩:=H (outOf X β ids st.own) (inBase β ids w) (λi=>β (rho ids i)) w _ rfl (I.WL hf) T
 simp only[O] at hb
 have hv:=(I.val f).2
 rw[W] at hv
 simp only[Sm] at hv
 obtain⟨b',L,hv⟩:=hv
 rw[hb] at L;cases L
 obtain⟨fn,tmps,aS,bd,V,G⟩:=H r (n-1)
 have F:∀ c,o.op≠.defer c:=λc e=>by rw[S] at e;cases e
 unfold Oper.wpIn
 refine⟨λ_ _=>trivial,?_⟩
 rw[Oper.semAt_eq _ _ _ F]
 have Y:({a with defers:=ms}:Act).eval=a.eval:=rfl
 rw[Y]
 have E:(execOp a.eval o).run P w = .ok (.round b fn tmps aS bd) w:=by
  have e3:Array.map a.eval args=(args.toList.map a.eval).toArray:=Array.ext' (by simp)
  simp only[execOp,S,resolve,hv];rw[e3];exact zj1 V
 rw[E]
 simp only[Oper.uponIn]
 refine⟨λhd=>by simp[FW,Fence.wide] at hd,G.mono λe w' he=>?_⟩
 obtain⟨β1,v,rfl,Z,A,B⟩:=he
 obtain⟨h1,h2⟩:=I.WM hf Z
 obtain⟨q1,q2⟩:=h2 s v A B
 have J:(({a with defers:=ms}:Act).put o.dst v) = {a.put o.dst v with defers:=ms}:=by cases o.dst <;> rfl
 show N (({a with defers:=ms}:Act).put o.dst v) w'
 rw[J]
 exact hN _ w' _ _ hK (h1.yC M q1 q2)
theorem Nk{ms:List Nat}(J:MX X w0 ms st β a w){o:Oper}(h:Yp P o st K)(r:Option Nat)(n:Nat){N:Act->World->Prop}{Q:Exit->Act->World->Prop}
  (L:∀ a' w' st' β',K st'->MX X w0 ms st' β' a' w'->N a' w'):o.wpIn (FW r) n P a w N Q:=by
 have plain:yq P o st K->o.wpIn (FW r) n P a w N Q:=λh=>zju J (λX' w0' H=>ji H h) (zg6 h) r n L
 unfold Yp at h
 split at h
 .rename_i f xs ts M
  split at h
  .rename_i id O
   have O:st.val f = .yd id:=by
    revert O
    cases st.val f <;> simp[FZ]
   obtain⟨⟨X',w0',T,H,F⟩,V,E⟩:=J;have:=zin H M O (x9 h.1) h.2 r n (ms.map mark++w0.dfs) (N:=N) (Q:=Q) λa' w' st' β' Y G=>
    L _ w' st' β' Y ⟨⟨X',w0',T,by have e:=G.defers.trans T.dfs;cases a';simp only at e;subst e;exact G,F⟩,rfl,E⟩
   rw[MX.back V] at this;exact this
  .exact plain h
 .exact plain h
theorem VO{all:List Oper}{ms:List Nat}{r:Option Nat}{n:Nat}{Q:Exit->Act->World->Prop}:∀ {l:List Oper} {st:St} {β:Nat->Value} {a:Act} {w:World} {K:St->Prop},
  jJ P all l st K->MX X w0 ms st β a w->(∀ a' w' st' β',K st'->MX X w0 ms st' β' a' w'->Q .normal a' w')->wpListIn (FW r) n P all.toArray Q l a w
 | [],st,β,a,w,K,h,B,C=>C a w st β h B
 |o::l,st,β,a,w,K,h,B,C=>by
  simp only[jJ] at h;refine wpListIn_step λN' F=>?_
  split at h
  .rename_i J
   simp only[Region.wanted,J,if_true];exact Nk B h r n λa' w' st' β' I H=>F a' w' (VO I H C)
  .rename_i j want J
   split at h
   .rename_i t N
    split at h
    .rename_i b S
     have L:=ze6 B S;have W:=N4 (Zo N) L;simp only[Region.wanted,J,W];have G:∀ c:Bool,b=c->MX X w0 ms (st.put (some t) (.d (.bool c))) β a w:=by
      intro c e;subst e;obtain⟨⟨X',w0',hu,H,T⟩,hd,V⟩:=B;have Y:t<st.n:=by
       rw[<-H.size];rcases Nat.lt_or_ge t a.tmps.size with h | h
       .exact h
       .rw[Array.getElem?_eq_none (by simpa using h)] at L;cases L
      have:=H.yC (dst:=some t) (s:=.d (.bool b)) (v:=.bool b) (λu e=>by cases e;exact Y) (by simp[Sym.lo]) (by simp[Sm,R])
      have e2:({a with defers:=w0.dfs}:Act).put (some t) (.bool b) = {a with defers:=w0.dfs}:=by
       have M:a.tmps[t]?=some (.bool b):=L
       obtain⟨h1,h2⟩:=Array.getElem?_eq_some_iff.1 M;show({tmps:=a.tmps.setIfInBounds t (.bool b),defers:=w0.dfs}:Act)=_
       congr 1
       apply Array.ext
       .simp
       .intro i h3 h4
        rw[Array.getElem_setIfInBounds];split
        .rename_i e;subst e;exact h2.symm
        .rfl
      rw[e2] at this;exact⟨⟨X',w0',hu,this,T⟩,hd,V⟩
     by_cases e:b=want
     .subst e
      simp only[beq_self_eq_true,if_true];exact Nk (G b rfl) (h.1 rfl) r n λa' w' st' β' I H=>F a' w' (VO I H C)
     .have e':b = !want:=by cases b <;> cases want <;> simp_all
      have:(some b==some want)=false:=by simpa using e
      simp only[this,Bool.false_eq_true,if_false];obtain⟨hd,h⟩:=h.2 e';refine⟨λ_ _=>trivial,?_⟩
      exact F _ w (VO h ((G (!want) e').put (x9 hd) (by simp[Sym.lo]) (λE=>by simp[Sm,R])) C)
    .rename_i hv
     obtain⟨Z,hd,h⟩:=h;obtain⟨A,O⟩:=B.plain.slots t _ hv;rw[Z] at O;simp only[Sm,R] at O;have W:yielded all.toArray a.tmps j=none:=WV (Zo N) O
     simp only[Region.wanted,J,W];have:((none:Option Bool)==some want)=false:=rfl
     simp only[this,Bool.false_eq_true,if_false];refine⟨λ_ _=>trivial,?_⟩
     exact F _ w (VO h (B.put (x9 hd) (by simp[Sym.lo]) (λE=>by simp[Sm,R])) C)
    .exact h.elim
   .exact h.elim
theorem gy:∀ {c:Code} {Q:DE->St->Prop} {st:St} {r:Option Nat},qc P c Q st->zjt P r c Q st
 |.skip,Q,st,r,h=>λX w0 β a w ms n G=>wpIn_skip ⟨.normal,st,β,trivial,h,G⟩
 |.region id ops draw,Q,st,r,h=>by
  obtain⟨rfl,h⟩:=h;intro X w0 β a w ms n G;refine wpIn_region_list ?_
  have:=VO (r:=r) (n:=n) (Q:=λe' a' w'=>∃ de st' β',yr e' de/\Q de st'/\MX X w0 ms st' β' a' w') h G (λa' w' st' β' F H=>⟨.normal,st',β',trivial,F,H⟩)
  simpa using this
 |.seq x y,Q,st,r,h=>by
  intro X w0 β a w ms n G;refine wpIn_seq (wpIn_mono (gy (c:=x) h X w0 β a w ms n G) ?_)
  rintro e a' w' ⟨de,st',β',E,K,H⟩
  cases e <;> cases de <;> simp only[yr] at E
  .exact gy (c:=y) K X w0 β' a' w' ms n H
  .subst E;exact⟨.exit _,st',β',rfl,K,H⟩
  .exact⟨.ret,st',β',trivial,K,H⟩
 |.cond c x y,Q,st,r,h=>by
  simp only[qc] at h;intro X w0 β a w ms n G;split at h
  .rename_i b hb
   have J:=(G.plain.val c).2;rw[hb] at J;simp only[Sm,R] at J;cases b
   .exact wpIn_cond_false J (gy (h.2 rfl) X w0 β a w ms n G)
   .exact wpIn_cond_true J (gy (h.1 rfl) X w0 β a w ms n G)
  .exact h.elim
 |.block id c,Q,st,r,h=>by
  intro X w0 β a w ms n G;refine wpIn_block (wpIn_mono (gy (c:=c) h X w0 β a w ms n G) ?_)
  rintro e a' w' ⟨de,st',β',E,K,H⟩
  cases e <;> cases de <;> simp only[yr] at E
  .exact⟨.normal,st',β',trivial,K,H⟩
  .subst E
   simp only[vU] at K;simp only[Exit.inBlock];split
   .rename_i e;rw[if_pos e] at K;exact⟨.normal,st',β',trivial,K,H⟩
   .rename_i e;rw[if_neg e] at K;exact⟨.exit _,st',β',rfl,K,H⟩
  .exact⟨.ret,st',β',trivial,K,H⟩
 |.exit id,Q,st,r,h=>λX w0 β a w ms n G=>wpIn_exit ⟨.exit id,st,β,rfl,h,G⟩
 |.ret,Q,st,r,h=>λX w0 β a w ms n G=>wpIn_ret ⟨.ret,st,β,trivial,h,G⟩
 |.loop _,Q,st,r,h=>h.elim
 |.rangeFunc ..,Q,st,r,h=>h.elim
 |.scope _,Q,st,r,h=>h.elim
 |.label _,Q,st,r,h=>h.elim
 |.goto ..,Q,st,r,h=>h.elim
 |.refuse ..,Q,st,r,h=>h.elim
theorem Kh{c:Code}{Q:DE->St->Prop}(h:qc P c Q st):Triple P c Q st:=by
 intro X w0 β a w G
 refine(wpIn_wide (n:=0)).1 (wpIn_mono (gy (r:=none) h X w0 β a w [] 0 (.of G)) ?_)
 rintro e a' w' ⟨de,st',β',F,E,H⟩
 exact⟨de,st',β',F,E,H.nil⟩
def VP:List Nat->List Sym->St->St
 |p::ps,s::ss,st=>VP ps ss (st.put (some p) s)
 |_,_,st=>st
theorem Nl:∀ {ps:List Nat} {ss:List Sym} {vs:List Value} {st:St} {a:Act},Mods X w0 st β a w->(∀ p∈ps,p<st.n)->Sym.los st.next ss->zh w (Ex X β st.own) β ss vs->ps.length=ss.length ->
  Mods X w0 (VP ps ss st) β {a with tmps:=(ps.zip vs).foldl (λt (p,v)=>t.setIfInBounds p v) a.tmps} w
 | [],[],vs,st,a,F,_,_,_,_=>by simpa[VP] using F
 |p::ps,s::ss,vs,st,a,F,E,K,hs,H=>by
  simp only[zh] at hs;obtain⟨v,vs',rfl,J,L⟩:=hs;simp only[Sym.los] at K;have G:=F.yC (dst:=some p) (s:=s) (v:=v) (λt e=>by cases e;exact E p (by simp)) K.1 J
  exact Nl (ps:=ps) (ss:=ss) (vs:=vs') G (λq M=>E q (List.mem_cons_of_mem _ M)) K.2 L (by simpa using H)
def roundEnd(id n nx:Nat)(s:Sym)(own':List (Nat×Obj'))(mv:List Nat):DE->St->Prop:=λde st2=>
 (st2.base=n/\id∉st2.moved)/\match st2.look id with
  |some (.raw (.lp ps aS bd .busy none) cells2)=>s = .d (.bool (VY de))/\Weak {st2 with own:=zV id (.raw (.lp ps aS bd (Ks de) (u6 de)) cells2) st2.own} {n:=st2.n,next:=nx,slots:=[],own:=own',base:=n,moved:=mv}
  |_=>False
def D1(P:Program)(bd:Code)(id n:Nat)(Q:DE->St->Prop):DE->St->Prop:=λe st1=>
 match e with
 |.normal=>(st1.base=n/\id∉st1.moved)/\match st1.look id with
  |some (.raw (.lp ps aS bd' .ready none) cells1)=>bd'=bd/\qc P bd Q {st1 with own:=zV id (.raw (.lp ps aS bd' .busy none) cells1) st1.own}
  |_=>False
 |_=>False
theorem VQ{id n nx:Nat}{own own':List (Nat×Obj')}{cells args:List Sym}{ps:Array Tmp}{aS bd:Code}{s:Sym}{mv:List Nat}
  (H0:zc own id=some (.raw (.lp ps aS bd .ready none) cells)) (E:args.length=ps.size) (H1:∀ p∈ps.toList,p<cells.length) (hid:id<n) (hl:Sym.los n args)
  (h:qc P aS (D1 P bd id n (roundEnd id n nx s own' mv)) (VP ps.toList args (initC 0 cells own n))):Zv P id args own n s nx own' mv:=by
 intro X w0 β w vs hβ hm hs
 have O:(yN own n n []).look id=some (.raw (.lp ps aS bd .ready none) cells):=H0
 obtain⟨_,Hc,b,fn,D,vs0,hb,hN,hh,Hi⟩:=hm.obj O
 replace hb:β id = .pointer (some ⟨b,0,none⟩):=hb
 refine⟨b,hb,λr m=>?_⟩
 have K:=hs.length
 have hy:=run_yield (P:=P) (args:=vs.toArray) hh (by simp[K,E])
 refine⟨fn,_,aS,bd,hy,roundIn_of_wpIn trivial ?_⟩
 have Hs:=hm.initC (ntmps:=0) Hi Hc
 have Go:=Nl (ps:=ps.toList) (ss:=args) (vs:=vs) Hs (λp hp=>by have:=H1 p hp;simpa[initC] using this) hl hs (by simp[E])
 have Q:({tmps:=(ps.zip vs.toArray).foldl (λtmps (t,a)=>tmps.setIfInBounds t a) vs0.toArray,defers:=[]}:Act) =
   {({tmps:=vs0.toArray++Array.replicate (0-vs0.toArray.size) undef,defers:=[]}:Act) with tmps:=(ps.toList.zip vs).foldl (λt (p,v)=>t.setIfInBounds p v) (vs0.toArray++Array.replicate (0-vs0.toArray.size) undef)}:=by
  congr 1
  rw[<-Array.foldl_toList];simp
 rw[Q]
 have J:=gy (r:=some b) h X w0 β _ w [] m (.of Go)
 have efw:(FW r).inRound b=FW (some b):=rfl
 rw[efw]
 refine wpIn_mono J ?_
 rintro e' a' w' ⟨de,st2,β2,he,hq,T⟩
 have N:=T.nil
 cases e' <;> cases de <;> simp only[yr] at he <;> simp only[D1] at hq
 obtain⟨⟨F0,V⟩,hq⟩:=hq
 split at hq
 .rename_i ps1 a1 b1 cells1 Y
  obtain⟨rfl,hq⟩:=hq;have same:∀ {st':St} {β':Nat->Value} {a':Act} {w':World},Mods X w0 st' β' a' w'->st'.base=n->id∉st'.moved->β' id=β id:=by
   intro st' β' a' w' F1 Fd Z;rw[F1.still.2 id (by rw[Fd];exact hid) Z,hβ]
  obtain⟨b',fn',D',vs',Fk,Fm,Fn⟩:=Db (s':=.busy) (pd':=none) N Y;have ebb:b'=b:=by
   have:=same N F0 V
   rw[Fk,hb] at this;simpa using this
  subst ebb;refine⟨_,run_beginRound Fm rfl,?_⟩
  have L:=gy (r:=some b') hq X w0 β2 a' _ [] m (.of Fn);refine wpIn_mono L ?_
  rintro e' a' w' ⟨de,st4,β4,S,M,A⟩
  have W:=A.nil;obtain⟨⟨Fr,B⟩,M⟩:=M;split at M
  .rename_i ps2 a2 b2 cells2 C
   obtain⟨rfl,Fs⟩:=M;obtain⟨b4,fn4,D4,vs4,I,Eq,D0⟩:=Db (s':=Ks de) (pd':=u6 de) W C;have ebb4:b4=b':=by
    have:=same W Fr B
    rw[I,hb] at this;simpa using this
   subst ebb4;have H:=D0.weak Fs;have B1:Mods X w0 (yN own' n nx mv) β4 qU _:=⟨H.outer,H.still,H.one,hm.defers,rfl,H.below,H.keys,H.own,H.apart,by intro t s ht;simp[yN,zc] at ht⟩
   have G:=run_endRound (P:=P) (u6 de) Eq;have est:(if (u6 de).isNone then LoopState.ready else .done)=Ks de:=by cases de <;> rfl
   have ebo:(u6 de).isNone=VY de:=by cases de <;> rfl
   have F:∃ β' v,Ending.returned (.bool (u6 de).isNone) = .returned v/\Mods X w0 (yN own' n nx mv) β' qU
     (w'.putObj b4 (.loop {state:=if (u6 de).isNone then .ready else .done,pending:=u6 de,fn:=fn4,tmps:=vs4,params:=ps2,assign:=a2,body:=b2,defers:=D4}))/\Sym.lo nx (.d (.bool (VY de))) /\
     Sm (w'.putObj b4 (.loop {state:=if (u6 de).isNone then .ready else .done,pending:=u6 de,fn:=fn4,tmps:=vs4,params:=ps2,assign:=a2,body:=b2,defers:=D4})) (Ex X β' own') β' (.d (.bool (VY de))) v:=by
    rw[est];exact⟨β4,_,rfl,B1,by simp[Sym.lo],by simp[Sm,R,ebo]⟩
   cases e' <;> cases de <;> simp only[yr] at S
   .exact⟨_,_,G,F⟩
   .subst S;exact⟨_,_,G,F⟩
   .exact⟨_,_,G,F⟩
  .exact M.elim
 .exact hq.elim
def gA(P:Program)(c:Code)(Q:DE->St->Prop)(st:St):Prop:=
 ∀ X w0 β a w n,Mods X w0 st β a w->c.wpIn (FW none) n P (λe' a' w'=>∃ de st' β' ms',yr e' de/\Q de st'/\MX X w0 ms' st' β' a' w') a w
def Yq(st:St):Nat->Nat->List Sym
 |0,_=>[]
 |k+1,t=>(match zc st.slots t with
  |some s=>s
  |none=>.junk)::Yq st k (t+1)
theorem Nm(F:Mods X w0 st β a w):∀ (k t:Nat),t+k=a.tmps.size->zh w (Ex X β st.own) β (Yq st k t) (a.tmps.toList.drop t)/\Sym.los st.next (Yq st k t)
 |0,t,h=>by
  simp only[Yq];rw[List.drop_eq_nil_of_le (by simp;omega)]
  exact⟨by simp[zh],by simp[Sym.los]⟩
 |k+1,t,h=>by
  obtain⟨E,K⟩:=Nm F k (t+1) (by omega)
  have G:t<a.tmps.toList.length:=by simp;omega
  rw[List.drop_eq_getElem_cons G];simp only[Yq];have J:a.tmps.getD t undef=a.tmps.toList[t]:=by
   have H:t<a.tmps.size:=by simpa using G
   simp[H]
  cases hs:zc st.slots t with
  |none=>
   refine⟨?_,?_⟩
   .simp only[zh];exact⟨_,_,rfl,by simp[Sm],E⟩
   .simp only[Sym.los];exact⟨by simp[Sym.lo],K⟩
  |some s=>
   obtain⟨q1,q2⟩:=F.slots t s hs;rw[J] at q2;refine⟨?_,?_⟩
   .simp only[zh];exact⟨_,_,rfl,q2,E⟩
   .simp only[Sym.los];exact⟨q1,K⟩
def VR(st:St)(ps:Array Tmp)(aS bd:Code):St:=st.new (.raw (.lp ps aS bd .ready none) (Yq st st.n 0))
def VS(st:St)(id:Nat):St:={st with own:=st.own.filter λx=>!Nat.beq x.1 id}
def D2(id:Nat)(Q:DE->St->Prop)(st:St):Prop:=match st.look id with
 |some (.raw (.lp _ _ _ s pend) _)=>match s,pend with
  |.busy,_=>False
  |_,none=>Q .normal (VS st id)
  |_,some .ret=>Q .ret (VS st id)
  |_,some (.exit i)=>Q (.exit i) (VS st id)
  |_,_=>False
 |_=>False
theorem Ki{g:Operand}{ps:Array Tmp}{aS bd:Code}{Q:DE->St->Prop}{gf:Nat}{caps:List Sym}(H:xh (st.val g)=some (gf,caps))(k:Nat)(ids:List Nat)(args0:List Sym)(own0:List (Nat×Obj'))
  {s:Sym} {nx:Nat} {own':List (Nat×Obj')} {mv:List Nat} (hk:k<ids.length/\rho ids k=st.next/\k∉mv)
  (ha:yp (rho ids) args0 = .yd st.next::caps) (hl:Sym.los ids.length args0) (hf:Fits (VR st ps aS bd) ids own0) (hp:zJ P gf args0 own0 ids.length s nx own' mv)
  (hK:D2 st.next Q ((VR st ps aS bd).after ids nx own' mv)):gA P (.rangeFunc g ps aS bd) Q st:=by
 intro X w0 β a w n hm
 refine wpIn_rangeFunc (F:=FW none) ?_
 intro fn _
 have Hi:Below w.heap.size w (w.alloc (.deferred (some []))):=wJ w _
 have F0:∀ b,(X b\/b=w.heap.size)->X b\/(w.heap.size<=b/\b<(w.alloc (.deferred (some []))).heap.size):=λb hb=>hb.elim .inl λe=>.inr ⟨by omega,by simp;omega⟩
 have L:Mods (λb=>X b\/b=w.heap.size) (VW (w.alloc (.deferred (some []))) st β w0.β0 w0.dfs) st β a (w.alloc (.deferred (some []))):=
  hm.O3 F0 (λb=>.inl) (by simp) (λb hb _=>Hi.block b hb)
 have hu:=hm.under (X':=λb=>X b\/b=w.heap.size) (λb=>.inl) (hm.below.next Hi)
 have hD:(w.alloc (.deferred (some []))).heap[w.heap.size]?=some (.deferred (some [])):=World.alloc_heap_new w _
 obtain⟨G,O⟩:=Nm L st.n 0 (by rw[<-hm.size];omega)
 rw[List.drop_zero] at G
 generalize F1:(λb=>X b\/b=w.heap.size)=X' at L hu G
 have A:X' w.heap.size:=by rw[<-F1];exact .inr rfl
 generalize Hs:w.alloc (.deferred (some []))=w1 at L hu hD G
 generalize B:VW w1 st β w0.β0 w0.dfs=w0' at L hu
 have C:w0'.w=w1:=by rw[<-B];rfl
 have I:w1.heap.size=w.heap.size+1:=by rw[<-Hs];simp
 let rcd:Loop:={state:=.ready,pending:=none,fn,tmps:=a.tmps,params:=ps,assign:=aS,body:=bd,defers:=w.heap.size}
 have T:Mods X' w0' (VR st ps aS bd) (λi=>if i=st.next then .pointer (some ⟨w1.heap.size,0,none⟩) else β i) a (w1.alloc (.loop rcd)):=by
  refine L.new (wJ w1 _) rfl O (λb hb=>by simp[blk] at hb;omega) ?_
  refine⟨w1.heap.size,fn,w.heap.size,a.tmps.toList,by simp[RK.ptr],.inl L.below.size,?_,?_⟩
  .have:=World.alloc_heap_new w1 (.loop rcd)
   simpa[RK.at,rcd] using this
  .refine zh.over (m:=st.next) (λid h=>by simp;intro e;omega) ?_ O G
   intro b hb he;refine⟨?_,(wJ w1 _).block b hb⟩
   rintro(h | h)
   .exact he h
   .simp[blk] at h;omega
 generalize V:VR st ps aS bd=st2 at T hf hK
 have Y:st2.val g=st.val g:=by rw[<-V];rfl
 have N:st2.next=st.next+1:=by rw[<-V];rfl
 have hv:=(T.val g).2
 rw[Y] at hv
 obtain⟨lb,Fd,Fk⟩:∃ lb:List Value,a.eval g = .func (.func gf) #[] lb.toArray/\zh (w1.alloc (.loop rcd)) (Ex X' (λi=>if i=st.next then .pointer (some ⟨w1.heap.size,0,none⟩) else β i) st2.own) (λi=>if i=st.next then .pointer (some ⟨w1.heap.size,0,none⟩) else β i) caps lb:=by
  cases hf:st.val g <;> rw[hf] at H hv <;> simp only[xh] at H
  case d x=>
   cases x <;> simp only[xh] at H
   case fn f' l=>
    simp at H;obtain⟨rfl,rfl⟩:=H
    simp only[Sm,R] at hv;obtain⟨vs,h1,h2⟩:=hv;exact⟨vs,h1,zh.uw h2⟩
   all_goals cases H
  case fn f' l=>
   simp at H;obtain⟨rfl,rfl⟩:=H
   simp only[Sm] at hv;exact hv
  all_goals cases H
 have S:zh (w1.alloc (.loop rcd)) (Ex X' (λi=>if i=st.next then .pointer (some ⟨w1.heap.size,0,none⟩) else β i) st2.own) (λi=>if i=st.next then .pointer (some ⟨w1.heap.size,0,none⟩) else β i) (.yd st.next::caps) (.func (.yield w1.heap.size) #[] #[]::lb):=by
  simp only[zh];refine⟨_,_,rfl,?_,Fk⟩
  simp only[Sm];exact⟨w1.heap.size,by simp,rfl⟩
 generalize hβ2:(λi=>if i=st.next then Value.pointer (some ⟨w1.heap.size,0,none⟩) else β i)=β2 at T S
 have hβn:β2 st.next = .pointer (some ⟨w1.heap.size,0,none⟩):=by rw[<-hβ2];simp
 have hE:Ex (outOf X' β2 ids st2.own) (λi=>β2 (rho ids i)) own0=Ex X' β2 st2.own:=funext λb=>propext (hf.ex b)
 have Fm:zh (w1.alloc (.loop rcd)) (Ex (outOf X' β2 ids st2.own) (λi=>β2 (rho ids i)) own0) (λi=>β2 (rho ids i)) args0 (.func (.yield w1.heap.size) #[] #[]::lb):=by
  rw[<-ha] at S;rw[hE];exact uA (ρ:=rho ids) (β:=λi=>β2 (rho ids i)) (β':=β2) (m:=ids.length) (λ_ _=>rfl) hl S
 obtain⟨M,Fn⟩:=hp
 have E:=Fn (outOf X' β2 ids st2.own) (inBase β2 ids (w1.alloc (.loop rcd))) (λi=>β2 (rho ids i)) _ _ rfl (T.WL hf) Fm
 refine⟨w1.heap.size,[mark w.heap.size],w1.alloc (.loop rcd),{target:=.fn (.func gf) lb.toArray,args:=#[.func (.yield w1.heap.size) #[] #[]]},w1.alloc (.loop rcd),gf,(.func (.yield w1.heap.size) #[] #[]::lb).toArray,w1.alloc (.loop rcd),?_,?_,λ_ _=>trivial,?_,λhd=>by simp[FW,Fence.wide] at hd,?_⟩
 .have:=run_enterLoop_outer (P:=P) (w:=w) fn a.tmps ps aS bd
  rw[Hs,<-I] at this;exact this
 .simp only[resolve,Fd]
  simp[go_sem]
 .unfold callable at M
  cases W:P.funcs[gf]? with
  |none=>simp[W] at M
  |some fnn=>
   simp[W] at M;have e1:¬fnn.body=none:=by intro e;rw[e] at M;simp at M
   simp[invoke,callFunc,W,e1,M.1]
 .refine O2 (E.mono λe' w3 he=>?_)
  obtain⟨β1,v,rfl,Z,Fr,B1⟩:=he;have H0:=(T.WM hf Z).1;have hβ3:jF β2 β1 ids st2.next st.next = .pointer (some ⟨w1.heap.size,0,none⟩):=by
   have h1:=Mk (β:=β2) (β1:=β1) hf k;have h2:yA ids st2.next k=st.next:=by
    unfold yA;rw[if_pos hk.1];exact hk.2.1
   rw[h2] at h1;rw[h1,Z.still.2 k hk.1 hk.2.2];show β2 (rho ids k)=_
   rw[hk.2.1];exact hβn
  generalize Fs:st2.after ids nx own' mv=I8 at H0 hK;generalize jF β2 β1 ids st2.next=β3 at H0 hβ3;unfold D2 at hK;split at hK
  .rename_i ps1 a1 b1 s1 pend cells1 Eq
   obtain⟨b,fn',D',vs',hb,hh,D0⟩:=Db (s':=.exhausted) (pd':=pend) H0 Eq;have D4:b=w1.heap.size:=by
    rw[hb] at hβ3;simpa using hβ3
   subst D4;have Go:=D0.filt (λx=>!Nat.beq x.1 st.next)
   rw[O4] at Go;have H1:MX X w0 [w.heap.size] (VS I8 st.next) β3 {a with defers:=[mark w.heap.size]++a.defers} _:=
    ⟨⟨X',w0',hu,by
     have e:({({a with defers:=[mark w.heap.size]++a.defers}:Act) with defers:=w0.dfs}:Act)=a:=by have:=hm.defers;cases a;simp only at this;subst this;rfl
     rw[e];exact Go,λD Hc=>by
      have:D=w.heap.size:=by simpa using Hc
      subst this;exact⟨A,by rw[C];exact hD⟩⟩,by rw[hm.defers];rfl,by simp,λD Hc=>by
      have:D=w.heap.size:=by simpa using Hc
      subst this;exact .inl hm.below.size⟩
   have K:s1≠.busy->(Instr.endLoop w1.heap.size).run P w3 = .ok pend _:=λJ=>run_endLoop (P:=P) hh J
   split at hK
   .exact hK.elim
   .rename_i _ _ J
    exact⟨none,_,K J,⟨.normal,_,β3,_,trivial,hK,H1⟩⟩
   .rename_i _ _ J
    exact⟨some .ret,_,K J,wpIn_ret ⟨.ret,_,β3,_,trivial,hK,H1⟩⟩
   .rename_i _ _ i J
    exact⟨some (.exit i),_,K J,wpIn_exit ⟨.exit i,_,β3,_,rfl,hK,H1⟩⟩
   .exact hK.elim
  .exact hK.elim
end
section
variable {P:Program} {st:St} {Q:DE->St->Prop}
def VT(P:Program)(y:Code)(Q:DE->St->Prop):DE->St->Prop:=Yg (λst=>qc P y Q st) Q
theorem Kj{x y:Code}(h:gA P x (VT P y Q) st):gA P (.seq x y) Q st:=by
 intro X w0 β a w n K
 refine wpIn_seq (wpIn_mono (h X w0 β a w n K) ?_)
 rintro e a' w' ⟨de,st',β',ms',J,L,H⟩
 cases e <;> cases de <;> simp only[yr] at J
 .refine wpIn_mono (gy (c:=y) (Q:=Q) (r:=none) L X w0 β' a' w' ms' n H) ?_
  rintro e2 a2 w2 ⟨de2,st2,β2,G,F,E⟩
  exact⟨de2,st2,β2,ms',G,F,E⟩
 .subst J;exact⟨.exit _,st',β',ms',rfl,L,H⟩
 .exact⟨.ret,st',β',ms',trivial,L,H⟩
theorem Kk{id:Nat}{c:Code}(h:gA P c (vU id Q) st):gA P (.block id c) Q st:=by
 intro X w0 β a w n G
 refine wpIn_block (wpIn_mono (h X w0 β a w n G) ?_)
 rintro e a' w' ⟨de,st',β',ms',F,E,H⟩
 cases e <;> cases de <;> simp only[yr] at F
 .exact⟨.normal,st',β',ms',trivial,E,H⟩
 .subst F
  simp only[vU] at E;simp only[Exit.inBlock];split
  .rename_i e;rw[if_pos e] at E;exact⟨.normal,st',β',ms',trivial,E,H⟩
  .rename_i e;rw[if_neg e] at E;exact⟨.exit _,st',β',ms',rfl,E,H⟩
 .exact⟨.ret,st',β',ms',trivial,E,H⟩
theorem Zu(H:P.follows .mixedOrders=true)(n:Nat){c:Code}(S:St)(hs:kj n c=true):∀ {st:St},ev P (yn n c) (qW S Q) st->gA P (yL n c) Q S->gA P c Q st:=by
 induction n generalizing c with
 |zero=>
  intro st h F X w0 β a w m E;exact F X w0 β a w m (E.weak h)
 |succ n ih=>
  intro st h F;cases c <;> simp only[yn,yL,kj,reduceCtorEq] at h F hs
  case seq x y=>
   intro X w0 β a w m E;simp only[ev] at h;refine wpIn_seq (wpIn_mono (wpIn_wide.2 (zL H h X w0 β a w E)) ?_)
   rintro e a' w' ⟨de,st',β',K,J,G⟩
   cases e <;> cases de <;> simp only[yr] at K
   .exact ih hs J F X w0 β' a' w' m G
   .subst K;exact⟨.exit _,st',β',[],rfl,J,.of G⟩
   .exact⟨.ret,st',β',[],trivial,J,.of G⟩
theorem Nn{f:Nat}{fn:Func}{c:Code}(J:P.funcs[f]?=some fn)(L:fn.body=some c)(H:callable P f=true){args:List D}{r:D}
  (h:gA P c (jG (uD P fn.results.toList r)) (jj fn.ntmps args)):zj P f args r:=by
 refine⟨H,λw E vs M O=>?_⟩
 refine(callsIn_wide (n:=0)).1 (callsIn_of_wp_marks (F:=Fence.wide) (n:=0) J L trivial ?_)
 refine wpIn_mono (h E (.of w) _ _ w 0 (Mods.init M O)) ?_
 have fin:∀ {st' β' ms' a' w'},uD P fn.results.toList r st'->MX E (.of w) ms' st' β' a' w'->LeavesInM Fence.wide 0 P fn a'.tmps (λe w'=>∃ v,e = .returned v/\Below w.heap.size w w'/\R w' E r v) a'.defers .returning w':=by
  intro st0 β' ms' a' w' Q G;rw[G.defers,show(Base.of w).dfs=[] from rfl,List.append_nil]
  refine Dd rfl G λa2 w2 ea K=>?_
  obtain⟨v,T,V⟩:=wN K Q;rw[<-ea];exact⟨v,T,v,rfl,K.below.below,V⟩
 rintro e a' w' ⟨de,st',β',ms',X,Q,G⟩
 cases e <;> cases de <;> simp only[yr] at X
 .exact fin Q G
 .exact Q.elim
 .exact fin Q G
end
def jK:Code->Option (Array Tmp×Code×Code)
 |.rangeFunc _ ps a b=>some (ps,a,b)
 |.seq x y=>match jK x with
  |some r=>some r
  |none=>jK y
 |.block _ c=>jK c
 |_=>none
def vD(f:Func):Code:=match f.body with
 |some c=>match jK c with
  |some (_,a,_)=>a
  |none=>.skip
 |none=>.skip
def vE(f:Func):Code:=match f.body with
 |some c=>match jK c with
  |some (_,_,b)=>b
  |none=>.skip
 |none=>.skip
theorem gx.tO{P:Program}{st:St}{id:Nat}{xs:List Operand}{dst:Option Tmp}{K:St->Prop}(k:Nat)(ids:List Nat)(args0:List Sym)(own0:List (Nat×Obj')){s:Sym}{nx:Nat}{own':List (Nat×Obj')}{mv:List Nat}
  (H:k<ids.length/\rho ids k=id) (G:yp (rho ids) args0=xs.map st.val) (F:Sym.los ids.length args0) (E:Fits st ids own0) (J:Zv P k args0 own0 ids.length s nx own' mv)
  (L:K ((st.after ids nx own' mv).put dst (ren (yA ids st.next) s))):gx P st id xs dst K:=⟨k,ids,args0,own0,s,nx,own',mv,H,G,F,E,J,L⟩
theorem zJ.VU{P:Program}{f:Nat}{args:List Sym}{own:List (Nat×Obj')}{n nx:Nat}{own':List (Nat×Obj')}{mv:List Nat}(h:zJ P f args own n (.tup []) nx own' mv):zJ P f args own n (.d (.tup [])) nx own' mv:=by
 refine⟨h.1,λX w0 β w vs hβ H hs=>(h.2 X w0 β w vs hβ H hs).mono λe w' G=>?_⟩
 obtain⟨β',v,F,E,K,J⟩:=G
 refine⟨β',v,F,E,by simp[Sym.lo],?_⟩
 simp only[Sm,zh] at J
 obtain⟨vs',rfl,rfl⟩:=J
 simp[Sm,R,zH]
section
variable {P:Program} {st:St} {Q:DE->St->Prop} {K:St->Prop} {all r:List Oper}
def D3(P:Program)(all r:List Oper)(K:St->Prop):St->Prop:=λst=>jJ P all r st K
theorem zio:qc P .skip Q st=Q .normal st:=rfl
theorem ze3(id:Nat)(ops:List Oper):qc P (.region id ops.toArray false) Q st=jJ P ops ops st (K3 Q):=by simp[qc];rfl
theorem zjv(x y:Code):qc P (.seq x y) Q st=qc P x (VT P y Q) st:=rfl
theorem ziq(c:Operand)(x y:Code):qc P (.cond c x y) Q st=match st.val c with
  |.d (.bool b)=>(b=true->qc P x Q st)/\(b=false->qc P y Q st)
  |_=>False:=rfl
theorem zg7(id:Nat)(c:Code):qc P (.block id c) Q st=qc P c (vU id Q) st:=rfl
theorem zir(id:Nat):qc P (.exit id) Q st=Q (.exit id) st:=rfl
theorem zjw:qc P .ret Q st=Q .ret st:=rfl
theorem zdp(y:Code):VT P y Q .normal st=qc P y Q st:=rfl
theorem zg8(y:Code)(i:Nat):VT P y Q (.exit i) st=Q (.exit i) st:=rfl
theorem zis(y:Code):VT P y Q .ret st=Q .ret st:=rfl
theorem zg9:jJ P all [] st K=K st:=rfl
theorem zdq(dst:Option Tmp)(op:Op)(ty:Nat)(pos:String)(after:Array Edge):
  jJ P all (⟨dst,op,ty,pos,after,none⟩::r) st K=Yp P ⟨dst,op,ty,pos,after,none⟩ st (D3 P all r K):=rfl
theorem zdr(dst:Option Tmp)(op:Op)(ty:Nat)(pos:String)(after:Array Edge)(j:Nat)(want:Bool):
  jJ P all (⟨dst,op,ty,pos,after,some (j,want)⟩::r) st K=match (all[j]?).bind (·.dst) with
   |some t=>match zc st.slots t with
    |some (.d (.bool b))=>(b=want->Yp P ⟨dst,op,ty,pos,after,some (j,want)⟩ (st.put (some t) (.d (.bool want))) (D3 P all r K)) /\
     (b = !want->yj dst st.n=true/\jJ P all r ((st.put (some t) (.d (.bool !want))).put dst (.d (.val undef))) K)
    |some (.d (.val v))=>v=undef/\yj dst st.n=true/\jJ P all r (st.put dst (.d (.val undef))) K
    |_=>False
   |none=>False:=rfl
theorem ze4:D3 P all r K st=jJ P all r st K:=rfl
theorem zal{bd:Code}{id n:Nat}:D1 P bd id n Q .normal st=((st.base=n/\id∉st.moved)/\match st.look id with
  |some (.raw (.lp ps aS bd' .ready none) cells1)=>bd'=bd/\qc P bd Q {st with own:=zV id (.raw (.lp ps aS bd' .busy none) cells1) st.own}
  |_=>False):=rfl
end
attribute [simp] zio ze3 zjv ziq zg7 zir zjw zdp zg8 zis zg9 zdq zdr ze4 Yp FZ zal VP initC Yj roundEnd VY Ks u6 Yq VR VS D2
section
variable {P:Program} {st:St} {all:List Oper}
def XW(P:Program)(all:List Oper)(m:Nat)(K:St->Prop):List Oper->St->Prop
 | [],st=>K st
 |x::r,st=>yj x.dst st.n=true/\jk P all x st (λs=>Sym.lo m s/\XW P all m K r (st.put x.dst s))
theorem No{m:Nat}{K:St->Prop}:∀ {l:List Oper} {st:St},XW P all m K l st->∃ ss,Chain P all l ss st/\(∀ s∈ss,Sym.lo m s)/\K (puts l ss st)
 | [],st,h=>⟨[],rfl,by simp,h⟩
 |x::r,st,h=>by
  simp only[XW] at h;obtain⟨H,h⟩:=h;obtain⟨s,G,F,E⟩:=Vw h;obtain⟨ss,q1,q2,q3⟩:=No E;refine⟨s::ss,⟨s,ss,rfl,H,G,q1⟩,?_,q3⟩
  intro u J;rcases List.mem_cons.1 J with e | J
  .subst e;exact F
  .exact q2 u J
theorem zha(K:P.follows .mixedOrders=true){id:Nat}{pre post:List Oper}(X:yT (pre++post)=true)(Y:post≠[])(J:vX (pre++post) pre.length=true)(G:VM (pre++post) pre.length=true){Q:DE->St->Prop}
  (F:(st.own.map (·.1)).Nodup) (h:XW P (pre++post) st.next (gw P (Q .normal) post) pre st):Triple P (.region id (pre++post).toArray true) Q st:=by
 refine VF K X ?_
 obtain⟨ss,Z,C,hd⟩:=No h
 have L:=Vx Z
 have M:∀ i k,(Seg.kd ⟨pre++post,0,pre.length,ss.map .val,st,λ_=>st.own⟩ i)=some k->∃ s,ss[i]?=some s/\k = .val s:=by
  intro i k hk;unfold Seg.kd at hk;split at hk
  .simp only[Nat.sub_zero,List.getElem?_map] at hk
   cases hs:ss[i]? with
   |none=>rw[hs] at hk;cases hk
   |some s=>rw[hs] at hk;simp at hk;exact⟨s,rfl,hk.symm⟩
  .cases hk
 have H:∀ t,¬(Seg.U ⟨pre++post,0,pre.length,ss.map .val,st,λ_=>st.own⟩ t):=by
  rintro t ⟨i,ob,y,k,_,hk,_,hm⟩
  obtain⟨s,_,rfl⟩:=M i k hk;cases hm
 have O:∀ i id ob,Seg.kd ⟨pre++post,0,pre.length,ss.map .val,st,λ_=>st.own⟩ i≠some (.bst id ob):=by
  intro i id ob hk;obtain⟨s,_,e⟩:=M i _ hk;cases e
 have E:∀ i,Seg.zX ⟨pre++post,0,pre.length,ss.map .val,st,λ_=>st.own⟩ i=puts ((pre++post).take i) (ss.take i) st:=by
  intro i;unfold Seg.zX;have I:(ss.map FK.val).map FK.sym=ss:=by
   rw[List.map_map];have:(FK.sym∘FK.val)=λs=>s:=rfl
   rw[this,List.map_id']
  simp only[List.drop_zero,Nat.sub_zero];rw[I]
 have A:∀ i,i<=pre.length->(pre++post).take i=pre.take i:=λi hi=>by rw[List.take_append_of_le_length hi]
 refine RegI.seg (pos:=0) (hi:=pre.length) (ss.map .val) (λ_=>st.own) [] st.own ?_ ?_ (.inl J) ?_
 .refine⟨X,⟨Nat.zero_le _,by simp,by simp[L]⟩,λt _ _ h=>absurd h (H t),λi t ob m h=>absurd ⟨i,ob,h⟩ (H t),λi j id ob ob' h=>absurd h (O i id ob),λ_ id ob h=>⟨h,λi ob hk=>absurd hk (O i id ob)⟩,?_⟩
  intro i y k hy hk;obtain⟨s,hs,rfl⟩:=M i k hk;have hi:i<pre.length:=by
   have:=(List.getElem?_eq_some_iff.1 hs).1
   omega
  have N:pre[i]?=some y:=by
   have:(pre++post)[i]?=pre[i]?:=List.getElem?_append_left hi
   rw[<-this];exact hy
  obtain⟨s',B,S,W⟩:=WZ Z N;rw[hs] at B;cases B;refine⟨S,λt _=>H t,?_,C s (List.mem_of_getElem? hs)⟩
  show DStep P (pre++post) y (Seg.zX ⟨pre++post,0,pre.length,ss.map .val,st,λ_=>st.own⟩ i) s
  rw[E,A i (by omega)]
  exact W
 .refine⟨λt ob h=>by simp at h,by simp,rfl,λ_ id ob h=>.inr ⟨?_,λi ob=>O i id ob⟩⟩
  have T:∀ {l:List (Nat×Obj')},(l.map (·.1)).Nodup->(id,ob)∈l->zc l id=some ob:=by
   intro l;induction l with
   |nil=>intro _ h;cases h
   |cons x r ih=>
    intro hn h;obtain⟨k,u⟩:=x;simp only[List.map_cons,List.nodup_cons] at hn;simp only[zc];rcases List.mem_cons.1 h with e | h
    .cases e;simp
    .have H0:k≠id:=by intro e;subst e;exact hn.1 (List.mem_map.2 ⟨_,h,rfl⟩)
     rw[if_neg H0];exact ih hn.2 h
  exact T F h
 .have V:Seg.fin ⟨pre++post,0,pre.length,ss.map .val,st,λ_=>st.own⟩ [] st.own=puts pre ss st:=by
   unfold Seg.fin;simp only[E,A pre.length (Nat.le_refl _),List.take_length];have H1:ss.take pre.length=ss:=by rw[List.take_of_length_le (by omega)]
   obtain⟨p1,p2,p3,p4,p5⟩:=Yi pre ss st;rw[H1];simp only[List.length_nil,Nat.add_zero,vC,ve,List.nil_append];cases hp:puts pre ss st with
   |mk n next slots own base moved=>
    rw[hp] at p1 p2 p3 p4 p5;simp only at p1 p2 p3 p4 p5
    subst p1;subst p2;subst p3;subst p4;subst p5;rfl
  rw[V];refine VN (k:=pre.length) (by simp) (by simp) (λi h1 h2=>?_) hd
  have:=List.all_eq_true.1 G i (List.mem_range.2 h2)
  rw[Bool.or_eq_true,Nat.ble_eq] at this;exact this.elim (λe=>by omega) λe=>e
theorem Yr(F:P.follows .mixedOrders=true)(m:Nat){id:Nat}{ops:List Oper}{Q:DE->St->Prop}(K:yT ops=true)(J:decide (m<ops.length)=true)(E:vX ops m=true)(H:VM ops m=true)
  (G:(st.own.map (·.1)).Nodup) (h:XW P ops st.next (gw P (Q .normal) (ops.drop m)) (ops.take m) st):Triple P (.region id ops.toArray true) Q st:=by
 have J:m<ops.length:=of_decide_eq_true J
 have e:ops.take m++ops.drop m=ops:=List.take_append_drop m ops
 have L:(ops.take m).length=m:=by rw[List.length_take];omega
 have:=zha (P:=P) (st:=st) (pre:=ops.take m) (post:=ops.drop m) (id:=id) (Q:=Q) F (by rw[e];exact K) (by intro e2;have:=congrArg List.length e2;rw[List.length_drop] at this;simp at this;omega) (by rw[e,L];exact E) (by rw[e,L];exact H) G (by rw[e];exact h)
 rw[e] at this
 exact this
attribute [simp] XW gw
end
section
variable {P:Program} {all:List Oper} {st:St} {Q:DE->St->Prop}
def zjx(P:Program)(ib n0:Nat)(st:St)(t:Nat)(ad x:Sym)(K:Nat->Obj'->Prop):Prop:=
 match TI.of P t,ad with
 |some ti,.bp id off=>match st.look id with
  |some (.box T cells)=>match qG x with
   |some l=>(id=ib/\l.length=ti.size/\off+l.length<=cells.length/\Sym.los n0 (splice cells off l))/\K id (.box T (splice cells off l))
   |none=>False
  |_=>False
 |_,_=>False
def Np(ib:Nat)(st:St)(b:Bool):St:={st with own:=if b=true then st.own else st.own.filter λx=>!Nat.beq x.1 ib}
def Nq(P:Program)(all:List Oper)(n0:Nat)(dp:Nat->Bool)(ib:Nat):Nat->List Oper->St->List Sym->(St->List Sym->Prop)->Prop
 |_,[],st,ss,K=>K st ss
 |i,o::r,st,ss,K=>yj o.dst st.n=true/\jk P all o (Np ib st (dp i)) (λs=>Sym.lo n0 s/\Nq P all n0 dp ib (i+1) r (st.put o.dst s) (s::ss) K)
attribute [simp] zjx Nq Np
end
end Go.V
namespace Go.V
variable [Dr] [Ov]
open Go.RowKit
def Kl(P:Program)(n0:Nat)(st:St)(t id:Nat)(ad x:Sym)(K:Obj'->Prop):Prop:=
 match TI.of P t,qG x with
 |some ti,some l=>match ad,st.look id with
  |.bp id' off,some (.box T cells)=>(id'=id/\l.length=ti.size/\off+l.length<=cells.length/\Sym.los n0 (splice cells off l))/\K (.box T (splice cells off l))
  |.ap id' sz i off,some (.arr T sz' rows)=>match vd l with
   |some ds=>(id'=id/\sz=sz'/\i<rows.length/\ds.length=ti.size/\off+ds.length<=(rows.getD i []).length)/\K (.arr T sz (rows.set i (splice (rows.getD i []) off ds)))
   |none=>False
  |_,_=>False
 |_,_=>False
def gB(ids:List Nat)(st:St):St:={st with own:=st.own.filter λx=>!ids.contains x.1}
def unseen(all:List Oper)(m i:Nat):List Nat->List Nat
 | []=>[]
 |id::r=>if gq all 4 m i=true then unseen all (m+1) i r else id::unseen all (m+1) i r
def XX(P:Program)(all:List Oper)(n0 m:Nat)(ids:List Nat):Nat->List Oper->St->List Sym->(St->List Sym->Prop)->Prop
 |_,[],st,ss,K=>K st ss
 |i,o::r,st,ss,K=>yj o.dst st.n=true/\jk P all o (gB (unseen all m i ids) st) (λs=>Sym.lo n0 s/\XX P all n0 m ids (i+1) r (st.put o.dst s) (s::ss) K)
def XY(P:Program)(n0:Nat)(st:St):List Oper->List Nat->List (Nat×Obj')->(List (Nat×Obj')->Prop)->Prop
 | [],[],bs,K=>K bs
 |o::r,id::ids,bs,K=>(o.guard=none/\o.dst=none/\(bs.map (·.1)).contains id=false)/\match o.op with
  |.store t (.tmp j) x=>Kl P n0 st t id (st.val (.tmp j)) (st.val x) λob=>XY P n0 st r ids (bs++[(id,ob)]) K
  |_=>False
 |_,_,_,_=>False
def uG:List (Nat×Obj')->List (Nat×Obj')->List (Nat×Obj')
 | [],own=>own
 |(id,ob)::r,own=>uG r (zV id ob own)
section
variable {P:Program} {all:List Oper} {st:St} {Q:DE->St->Prop}
theorem Nr{n0 m:Nat}{ids:List Nat}{K:St->List Sym->Prop}:∀ {l:List Oper} {i:Nat} {st:St} {rs:List Sym},XX P all n0 m ids i l st rs K ->
  ∃ ss:List Sym,ss.length=l.length/\K (puts l ss st) (ss.reverse++rs)/\∀ j o,l[j]?=some o->∃ s,ss[j]?=some s/\yj o.dst st.n=true/\DStep P all o (gB (unseen all m (i+j) ids) (puts (l.take j) (ss.take j) st)) s/\Sym.lo n0 s
 | [],i,st,rs,h=>⟨[],rfl,by simp only[XX] at h;simpa[puts] using h,λj o hj=>by simp at hj⟩
 |x::r,i,st,rs,h=>by
  simp only[XX] at h;obtain⟨H,h⟩:=h;obtain⟨s,G,F,E⟩:=Vw h;obtain⟨ss,q1,q2,q3⟩:=Nr E;refine⟨s::ss,by simp[q1],by simpa[puts] using q2,λj o hj=>?_⟩
  cases j with
  |zero=>
   simp at hj;subst hj
   exact⟨s,rfl,H,by simpa[puts] using G,F⟩
  |succ j=>
   obtain⟨s',e1,e2,e3,e4⟩:=q3 j o (by simpa using hj)
   refine⟨s',by simpa using e1,?_,?_,e4⟩
   .have:(st.put x.dst s).n=st.n:=by unfold St.put;split <;> rfl
    rw[this] at e2;exact e2
   .rw[show i+(j+1)=i+1+j by omega]
    simpa[puts] using e3
theorem Ns(ids:List Nat):∀ (l:List Oper) (ss:List Sym) (st:St),puts l ss (gB ids st)=gB ids (puts l ss st)
 | [],ss,st=>by simp[puts]
 |o::r,[],st=>by simp[puts]
 |o::r,s::ss,st=>by
  have:(gB ids st).put o.dst s=gB ids (st.put o.dst s):=by
   unfold gB St.put;cases o.dst <;> rfl
  simp only[puts];rw[this,Ns ids r ss]
theorem Nu(o':List (Nat×Obj')):∀ (l:List Oper) (ss:List Sym) (st:St),(puts l ss {st with own:=o' }).slots=(puts l ss st).slots
 | [],ss,st=>by simp[puts]
 |y::r,[],st=>by simp[puts]
 |y::r,s::ss,st=>by
  simp only[puts];have:({st with own:=o' }:St).put y.dst s = {(st.put y.dst s) with own:=o' }:=by
   unfold St.put;cases y.dst <;> rfl
  rw[this];exact Nu o' r ss (st.put y.dst s)
theorem Nv:∀ {l:List Oper} {ss:List Sym} {st:St},(∀ o∈l,o.dst=none)->puts l ss st=st
 | [],ss,st,_=>by simp[puts]
 |o::r,[],st,_=>by simp[puts]
 |o::r,s::ss,st,h=>by
  simp only[puts];rw[h o List.mem_cons_self];exact Nv λx H=>h x (List.mem_cons_of_mem _ H)
theorem D5{ids:List Nat}:∀ {l:List (Nat×Obj')} {id:Nat} {o:Obj'},zc (l.filter λx=>!ids.contains x.1) id=some o->id∉ids/\zc l id=some o
 | [],id,o,h=>by simp[zc] at h
 |(k,v)::r,id,o,h=>by
  by_cases H:ids.contains k=true
  .rw[List.filter_cons_of_neg (by show ¬(!ids.contains k)=true;rw[H];simp)] at h
   obtain⟨G,F⟩:=D5 h;refine⟨G,?_⟩
   simp only[zc];rw[if_neg (λe=>by subst e;exact G (by simpa using H))];exact F
  .rw[List.filter_cons_of_pos (by show(!ids.contains k)=true;rw[Bool.eq_false_iff.2 H];rfl)] at h
   simp only[zc] at h ⊢;split at h
   .rename_i e;subst e;rw[if_pos rfl];exact⟨λE=>H (by simpa using E),h⟩
   .rename_i e;rw[if_neg e];exact D5 h
theorem Nw{i:Nat}:∀ {ids:List Nat} {m j id:Nat},ids[j]?=some id->gq all 4 (m+j) i=true\/id∈unseen all m i ids
 | [],m,j,id,h=>by simp at h
 |x::r,m,0,id,h=>by
  simp at h;subst h
  unfold unseen;by_cases c:gq all 4 m i=true
  .exact .inl c
  .rw[if_neg c];exact .inr List.mem_cons_self
 |x::r,m,j+1,id,h=>by
  have ih:=Nw (i:=i) (ids:=r) (m:=m+1) (j:=j) (id:=id) (by simpa using h)
  rw[show m+(j+1)=m+1+j by omega]
  refine ih.imp_right λhm=>?_
  unfold unseen;split
  .exact hm
  .exact List.mem_cons_of_mem _ hm
def D6(P:Program)(n0:Nat)(st:St)(o:Oper)(id:Nat)(ob:Obj'):Prop:=
 o.guard=none/\o.dst=none/\ob.lo n0/\∃ o0,st.look id=some o0/\∀ (S:Seg) (k:Nat),(∀ y,(S.zX k).val y=st.val y)->∀ (st':St) (K:St->Prop),Knows S k o st'->st'.look id=some o0->K {st' with own:=zV id ob st'.own}->yq P o st' K
theorem zit{n0 t j id:Nat}{x:Operand}{o:Oper}{K:Obj'->Prop}(E:o.op = .store t (.tmp j) x)(M:o.guard=none)(O:o.dst=none)(h:Kl P n0 st t id (st.val (.tmp j)) (st.val x) K):∃ ob,D6 P n0 st o id ob/\K ob:=by
 unfold Kl at h
 have kn:∀ {S:Seg} {k:Nat} {st':St},(∀ y,(S.zX k).val y=st.val y)->Knows S k o st'->(st.val (.tmp j)≠.junk->st'.val (.tmp j)=st.val (.tmp j))/\(st.val x≠.junk->st'.val x=st.val x):=λ{S k st'} Q V=>by
  refine⟨λX=>?_,λX=>?_⟩
  .rw[V.2 (.tmp j) (by rw[E];simp[Op.operands]) (by rw[Q];exact X),Q]
  .rw[V.2 x (by rw[E];simp[Op.operands]) (by rw[Q];exact X),Q]
 split at h
 .rename_i ti l L hl
  have Y:st.val x≠.junk:=by intro e;rw[e] at hl;simp[qG] at hl
  split at h
  .rename_i id' off T cells F J
   obtain⟨⟨rfl,c1,c2,c3⟩,Z⟩:=h;refine⟨.box T (splice cells off l),⟨M,O,c3,_,J,λS k Q st' K V H G=>?_⟩,Z⟩
   obtain⟨k1,k2⟩:=kn Q V;unfold yq;rw[E];simp only;rw[O,L];simp only;unfold Yc;rw[k1 (by rw[F];simp),F,k2 Y];simp only
   rw[H];simp only;rw[hl];simp only;exact⟨c1,c2,G⟩
  .rename_i id' sz i off T sz' rows F J
   split at h
   .rename_i ds hds
    obtain⟨⟨rfl,rfl,c1,c2,c3⟩,Z⟩:=h;refine⟨.arr T sz (rows.set i (splice (rows.getD i []) off ds)),⟨M,O,trivial,_,J,λS k Q st' K V H G=>?_⟩,Z⟩
    obtain⟨k1,k2⟩:=kn Q V;unfold yq;rw[E];simp only;rw[O,L];simp only;unfold Yc;rw[k1 (by rw[F];simp),F,k2 Y];simp only
    rw[H];simp only;rw[hl];simp only;rw[hds];simp only;first | exact⟨⟨rfl,c1,c2,c3⟩,G⟩ | exact⟨⟨trivial,c1,c2,c3⟩,G⟩ | exact⟨trivial,c1,c2,c3,G⟩ | exact⟨c1,c2,c3,G⟩ | (trace_state;exact⟨⟨c1,c2,c3⟩,G⟩)
   .exact h.elim
  .exact h.elim
 .exact h.elim
theorem Nx{n0:Nat}{K:List (Nat×Obj')->Prop}:∀ {l:List Oper} {ids:List Nat} {bs:List (Nat×Obj')},XY P n0 st l ids bs K->∃ obs:List (Nat×Obj'),obs.map (·.1)=ids/\l.length=ids.length/\(∀ (j:Nat) (o:Oper) (x:Nat×Obj'),l[j]?=some o->obs[j]?=some x->D6 P n0 st o x.1 x.2)/\(∀ id∈bs.map (·.1),id∉ids)/\ids.Nodup/\K (bs++obs)
 | [],[],bs,h=>⟨[],rfl,rfl,λj o x hj=>by simp at hj,λ_ _=>by simp,List.nodup_nil,by simp only[XY] at h;simpa using h⟩
 | [],_::_,bs,h=>h.elim
 |_::_,[],bs,h=>h.elim
 |o::r,id::ids,bs,h=>by
  unfold XY at h;obtain⟨⟨G,F,E⟩,h⟩:=h;split at h
  .rename_i t j x H
   obtain⟨ob,J,h⟩:=zit H G F h;obtain⟨obs,q1,q2,q3,q4,q5,q6⟩:=Nx h;have hid:id∉bs.map (·.1):=by
    intro L;have:(bs.map (·.1)).contains id=true:=by simpa using L
    rw[E] at this;cases this
   refine⟨(id,ob)::obs,by simp[q1],by simp[q2],λj o' x' hj M=>?_,λk O L=>?_,List.nodup_cons.2 ⟨q4 id (by simp),q5⟩,by simpa using q6⟩
   .cases j with
    |zero=>simp at hj M;subst hj;subst M;exact J
    |succ j=>exact q3 j o' x' (by simpa using hj) (by simpa using M)
   .rcases List.mem_cons.1 L with rfl | L
    .exact hid O
    .exact q4 k (by rw[List.map_append];exact List.mem_append.2 (.inl O)) L
  .exact h.elim
theorem Ny:∀ {l own:List (Nat×Obj')},(∀ x∈l,x.1∈own.map (·.1))->(uG l own).map (·.1)=own.map (·.1)
 | [],own,_=>rfl
 |(id,ob)::r,own,h=>by
  have H:=Xr (v:=ob) (h _ List.mem_cons_self);unfold uG;rw[Ny λx G=>by rw[H];exact h x (List.mem_cons_of_mem _ G),H]
theorem Nz:∀ {l own:List (Nat×Obj')} {id:Nat} {o:Obj'},(∀ x∈l,x.1∈own.map (·.1))->(own.map (·.1)).Nodup->(l.map (·.1)).Nodup->(id,o)∈uG l own->(id,o)∈l\/((id,o)∈own/\id∉l.map (·.1))
 | [],own,id,o,_,_,_,h=>.inr ⟨h,by simp⟩
 |(k,ob)::r,own,id,o,G,F,E,h=>by
  have K:=Xr (v:=ob) (G _ List.mem_cons_self);have E:=List.nodup_cons.1 E;unfold uG at h;rcases Nz (λx J=>by rw[K];exact G x (List.mem_cons_of_mem _ J)) (by rw[K];exact F) E.2 h with h | ⟨h,L⟩
  .exact .inl (List.mem_cons_of_mem _ h)
  .rcases Xt F h with⟨rfl,rfl⟩ | ⟨H,h⟩
   .exact .inl List.mem_cons_self
   .exact .inr ⟨h,λM=>(List.mem_cons.1 M).elim H L⟩
theorem XZ(Z:P.follows .mixedOrders=true)(m:Nat)(ids:List Nat){id:Nat}{ops:List Oper}(N:yT ops=true)(Y:Nat.ble (m+ids.length) ops.length=true)(O:Nat.blt 0 ids.length=true)(A:VM ops (m+ids.length-1)=true)(K:(st.own.map (·.1)).Nodup)
  (h:XX P ops st.next m ids 0 (ops.take m) st [] (λstF _=>XY P st.next {stF with own:=st.own} ((ops.drop m).take ids.length) ids [] (λbs=>gw P (Q .normal) (ops.drop (m+ids.length)) {st with slots:=stF.slots,own:=uG bs st.own}))) :
  Triple P (.region id ops.toArray true) Q st:=by
 refine VF Z N ?_
 rw[Nat.ble_eq] at Y
 have O:0<ids.length:=by simpa using O
 obtain⟨ss,H,hK,T⟩:=Nr h
 have W:(ops.take m).length=m:=by rw[List.length_take];omega
 rw[W] at H
 obtain⟨p1,p2,p3,p4,p5⟩:=Yi (ops.take m) ss st
 generalize hE:puts (ops.take m) ss st=stE at hK p1 p2 p3 p4 p5
 obtain⟨obs,q1,q2,q3,_,q5,hK⟩:=Nx hK
 rw[List.nil_append] at hK
 have H1:obs.length=ids.length:=by rw[<-q1,List.length_map]
 have L:∀ j x,obs[j]?=some x->∃ o,ops[m+j]?=some o/\D6 P st.next {stE with own:=st.own} o x.1 x.2:=by
  intro j x hx;have hj:j<ids.length:=by have:=(List.getElem?_eq_some_iff.1 hx).1;omega
  have ho:((ops.drop m).take ids.length)[j]?=some (ops[m+j]'(by omega)):=by
   rw[List.getElem?_take,if_pos hj,List.getElem?_drop];exact List.getElem?_eq_getElem _
  exact⟨_,List.getElem?_eq_getElem (by omega),q3 j _ x ho hx⟩
 have V:∀ x∈obs,x.1∈st.own.map (·.1):=by
  intro x hx;obtain⟨j,hj,e⟩:=List.mem_iff_getElem.1 hx;obtain⟨o,_,_,_,_,o0,B,_⟩:=L j x (by rw[List.getElem?_eq_getElem hj,e])
  exact List.mem_map.2 ⟨_,yZ B,rfl⟩
 let ks:List FK:=ss.map .val++obs.map λx=>.bst x.1 x.2
 have Hc:ks.length=m+ids.length:=by simp[ks,H,H1]
 let S:Seg:=⟨ops,0,m+ids.length,ks,st,λi=>if i<m then st.own.filter (λx=>!(unseen ops m i ids).contains x.1) else []⟩
 have J:∀ i,S.own0 i=if i<m then st.own.filter (λx=>!(unseen ops m i ids).contains x.1) else []:=λi=>rfl
 have H0:∀ i,S.kd i=if i<m then (ss[i]?).map .val else (obs[i-m]?).map λx=>.bst x.1 x.2:=by
  intro i;show(if 0<=i/\i<m+ids.length then ks[i-0]? else none)=_
  rw[Nat.sub_zero];by_cases h1:i<m
  .rw[if_pos (by omega),if_pos h1]
   simp only[ks];rw[List.getElem?_append_left (by simp;omega),List.getElem?_map]
  .rw[if_neg h1]
   by_cases h2:i<m+ids.length
   .rw[if_pos (by omega)]
    simp only[ks];rw[List.getElem?_append_right (by simp;omega),List.getElem?_map]
    simp[H]
   .rw[if_neg (by omega),List.getElem?_eq_none (by omega)];rfl
 have M:∀ i k,S.kd i=some k->(i<m/\∃ s,ss[i]?=some s/\k = .val s)\/(∃ j x,i=m+j/\obs[j]?=some x/\k = .bst x.1 x.2):=by
  intro i k hk;rw[H0] at hk;split at hk <;> rw[Option.map_eq_some_iff] at hk <;> obtain⟨s,e1,e2⟩:=hk
  .rename_i h1;exact .inl ⟨h1,s,e1,e2.symm⟩
  .exact .inr ⟨i-m,s,by omega,e1,e2.symm⟩
 have F:∀ {i id ob},S.kd i=some (.bst id ob)->∃ j,i=m+j/\obs[j]?=some (id,ob):=by
  intro i id ob hk;rcases M i _ hk with⟨_,s,_,e⟩ | ⟨j,x,e1,e2,e3⟩
  .cases e
  .cases e3;exact⟨j,e1,e2⟩
 have E:∀ u,¬S.U u:=by
  rintro u ⟨i,o,y,k,_,hk,_,hm⟩
  rcases M i k hk with⟨_,s,_,rfl⟩ | ⟨_,_,_,_,rfl⟩ <;> cases hm
 have C:∀ i,i<m->S.zX i=gB (unseen ops m i ids) (puts (ops.take i) (ss.take i) st):=by
  intro i hi;unfold Seg.zX;show puts ((ops.drop 0).take (i-0)) ((ks.map FK.sym).take (i-0)) {st with own:=S.own0 i}=_
  have Hi:(ks.map FK.sym).take i=ss.take i:=by
   simp only[ks,List.map_append,List.map_map];rw[show(FK.sym∘FK.val)=λs=>s from rfl,List.map_id',List.take_append_of_le_length (by omega)]
  rw[J,if_pos hi];simp only[List.drop_zero,Nat.sub_zero];rw[Hi];exact Ns _ _ _ st
 have G:∀ j,j<=ids.length->(S.zX (m+j)).slots=stE.slots:=by
  intro j hj;unfold Seg.zX;show(puts ((ops.drop 0).take (m+j-0)) ((ks.map FK.sym).take (m+j-0)) {st with own:=S.own0 (m+j)}).slots=_
  simp only[List.drop_zero,Nat.sub_zero];rw[Nu];have e1:ops.take (m+j)=ops.take m++(ops.drop m).take j:=List.take_add ..
  have e2:(ks.map FK.sym).take (m+j)=ss++((obs.map λx=>FK.bst x.1 x.2).map FK.sym).take j:=by
   simp only[ks,List.map_append,List.map_map];rw[show(FK.sym∘FK.val)=λs=>s from rfl,List.map_id',List.take_append,List.take_of_length_le (by omega),H,Nat.add_sub_cancel_left]
  rw[e1,e2,Ng (by rw[W,H]),Nv,hE]
  intro o ho;obtain⟨i,hi,e⟩:=List.mem_iff_getElem.1 ho;rw[List.length_take,List.length_drop] at hi;have Hs:i<obs.length:=by omega
  obtain⟨o',X,_,hd,_⟩:=L i obs[i] (List.getElem?_eq_getElem Hs);rw[List.getElem_take,List.getElem_drop] at e;rw[List.getElem?_eq_getElem (by omega),e] at X
  cases X;exact hd
 have Go:∀ j,j<=ids.length->∀ y,(S.zX (m+j)).val y=({stE with own:=st.own}:St).val y:=by
  intro j hj y;cases y with
  |tmp u=>simp only[St.val];rw[G j hj]
  |_=>rfl
 have cuts:∀ i,m+ids.length-1<i->i<ops.length->vX ops i=true:=by
  intro i h1 h2;have:=List.all_eq_true.1 A i (List.mem_range.2 h2)
  rw[Bool.or_eq_true,Nat.ble_eq] at this;exact this.elim (λe=>by omega) λe=>e
 refine RegI.seg (pos:=0) (hi:=m+ids.length) ks S.own0 [] (uG obs st.own) ?_ ?_ ?_ ?_
 .refine⟨N,⟨Nat.zero_le _,Y,by simp[Hc]⟩,λu _ _ hu=>absurd hu (E u),λi u o m' hc=>absurd ⟨i,o,hc⟩ (E u),?_,?_,?_⟩
  .intro a b id ob1 ob2 h1 h2
   obtain⟨j1,rfl,e1⟩:=F h1;obtain⟨j2,rfl,e2⟩:=F h2;have g1:ids[j1]?=some id:=by rw[<-q1,List.getElem?_map,e1];rfl
   have g2:ids[j2]?=some id:=by rw[<-q1,List.getElem?_map,e2];rfl
   obtain⟨l1,g1⟩:=List.getElem?_eq_some_iff.1 g1;obtain⟨l2,g2⟩:=List.getElem?_eq_some_iff.1 g2;rw[(List.getElem_inj q5).1 (g1.trans g2.symm)]
  .intro i id o ho
   have ho:zc (S.own0 i) id=some o:=ho
   rw[J] at ho;split at ho
   .obtain⟨h1,h2⟩:=D5 ho
    refine⟨h2,λm' ob' hk=>?_⟩
    obtain⟨j,rfl,e1⟩:=F hk;have g1:ids[j]?=some id:=by rw[<-q1,List.getElem?_map,e1];rfl
    rcases Nw (all:=ops) (i:=i) (m:=m) g1 with hw | hw
    .exact⟨4,hw⟩
    .exact absurd hw h1
   .simp[zc] at ho
  .intro i o k ho hk
   have ho:ops[i]?=some o:=ho
   rcases M i k hk with⟨hi,s,hs,rfl⟩ | ⟨j,x,rfl,hx,rfl⟩
   .obtain⟨s',e1,e2,e3,e4⟩:=T i o (by rw[List.getElem?_take,if_pos hi];exact ho)
    rw[hs] at e1;cases e1;refine⟨e2,λu _=>E u,?_,e4⟩
    show DStep P ops o (S.zX i) s
    rw[C i hi];rw[Nat.zero_add,List.take_take,Nat.min_eq_left (by omega)] at e3
    exact e3
   .obtain⟨o',X,hg,hd,F0,o0,B,F1⟩:=L j x hx
    rw[ho] at X;cases X;have hj:j<obs.length:=(List.getElem?_eq_some_iff.1 hx).1
    exact⟨by rw[hd];rfl,hg,hd,λu _=>E u,F0,o0,B,F1 S (m+j) (Go j (by omega))⟩
 .refine⟨λu ob' hm=>by simp at hm,by simp,Ny V,λhn id o Fd=>?_⟩
  rcases Nz V K (by rw[q1];exact q5) Fd with h1 | ⟨h1,h2⟩
  .obtain⟨j,hj,e⟩:=List.mem_iff_getElem.1 h1
   refine .inl ⟨m+j,?_⟩
   rw[H0,if_neg (by omega),Nat.add_sub_cancel_left,List.getElem?_eq_getElem hj,e];rfl
  .refine .inr ⟨Di K h1,λi ob' hk=>?_⟩
   obtain⟨j,_,e⟩:=F hk;exact h2 (List.mem_map.2 ⟨_,List.mem_of_getElem? e,rfl⟩)
 .rcases Nat.eq_or_lt_of_le Y with e | e
  .exact .inr e
  .exact .inl (cuts (m+ids.length) (by omega) e)
 .have I:Seg.fin ⟨ops,0,m+ids.length,ks,st,S.own0⟩ [] (uG obs st.own) = {st with slots:=stE.slots,own:=uG obs st.own}:=by
   unfold Seg.fin;rw[show(Seg.zX ⟨ops,0,m+ids.length,ks,st,S.own0⟩ (m+ids.length)).slots=stE.slots from G ids.length (Nat.le_refl _)];rfl
  rw[I];exact VN Y rfl (λi h1 h2=>cuts i (by omega) h2) hK
attribute [simp] Kl XX gB unseen XY uG
end
end Go.V

/- A program logic of my own over the kit: part W1. It needs no conditions. -/
import Derived.Test.YtknekjalbninmaaGreatB1
set_option linter.unusedVariables false
set_option linter.unusedSimpArgs false
set_option linter.unusedSectionVars false
namespace Go.V
variable [Dr] [Ov]
open Go.RowKit
def YE(P:Program)(all:List Oper)(m:Nat)(o:Oper):List Oper->St->(St->Prop)->Prop
 | [],st,K=>zS P o st K
 |x::r,st,K=>zY x.dst st.n=true/\qP P all x st (λs=>Sym.lo m s/\YE P all m o r (st.put x.dst s) K)
section
variable {P:Program} {X:Nat->Prop} {w0:Base} {st:St} {β:Nat->Value} {a:Act} {w w':World} {all:List Oper}
theorem IL{m:Nat}{o:Oper}:∀ {l:List Oper} {st:St} {K:St->Prop},YE P all m o l st K->∃ ss,Chain P all l ss st/\(∀ s∈ss,Sym.lo m s)/\zS P o (puts l ss st) K
 | [],st,K,h=>⟨[],rfl,by simp,h⟩
 |x::r,st,K,h=>by
  simp only[YE] at h;obtain⟨H,h⟩:=h;obtain⟨s,G,h2,F⟩:=Qn h;obtain⟨ss,q1,q2,q3⟩:=IL F;refine⟨s::ss,⟨s,ss,rfl,H,G,q1⟩,?_,q3⟩
  intro u E;rcases List.mem_cons.1 E with e | E
  .subst e;exact h2
  .exact q2 u E
theorem zfy(E:P.follows .mixedOrders=true){id:Nat}{pre:List Oper}{o:Oper}(V:yv (pre++[o])=true)(K:qC (pre++[o]) pre.length=true)(hg:o.guard=none){Q:DE->St->Prop}
  (G:(st.own.map (·.1)).Nodup) (h:YE P (pre++[o]) st.next o pre st (Q .normal)):Triple P (.region id (pre++[o]).toArray true) Q st:=by
 refine Qx E V ?_
 obtain⟨ss,Y,B,hd⟩:=IL h
 have J:=Qo Y
 have L:∀ i k,(Seg.kd ⟨pre++[o],0,pre.length,ss.map .val,st,λ_=>st.own⟩ i)=some k->∃ s,ss[i]?=some s/\k = .val s:=by
  intro i k hk;unfold Seg.kd at hk;split at hk
  .simp only[Nat.sub_zero,List.getElem?_map] at hk
   cases hs:ss[i]? with
   |none=>rw[hs] at hk;cases hk
   |some s=>rw[hs] at hk;simp at hk;exact⟨s,rfl,hk.symm⟩
  .cases hk
 have H:∀ t,¬(Seg.U ⟨pre++[o],0,pre.length,ss.map .val,st,λ_=>st.own⟩ t):=by
  rintro t ⟨i,ob,y,k,_,hk,_,hm⟩
  obtain⟨s,_,rfl⟩:=L i k hk;cases hm
 have M:∀ i id ob,Seg.kd ⟨pre++[o],0,pre.length,ss.map .val,st,λ_=>st.own⟩ i≠some (.bst id ob):=by
  intro i id ob hk;obtain⟨s,_,e⟩:=L i _ hk;cases e
 have F:∀ i,Seg.zJ ⟨pre++[o],0,pre.length,ss.map .val,st,λ_=>st.own⟩ i=puts ((pre++[o]).take i) (ss.take i) st:=by
  intro i;unfold Seg.zJ;have C:(ss.map FK.val).map FK.sym=ss:=by
   rw[List.map_map];have:(FK.sym∘FK.val)=λs=>s:=rfl
   rw[this,List.map_id']
  simp only[List.drop_zero,Nat.sub_zero];rw[C]
 have Z:∀ i,i<=pre.length->(pre++[o]).take i=pre.take i:=λi hi=>by rw[List.take_append_of_le_length hi]
 refine RegI.seg (pos:=0) (hi:=pre.length) (ss.map .val) (λ_=>st.own) [] st.own ?_ ?_ (.inl K) ?_
 .refine⟨V,⟨Nat.zero_le _,by simp,by simp[J]⟩,λt _ _ h=>absurd h (H t),λi t ob m h=>absurd ⟨i,ob,h⟩ (H t),λi j id ob ob' h=>absurd h (M i id ob),λ_ id ob h=>⟨h,λi ob hk=>absurd hk (M i id ob)⟩,?_⟩
  intro i y k hy hk;obtain⟨s,hs,rfl⟩:=L i k hk;have hi:i<pre.length:=by
   have:=(List.getElem?_eq_some_iff.1 hs).1
   omega
  have I:pre[i]?=some y:=by
   have:(pre++[o])[i]?=pre[i]?:=List.getElem?_append_left hi
   rw[<-this];exact hy
  obtain⟨s',A,S,W⟩:=Ji Y I;rw[hs] at A;cases A;refine⟨S,λt _=>H t,?_,B s (List.mem_of_getElem? hs)⟩
  show DStep P (pre++[o]) y (Seg.zJ ⟨pre++[o],0,pre.length,ss.map .val,st,λ_=>st.own⟩ i) s
  rw[F,Z i (by omega)]
  exact W
 .refine⟨λt ob h=>by simp at h,by simp,rfl,λ_ id ob h=>.inr ⟨?_,λi ob=>M i id ob⟩⟩
  have O:∀ {l:List (Nat×Obj')},(l.map (·.1)).Nodup->(id,ob)∈l->za l id=some ob:=by
   intro l;induction l with
   |nil=>intro _ h;cases h
   |cons x r ih=>
    intro hn h;obtain⟨k,u⟩:=x;simp only[List.map_cons,List.nodup_cons] at hn;simp only[za];rcases List.mem_cons.1 h with e | h
    .cases e;simp
    .have H0:k≠id:=by intro e;subst e;exact hn.1 (List.mem_map.2 ⟨_,h,rfl⟩)
     rw[if_neg H0];exact ih hn.2 h
  exact O G h
 .have T:Seg.fin ⟨pre++[o],0,pre.length,ss.map .val,st,λ_=>st.own⟩ [] st.own=puts pre ss st:=by
   unfold Seg.fin;simp only[F,Z pre.length (Nat.le_refl _),List.take_length];have H1:ss.take pre.length=ss:=by rw[List.take_of_length_le (by omega)]
   obtain⟨p1,p2,p3,p4,p5⟩:=ZA pre ss st;rw[H1];simp only[List.length_nil,Nat.add_zero,vG,vk,List.nil_append];cases hp:puts pre ss st with
   |mk n next slots own base moved=>
    rw[hp] at p1 p2 p3 p4 p5;simp only at p1 p2 p3 p4 p5
    subst p1;subst p2;subst p3;subst p4;subst p5;rfl
  rw[T];refine RegI.tot (Q .normal) (by simp) (.inr (by simp)) ?_ ?_
  .intro X w0 β a w hm N Q' hN
   unfold wpOp;have:(pre++[o]).toArray[pre.length]?=some o:=by simp
   rw[this];simp only[Region.wanted,hg,if_true];exact .inl (jv hm hd N _ λa' w' st' β' hk H2=>hN a' w' st' β' hk H2)
  .intro st' hK
   have:pre.length+1=(pre++[o]).length:=by simp
   rw[this];exact .done hK
end
attribute [simp] YE
end Go.V
namespace Go.V
def Jv(l:List (Nat×Sym)):Bool:=l.all λx=>Nat.blt (x.1+1) 4096
end Go.V
namespace Go.V
variable [Dr] [Ov]
open Go.RowKit
def Jw:List (Nat×Sym)->Tr
 | []=>.leaf
 |(t,s)::r=>(Jw r).put dep t s
def xsOf(st:St):XS:=⟨st.n,st.next,Jw st.slots,st.own,st.base,st.moved⟩
theorem IM:∀ {l:List (Nat×Sym)} {u:Nat},Jv l=true->Tr.get dep (Jw l) u=za l u
 | [],u,h=>Tr.ZJ dep u
 |(t,s)::r,u,h=>by
  simp only[Jv,List.all_cons,Bool.and_eq_true] at h;have H:t+1<4096:=by simpa using h.1
  simp only[Jw,za];rw[Tr.get_put dep _ t s u (by simpa[dep] using H),IM (l:=r) h.2]
theorem zju{st:St}(h:Jv st.slots=true):Ag st (xsOf st) where
 n:=rfl
 next:=rfl
 own:=rfl
 base:=rfl
 moved:=λ_ _ h=>h
 slots:=λt=>(IM h).symm
section
variable {P:Program} {Γ:XG} {call:Caller}
end
end Go.V
namespace Go.V
variable [Dr] [Ov]
open Go.RowKit
def ku(S:St)(Q:DE->St->Prop):DE->St->Prop
 |.normal,st=>Weak st S
 |e,st=>Q e st
def x8:Nat->Code->Code
 |0,_=>.skip
 |n+1,.seq a b=>.seq a (x8 n b)
 |_+1,c=>c
def Qy:Nat->Code->Bool
 |0,_=>true
 |n+1,.seq _ b=>Qy n b
 |_+1,_=>false
def xB:Nat->Code->Code
 |0,c=>c
 |n+1,.seq _ b=>xB n b
 |_+1,_=>.skip
section
variable {P:Program} {st:St} {Q:DE->St->Prop}
theorem Qz{id:Nat}{c:Code}(h:Triple P c (vD id Q) st):Triple P (.block id c) Q st:=by
 intro X w0 β a w G
 refine wp_block (wp_mono (h X w0 β a w G) ?_)
 rintro e a' w' ⟨de,st',β',F,E,H⟩
 cases e <;> cases de <;> simp only[zU] at F
 .exact⟨.normal,st',β',trivial,E,H⟩
 .subst F
  simp only[vD] at E;simp only[Exit.inBlock];split
  .rename_i e;rw[if_pos e] at E;exact⟨.normal,st',β',trivial,E,H⟩
  .rename_i e;rw[if_neg e] at E;exact⟨.exit _,st',β',rfl,E,H⟩
 .exact⟨.ret,st',β',trivial,E,H⟩
theorem US{x y:Code}(h:Triple P x (Qs P y Q) st)(H:P.follows .mixedOrders=true):Triple P (.seq x y) Q st:=by
 intro X w0 β a w F
 refine wp_seq (wp_mono (h X w0 β a w F) ?_)
 rintro e a' w' ⟨de,st',β',E,K,G⟩
 cases e <;> cases de <;> simp only[zU] at E
 .exact ya H K X w0 β' a' w' G
 .subst E;exact⟨.exit _,st',β',rfl,K,G⟩
 .exact⟨.ret,st',β',trivial,K,G⟩
theorem UT{x y:Code}(S:St)(h:Triple P x (ku S Q) st)(h2:Triple P y Q S):Triple P (.seq x y) Q st:=by
 intro X w0 β a w G
 refine wp_seq (wp_mono (h X w0 β a w G) ?_)
 rintro e a' w' ⟨de,st',β',F,E,H⟩
 cases e <;> cases de <;> simp only[zU] at F
 .exact h2 X w0 β' a' w' (H.weak E)
 .subst F;exact⟨.exit _,st',β',rfl,E,H⟩
 .exact⟨.ret,st',β',trivial,E,H⟩
theorem ky(H:P.follows .mixedOrders=true)(n:Nat){c:Code}(S:St)(hs:Qy n c=true):∀ {st:St},ev P (x8 n c) (ku S Q) st->Triple P (xB n c) Q S->Triple P c Q st:=by
 induction n generalizing c with
 |zero=>
  intro st h h2 X w0 β a w F;exact h2 X w0 β a w (F.weak h)
 |succ n ih=>
  intro st h h2;cases c <;> simp only[x8,xB,Qy,reduceCtorEq] at h h2 hs
  case seq x y=>
   intro X w0 β a w F;simp only[ev] at h;refine wp_seq (wp_mono (ya H h X w0 β a w F) ?_)
   rintro e a' w' ⟨de,st',β',E,K,G⟩
   cases e <;> cases de <;> simp only[zU] at E
   .exact ih hs K h2 X w0 β' a' w' G
   .subst E;exact⟨.exit _,st',β',rfl,K,G⟩
   .exact⟨.ret,st',β',trivial,K,G⟩
def UU(S:St)(p:Prop)(Q:DE->St->Prop):DE->St->Prop
 |.normal,st=>p/\Weak st S
 |e,st=>Q e st
theorem zcv{S:St}{p:Prop}:UU S p Q .normal st=(p/\Weak st S):=rfl
theorem zfz{S:St}{p:Prop}(i:Nat):UU S p Q (.exit i) st=Q (.exit i) st:=rfl
theorem zha{S:St}{p:Prop}:UU S p Q .ret st=Q .ret st:=rfl
theorem zbf{f:Nat}{fn:Func}{c:Code}(F:P.funcs[f]?=some fn)(K:fn.body=some c)(G:callable P f=true){args:List D}{r:D}
  (h:Triple P c (kp (ko P fn.results.toList r)) (vE fn.ntmps args)):zj P f args r:=by
 refine⟨G,λw E vs J L=>?_⟩
 refine calls_of_wp F K ?_
 refine wp_mono (h E (.of w) _ _ w (Mods.init J L)) ?_
 rintro e a' w' ⟨de,st',β',M,O,H⟩
 cases e <;> cases de <;> simp only[zU] at M
 .obtain⟨v,Q,h2⟩:=wu H O
  exact⟨H.defers,v,Q,v,rfl,H.below.below,h2⟩
 .exact O.elim
 .obtain⟨v,Q,h2⟩:=wu H O
  exact⟨H.defers,v,Q,v,rfl,H.below.below,h2⟩
theorem wrap64{n:Int}(h : -9223372036854775808<=n/\n<=9223372036854775807):IntKind.i64.wrap n=n:=IntWalk.i64_in n (by omega)
theorem x9(J:P.follows .mixedOrders=true){α:Type}{c:Code}{Q:DE->St->Prop}(S:α->St)(inv:α->Prop)(μ:α->Nat)(x0:α)(Y:inv x0)(Z:Weak st (S x0))
  (A:∀ x,inv x->Triple P c (afterLoop S inv μ x Q) (S x)):Triple P (.loop c) Q st:=by
 intro X w0 β a w B
 let I:Nat->Act->World->Prop:=λn a w=>∃ x β,inv x/\μ x=n/\Mods X w0 (S x) β a w
 have key:∀ a w,(∃ n,I n a w)->∃ n,I n a w/\∀ m,I m a w->n<=m:=by
  intro a w ⟨n,C⟩;induction n using Nat.strongRecOn with
  |_ n ih=>
   by_cases h:∃ m,m<n/\I m a w
   .obtain⟨m,N,h2⟩:=h;exact ih m N h2
   .exact⟨n,C,λm B=>by rcases Nat.lt_or_ge m n with W | W;exact absurd ⟨m,W,B⟩ h;exact W⟩
 classical
 let M:Act->World->Nat:=λa w=>if h:∃ n,I n a w then Classical.choose (key a w h) else 0
 refine wp_loop (λa w=>∃ n,I n a w) M ⟨_,x0,β,Y,rfl,B.weak Z⟩ ?_
 intro a w hI
 have G:=Classical.choose_spec (key a w hI)
 have hM:M a w=Classical.choose (key a w hI):=dif_pos hI
 rw[<-hM] at G
 obtain⟨⟨x,β',hx,hμ,L⟩,O⟩:=G
 refine wp_mono (A x hx X w0 β' a w L) ?_
 rintro e a' w' ⟨de,st',β'',he,hq,H⟩
 cases e <;> cases de <;> simp only[zU] at he
 .obtain⟨y,hy,V,E⟩:=hq
  have F:∃ n,I n a' w':=⟨μ y,y,β'',hy,rfl,H.weak E⟩
  refine⟨F,?_⟩
  have K:=Classical.choose_spec (key a' w' F);have T:M a' w'=Classical.choose (key a' w' F):=dif_pos F
  rw[<-T] at K;have:=K.2 (μ y) ⟨y,β'',hy,rfl,H.weak E⟩
  omega
 .subst he;exact⟨.exit _,st',β'',rfl,hq,H⟩
 .exact⟨.ret,st',β'',trivial,hq,H⟩
theorem zcw{S:St}:ku S Q .normal st=Weak st S:=rfl
theorem zf0{S:St}(i:Nat):ku S Q (.exit i) st=Q (.exit i) st:=rfl
theorem zhb{S:St}:ku S Q .ret st=Q .ret st:=rfl
end
attribute [simp] zcv zfz zha
attribute [simp] zcw zf0 zhb x8 xB
end Go.V
namespace Go.V
variable [Dr] [Ov]
open Go.RowKit
def IN(P:Program)(all:List Oper)(m:Nat):List Oper->St->(St->Prop)->Prop
 | [],st,K=>K st
 |x::r,st,K=>zY x.dst st.n=true/\qP P all x st (λs=>Sym.lo m s/\IN P all m r (st.put x.dst s) K)
section
variable {P:Program} {st:St} {all:List Oper}
theorem IP:∀ {l l':List Oper} {ss ss':List Sym} {st:St},ss.length=l.length->puts (l++l') (ss++ss') st=puts l' ss' (puts l ss st)
 | [],l',[],ss',st,_=>rfl
 |o::r,l',s::ss,ss',st,h=>by
  simp only[List.cons_append,puts];exact IP (by simpa using h)
theorem IQ{f:Operand}{xs:List Operand}{dst:Option Tmp}{K:St->Prop}{g:Nat}{ds:List D}{lent:Bool}{r:D}(H:jN (st.zH (ve (xs.map st.val))) f xs=some (g,ds,lent))(G:zj P g ds r)
  (hs:lent=true->r.scalar=true) (F:K ((st.zH (ve (xs.map st.val))).put dst (.d r))):zC P st f xs dst K:=by
 refine zC.frozen ?_
 unfold km;rw[H];exact .inl ⟨r,G,λe=>.inl (hs e),F⟩
end
attribute [simp] IN
end Go.V
namespace Go.V
variable [Dr] [Ov]
open Go.RowKit
def IR:Op->Bool
 |.box _ _ |.alloc _ |.makeMap _ none |.buildSlice _ _ _ |.assign (.const (.slice none 0 0))=>true
 |_=>false
def QA(P:Program)(n0:Nat)(ρ:Operand->Sym)(ty:Nat)(K:Obj'->Prop):Op->Prop
 |.box T x=>match yP (ρ x) with
  |some l=>Sym.los n0 l/\K (.box T l)
  |none=>False
 |.alloc T=>match TI.of P T with
  |some ti=>ti.zero.all (·.oneCell')=true/\K (.box T (ti.zero.map ofConst))
  |none=>False
 |.makeMap t none=>K (.map t [])
 |.assign (.const (.slice none 0 0))=>match TI.of P ty with
  |some ⟨.slice e,_,_,_,_⟩=>match TI.of P e with
   |some te=>K (.arr e te.size [])
   |none=>False
  |_=>False
 |.buildSlice t n parts=>match TI.of P t with
  |some ⟨.slice e,_,_,_,_⟩=>match TI.of P e with
   |some te=>match inOrder 0 parts.toList with
    |some l=>match ve (l.map ρ),rowsOf te.size (l.map ρ) with
     | [],some rows=>l.length=n/\0<te.size/\n*te.size<=16777216/\K (.arr e te.size rows)
     |_,_=>False
    |none=>False
   |none=>False
  |_=>False
 |_=>False
def Jx(hs:List (Nat×Obj'))(ρ:Operand->Sym)(x:Operand):Option (Option Nat×List (List D)):=
 match x with
 |.tmp k=>match za hs k with
  |some (.arr _ _ rows)=>some (some k,rows)
  |some _=>none
  |none=>match ρ (.tmp k) with
   |.d (.sl l)=>some (none,l)
   |.nils=>some (none,[])
   |_=>none
 |x=>match ρ x with
  |.d (.sl l)=>some (none,l)
  |.nils=>some (none,[])
  |_=>none
def UV(src:Option Nat)(hs:List (Nat×Obj')):List (Nat×Obj'):=match src with
 |some k=>hdrop k hs
 |none=>hs
def Jy(P:Program)(hs:List (Nat×Obj'))(ρ:Operand->Sym)(j:Nat)(x:Operand)(t t' d:Nat)(K:FK->List (Nat×Obj')->Prop):Prop:=
 match za hs j,TI.of P t with
 |some (.arr T sz rows),some ⟨.slice e,_,_,_,_⟩=>match TI.of P e,Jx hs ρ x with
  |some te,some (src,l)=>(t'=t/\0<te.size/\te.zero.length=te.size/\te.zero.all (·.oneCell')=true/\T=e/\sz=te.size/\(∀ r∈l,r.length=te.size)/\(rows.length+l.length)*te.bytes<=140737488355328 /\
    rows.length+l.length<=maxLen/\src≠some j)/\K (.app j src (.arr e te.size (rows++l))) ((d,.arr e te.size (rows++l))::hdrop j (UV src hs))
  |_,_=>False
 |_,_=>False
def Jz(P:Program)(n0:Nat)(hs:List (Nat×Obj'))(ρ:Operand->Sym)(t j:Nat)(x:Operand)(K:FK->List (Nat×Obj')->Prop):Prop:=
 match TI.of P t,yP (ρ x),za hs j with
 |some ti,some l,some (.box T cells)=>(l.length=ti.size/\Sym.los n0 l/\l.length<=cells.length)/\K (.qc j (.box T (splice cells 0 l))) ((j,.box T (splice cells 0 l))::hdrop j hs)
 |_,_,_=>False
def JA(P:Program)(all:List Oper)(n0:Nat)(o:Oper)(st:St)(hs:List (Nat×Obj'))(K:FK->List (Nat×Obj')->Prop):Prop:=
 qP P all o st (λs=>Sym.lo n0 s/\K (.val s) hs)
def JB(P:Program)(all:List Oper)(n0:Nat)(vl:List Nat)(o:Oper)(st:St)(hs:List (Nat×Obj'))(K:FK->List (Nat×Obj')->Prop):Prop:=
 match o.op,o.guard,o.dst with
 |.call {callee:=.builtin .append,args:=xs,argTypes:=ts},none,some d=>match xs.toList,ts.toList with
  | [.tmp j,x],[t,t']=>Jy P hs st.val j x t t' d K
  |_,_=>False
 |.store t (.tmp j) x,none,none=>Jz P n0 hs st.val t j x K
 |op,none,some d=>if IR op=true/\vl.contains d=false then QA P n0 st.val o.type (λob=>K (.mk ob) ((d,ob)::hs)) op else JA P all n0 o st hs K
 |_,_,_=>JA P all n0 o st hs K
def QB(P:Program)(all:List Oper)(n0:Nat)(vl:List Nat)(K:St->List FK->List (Nat×Obj')->Prop):List Oper->St->List FK->List (Nat×Obj')->Prop
 | [],st,ks,hs=>K st ks hs
 |o::r,st,ks,hs=>qS o.dst st.n=true/\JB P all n0 vl o st hs (λk hs'=>QB P all n0 vl K r (st.put o.dst k.sym) (k::ks) hs')
def IT(P:Program)(K:St->Prop):List Oper->St->Prop
 | [],st=>K st
 | [o],st=>o.guard=none/\zS P o st K
 |_,_=>False
def IU(all seg:List Oper)(ks:List FK):Bool:=YR all seg ks 0 seg ks&&nodupB (jy ks)
section
variable {P:Program} {all:List Oper} {lo:Nat} {st0:St} {F F':XF} {i:Nat} {o:Oper}
theorem zf1{n n0:Nat}{ρ:Operand->Sym}{o:Oper}{K:Obj'->Prop}(E:zY o.dst n=true)(h:QA P n0 ρ o.type K o.op):
  ∃ ob,K ob/\ob.lo n0/\∀ (st:St) (K:St->Prop),kE n ρ o st->K ((st.new ob).put o.dst (ref ob st.next))->zS P o st K:=by
 unfold QA at h
 split at h
 .rename_i T x J
  split at h
  .rename_i l L
   refine⟨_,h.2,h.1,λst K M O=>?_⟩
   have Q:=M.2 x (by rw[J];simp[Op.operands]) (by intro e;rw[e] at L;simp[yP] at L)
   unfold zS;rw[J];simp only;refine⟨by rw[M.1];exact E,?_⟩
   unfold Zn;rw[Q,L];exact O
  .exact h.elim
 .rename_i T J
  split at h
  .rename_i ti ht
   refine⟨_,h.2,Fo _ _,λst K M O=>?_⟩
   unfold zS;rw[J];simp only;rw[ht];exact⟨by rw[M.1];exact E,h.1,O⟩
  .exact h.elim
 .rename_i t J
  refine⟨_,h,trivial,λst K M O=>?_⟩
  unfold zS;rw[J];simp only;exact⟨by rw[M.1];exact E,O⟩
 .rename_i J
  split at h
  .rename_i e _ _ _ _ ht
   split at h
   .rename_i te hte
    refine⟨_,h,trivial,λst K M O=>?_⟩
    unfold zS;rw[J];simp only;rw[ht];simp only;rw[hte];exact⟨by rw[M.1];exact E,O⟩
   .exact h.elim
  .exact h.elim
 .rename_i t m parts J
  split at h
  .rename_i e _ _ _ _ ht
   split at h
   .rename_i te hte
    split at h
    .rename_i l L
     split at h
     .rename_i rows F H
      obtain⟨V,h2,X,Y⟩:=h;refine⟨_,Y,trivial,λst K M O=>?_⟩
      have G:l.map st.val=l.map ρ:=by
       refine List.map_congr_left λx Z=>M.2 x ?_ (Fp H x Z)
       obtain⟨i,hi⟩:=Fq L x Z;rw[J];simp only[Op.operands];simp;exact⟨i,by simpa using hi⟩
      unfold zS;rw[J];simp only;refine⟨by rw[M.1];exact E,?_⟩
      unfold Zu;rw[ht];simp only;rw[hte];simp only;rw[L];simp only;rw[G,F];refine⟨V,h2,X,?_⟩
      simp only[St.zH];rw[G,H];exact O
     .exact h.elim
    .exact h.elim
   .exact h.elim
  .exact h.elim
 .exact h.elim
theorem zf2{hs:List (Nat×Obj')}{ρ:Operand->Sym}{x:Operand}{src:Option Nat}{l:List (List D)}(h:Jx hs ρ x=some (src,l)):
  (∃ k T sz,x = .tmp k/\src=some k/\za hs k=some (.arr T sz l))\/(src=none/\(ρ x = .d (.sl l)\/(ρ x = .nils/\l=[]))):=by
 unfold Jx at h
 split at h
 .rename_i k
  split at h
  .rename_i T sz rows H;cases h;exact .inl ⟨k,T,sz,rfl,rfl,H⟩
  .cases h
  .split at h
   .rename_i l' G;cases h;exact .inr ⟨rfl,.inl G⟩
   .rename_i G;cases h;exact .inr ⟨rfl,.inr ⟨G,rfl⟩⟩
   .cases h
 .split at h
  .rename_i l' G;cases h;exact .inr ⟨rfl,.inl G⟩
  .rename_i G;cases h;exact .inr ⟨rfl,.inr ⟨G,rfl⟩⟩
  .cases h
theorem zd6{n n0:Nat}{hs:List (Nat×Obj')}{ρ:Operand->Sym}{o:Oper}{j t t' d:Nat}{x:Operand}{K:FK->List (Nat×Obj')->Prop}(O:zY o.dst n=true)(Q:o.op = .call {callee:=.builtin .append,args:=#[.tmp j,x],argTypes:=#[t,t']})
  (h:Jy P hs ρ j x t t' d K):∃ src ob oj ok,K (.app j src ob) ((d,ob)::hdrop j (UV src hs))/\qB ob/\ob.lo n0/\za hs j=some oj/\qB oj /\
   (∀ k,src=some k->x = .tmp k/\k≠j/\za hs k=some ok/\qB ok) /\
   ∀ (st:St) (K:St->Prop) (id:Nat),kE n ρ o st->st.val (.tmp j) = .ar id->st.look id=some oj->(∀ k,src=some k->∃ id',id'≠id/\st.val (.tmp k) = .ar id'/\st.look id'=some ok) ->
    K ((st.renew id ob).put o.dst (.ar id))->zS P o st K:=by
 unfold Jy at h
 split at h
 .rename_i T sz rows e _ _ _ _ V ht
  split at h
  .rename_i te src l E F
   obtain⟨⟨X,h2,Y,J,Z,A,B,C,I,N⟩,h⟩:=h;have key:∀ (st:St) (K:St->Prop) (id:Nat),kE n ρ o st->st.val (.tmp j) = .ar id->st.look id=some (.arr T sz rows)->qA st id (st.val x)=some l->K ((st.renew id (.arr e te.size (rows++l))).put o.dst (.ar id))->zS P o st K:=by
    intro st K id S W hl hs hK;unfold zS;rw[Q];simp only;refine⟨by rw[S.1];exact O,?_⟩
    refine .inl ?_
    unfold Zv;rw[ht];simp only;rw[E];simp only;refine⟨X,h2,Y,J,?_⟩
    rw[W];simp only;rw[hl,hs];simp only;exact⟨Z,A,B,C,I,hK⟩
   rcases zf2 F with⟨k,T',sz',rfl,rfl,S⟩ | ⟨rfl,W⟩
   .have L:k≠j:=λe=>N (by rw[e])
    refine⟨some k,_,.arr T sz rows,.arr T' sz' l,h,trivial,trivial,V,trivial,λk' e=>by cases e;exact⟨rfl,L,S,trivial⟩,λst K id H W hl hs hK=>?_⟩
    obtain⟨id',g1,g2,g3⟩:=hs k rfl;refine key st K id H W hl ?_ hK
    rw[g2];simp only[qA];rw[if_neg g1,g3]
   .refine⟨none,_,.arr T sz rows,.arr T sz rows,h,trivial,trivial,V,trivial,λk' e=>(by cases e),λst K id H M hl hs hK=>?_⟩
    refine key st K id H M hl ?_ hK
    have G:x∈o.op.operands:=by rw[Q];simp[Op.operands,Call.operands]
    rcases W with W | ⟨W,rfl⟩
    .rw[H.2 x G (by rw[W];simp),W];rfl
    .rw[H.2 x G (by rw[W];simp),W];rfl
  .exact h.elim
 .exact h.elim
theorem zd7{n n0:Nat}{hs:List (Nat×Obj')}{ρ:Operand->Sym}{o:Oper}{j t:Nat}{x:Operand}{K:FK->List (Nat×Obj')->Prop}(H:∀ k ob,za hs k=some ob->ob.lo n0)(J:o.op = .store t (.tmp j) x)(L:o.dst=none)
  (h:Jz P n0 hs ρ t j x K) :
  ∃ ob oj,K (.qc j ob) ((j,ob)::hdrop j hs)/\vF ob/\ob.lo n0/\za hs j=some oj/\vF oj /\
   ∀ (st:St) (K:St->Prop) (id:Nat),kE n ρ o st->st.val (.tmp j) = .bp id 0->st.look id=some oj->K {st with own:=zD id ob st.own}->zS P o st K:=by
 unfold Jz at h
 split at h
 .rename_i ti l T cells M O Q
  obtain⟨⟨V,h2,X⟩,h⟩:=h;have G:ρ x≠.junk:=by intro e;rw[e] at O;simp[yP] at O
  have F:x∈o.op.operands:=by rw[J];simp[Op.operands]
  refine⟨_,.box T cells,h,trivial,Ft (H j _ Q) h2,Q,trivial,λst K id Y Z E A=>?_⟩
  unfold zS;rw[J];simp only;rw[L,M];simp only;unfold kh;rw[Z];simp only;rw[E];simp only;rw[Y.2 x F G,O];exact⟨V,by omega,A⟩
 .exact h.elim
theorem zf3(L:yv all=true){vl:List Nat}{own0:List (Nat×Obj')}{stF:St}(hI:FInv P all lo st0 own0 [] F i)(ho:all[i]?=some o)(V:Seg.zJ ⟨all,lo,i,F.rks.reverse,st0,λ_=>own0⟩ i=stF)(hd:qS o.dst st0.n=true){K:FK->List (Nat×Obj')->Prop}
  (h:JB P all st0.next vl o stF F.hs K):∃ k J,K k J/\FInv P all lo st0 own0 [] (F.push k o.dst J F.ow) (i+1):=by
 have C:zY o.dst st0.n=true:=by
  have:=(wE hd).1
  unfold zY;split
  .rename_i t ht;simpa using this t ht
  .rfl
 have M:stF.val=F.xt.val:=by rw[<-V];exact hI.ag.val
 have O:=λk=>hI.ext (k:=k)
 have hv:JA P all st0.next o stF F.hs K->∃ k J,K k J/\FInv P all lo st0 own0 [] (F.push k o.dst J F.ow) (i+1):=by
  intro h;obtain⟨s,h1,h2,h3⟩:=Qn h;refine⟨.val s,F.hs,h3,hI.push L ho hd rfl ?_ (λt2 ob2 hm=>.inl ⟨hm,rfl⟩) hI.hsn (.inl ⟨rfl,λ_ _ e=>by cases e⟩)⟩
  refine⟨?_,h2⟩
  rw[List.reverse_cons,QU (by simpa using hI.len.1) hI.len.2.1 (Nat.le_refl _),V]
  exact h1
 have I:∀ d,o.guard=none->o.dst=some d->QA P st0.next stF.val o.type (λob=>K (.mk ob) ((d,ob)::F.hs)) o.op->∃ k J,K k J/\FInv P all lo st0 own0 [] (F.push k o.dst J F.ow) (i+1):=by
  intro d Q H h;obtain⟨ob,hK,X,G⟩:=zf1 (n:=st0.n) C h;refine⟨.mk ob,_,hK,hI.push L ho hd rfl ?_ ?_ ?_ (.inl ⟨rfl,λ_ _ e=>by cases e⟩)⟩
  .exact⟨Q,⟨d,H⟩,X,λst K hk=>G st K (by rw[M];exact hI.knows hk)⟩
  .intro t2 ob2 hm
   rcases List.mem_cons.1 hm with e | hm
   .cases e;exact .inr (.inl ⟨rfl,H⟩)
   .exact .inl ⟨hm,rfl⟩
  .simp only[List.map_cons,List.nodup_cons]
   exact⟨hI.fresh' L ho H λx hx=>hx,hI.hsn⟩
 unfold JB at h
 split at h
 .rename_i xs' ts d T Q H
  split at h
  .rename_i j x t t' hx ht
   have e1:xs' = #[.tmp j,x]:=by cases xs';simp at hx;rw[hx]
   have e2:ts = #[t,t']:=by cases ts;simp at ht;rw[ht]
   subst e1;subst e2;obtain⟨src,ob,oj,ok,hK,N,X,hj,B,E,G⟩:=zd6 (n0:=st0.next) C T h;have Z:=yp hj;have Y:∀ x,Operand.tmp x∈o.op.operands->x∈tmpsOf all o:=λx hx=>gv hx
   refine⟨_,_,hK,hI.push L ho hd rfl ?_ ?_ ?_ (.inl ⟨rfl,λ_ _ e=>by cases e⟩)⟩
   .refine⟨Q,⟨d,H⟩,Y j (by rw[T];simp[Op.operands,Call.operands]),λk hk=>⟨(E k hk).2.1,Y k (by rw[T,(E k hk).1];simp[Op.operands,Call.operands])⟩,X,N,
     oj,ok,(O _).held (hI.hs j oj Z).1.held,B,λk hk=>⟨(O _).held (hI.hs k ok (yp (E k hk).2.2.1)).1.held,(E k hk).2.2.2⟩,λst K id hk=>G st K id (by rw[M];exact hI.knows hk)⟩
   .intro t2 ob2 hm
    rcases List.mem_cons.1 hm with e | hm
    .cases e;exact .inr (.inl ⟨rfl,H⟩)
    .obtain⟨h1,h2⟩:=vZ hm
     left
     have A:Nat.beq j t2=false:=by cases hb:Nat.beq j t2 with | false=>rfl | true=>exact absurd (beq_iff.1 hb).symm h2
     cases src with
     |none=>exact⟨h1,by simp[takes,A]⟩
     |some k=>
      obtain⟨h3,h4⟩:=vZ h1;have S:Nat.beq k t2=false:=by cases hb:Nat.beq k t2 with | false=>rfl | true=>exact absurd (beq_iff.1 hb).symm h4
      exact⟨h3,by simp[takes,A,S]⟩
   .simp only[List.map_cons,List.nodup_cons]
    cases src with
    |none=>exact⟨hI.fresh' L ho H λx hx=>(vZ hx).1,gW hI.hsn⟩
    |some k=>exact⟨hI.fresh' L ho H λx hx=>(vZ (vZ hx).1).1,gW (gW hI.hsn)⟩
  .exact h.elim
 .rename_i t j x T Q H
  have W:∀ k ob,za F.hs k=some ob->ob.lo st0.next:=λk ob hk=>(hI.hs k ob (yp hk)).2.2
  have H0:j∈tmpsOf all o:=gv (by rw[T];simp[Op.operands])
  obtain⟨ob,oj,hK,hb,X,hj,H1,G⟩:=zd7 (n:=st0.n) W T H h;have Z:=yp hj;refine⟨_,_,hK,hI.push L ho hd rfl ?_ ?_ ?_ (.inl ⟨rfl,λ_ _ e=>by cases e⟩)⟩
  .exact⟨Q,H,H0,X,hb,oj,(O _).held (hI.hs j oj Z).1.held,H1,λst K id hk=>G st K id (by rw[M];exact hI.knows hk)⟩
  .intro t2 ob2 hm
   rcases List.mem_cons.1 hm with e | hm
   .cases e;exact .inr (.inr ⟨rfl,oj,Z⟩)
   .obtain⟨h1,h2⟩:=vZ hm
    have A:Nat.beq j t2=false:=by cases hb:Nat.beq j t2 with | false=>rfl | true=>exact absurd (beq_iff.1 hb).symm h2
    exact .inl ⟨h1,by simp[takes,A]⟩
  .simp only[List.map_cons,List.nodup_cons]
   refine⟨λhm=>?_,gW hI.hsn⟩
   obtain⟨⟨t2,ob2⟩,h1,h2⟩:=List.mem_map.1 hm;exact(vZ h1).2 h2
 .rename_i Q H _
  split at h
  .exact I _ Q H h
  .exact hv h
 .exact hv h
theorem IV(J:yv all=true){vl:List Nat}{own0:List (Nat×Obj')}{K:St->List FK->List (Nat×Obj')->Prop}:∀ {l:List Oper} {i:Nat} {F:XF} {stF:St},(all.drop i).take l.length=l->stF.n=st0.n->FInv P all lo st0 own0 [] F i ->
  Seg.zJ ⟨all,lo,i,F.rks.reverse,st0,λ_=>own0⟩ i=stF->QB P all st0.next vl K l stF F.rks F.hs->∃ F':XF,∃ st':St,FInv P all lo st0 own0 [] F' (i+l.length)/\Seg.zJ ⟨all,lo,i+l.length,F'.rks.reverse,st0,λ_=>own0⟩ (i+l.length)=st'/\F'.ow=F.ow/\K st' F'.rks F'.hs
 | [],i,F,stF,Q,T,V,H,h=>⟨F,stF,V,H,rfl,h⟩
 |o::r,i,F,stF,Q,T,V,H,h=>by
  simp only[QB] at h;obtain⟨X,h⟩:=h;rw[T] at X;have Y:all[i]?=some o:=by
   have:=congrArg (λl:List Oper=>l[0]?) Q
   simpa using this
  obtain⟨k,L,Z,M⟩:=zf3 J V Y H X h;have A:(all.drop (i+1)).take r.length=r:=by
   have:=congrArg List.tail Q
   rw[List.tail_cons] at this;rw[<-this];have X:all.drop i=o::all.drop (i+1):=by
    obtain⟨O,B⟩:=List.getElem?_eq_some_iff.1 Y;rw[List.drop_eq_getElem_cons O,B]
   rw[X];simp
  have E:∀ (s:Sym),(stF.put o.dst s).n=stF.n:=by intro s;unfold St.put;split <;> rfl
  have G:Seg.zJ ⟨all,lo,i+1,(F.push k o.dst L F.ow).rks.reverse,st0,λ_=>own0⟩ (i+1)=stF.put o.dst k.sym:=by
   simp only[XF.push,List.reverse_cons];rw[NK (by simpa using V.len.1) V.len.2.1 Y,H]
  obtain⟨F',st',q1,q2,q3,q4⟩:=IV J A ((E _).trans T) M G Z;have e:i+1+r.length=i+(o::r).length:=by simp;omega
  rw[e] at q1 q2;exact⟨F',st',q1,q2,q3,q4⟩
theorem QC(L:P.follows .mixedOrders=true)(m:Nat)(vl:List Nat){id:Nat}{ops:List Oper}{st:St}{Q:DE->St->Prop}(M:yv ops=true)(hm:Nat.ble m ops.length=true)(E:(Nat.beq m ops.length || qC ops m)=true)(C:Jv st.slots=true)
  (h:QB P ops st.next vl (λstF rks hs=>IU ops (ops.take m) rks.reverse=true/\IT P (Q .normal) (ops.drop m) {st with next:=st.next+hs.length,slots:=vG st.next hs++stF.slots,own:=vk st.next hs++st.own}) (ops.take m) st [] []) :
  Triple P (.region id ops.toArray true) Q st:=by
 rw[Nat.ble_eq] at hm
 refine Qx L M ?_
 have Z:Ag st (xsOf st):=zju C
 obtain⟨A,K⟩:=NS (P:=P) (all:=ops) Z (Nat.zero_le _) []
 have e0:(qG (xsOf st) []).xt.own=st.own:=rfl
 rw[e0] at A K
 have O:Seg.zJ ⟨ops,0,0,(qG (xsOf st) []).rks.reverse,st,λ_=>st.own⟩ 0=st:=by
  unfold Seg.zJ;simp[puts]
 have T:(ops.take m).length=m:=by rw[List.length_take];omega
 obtain⟨F,st',hI,J,I,H,G⟩:=IV (l:=ops.take m) M (by simp) rfl A O h
 rw[T,Nat.zero_add] at hI J
 have V:F.ow=st.own:=I
 have S:YR ops ((ops.drop 0).take (m-0)) F.rks.reverse 0 ((ops.drop 0).take (m-0)) F.rks.reverse=true/\nodupB (jy F.rks.reverse)=true:=by
  unfold IU at H;rw[Bool.and_eq_true] at H;simpa using H
 obtain⟨g1,g2,g3⟩:=NR (s0:=xsOf st) M hI K Z (xs':={(xsOf st) with next:=(xsOf st).next+F.hs.length,slots:=YS F.xt (xsOf st).next F.hs,own:=vk (xsOf st).next F.hs++F.ow}) (by
  unfold W5;simp only
  rw[zv,Bool.and_eq_true];exact⟨S,rfl⟩)
 refine .seg (hi:=m) F.rks.reverse (λ_=>st.own) F.hs F.ow g1 g2 ?_ ?_
 .rw[Bool.or_eq_true,beq_iff] at E
  exact E.elim .inr .inl
 .have Y:Seg.fin ⟨ops,0,m,F.rks.reverse,st,λ_=>st.own⟩ F.hs F.ow = {st with next:=st.next+F.hs.length,slots:=vG st.next F.hs++st'.slots,own:=vk st.next F.hs++st.own}:=by
   unfold Seg.fin;rw[J,V]
  rw[Y];generalize ({st with next:=st.next+F.hs.length,slots:=vG st.next F.hs++st'.slots,own:=vk st.next F.hs++st.own}:St)=stE at G;cases hd:ops.drop m with
  |nil=>
   rw[hd] at G;have:m=ops.length:=by
    have:=congrArg List.length hd
    simp at this;omega
   rw[this];exact .done G
  |cons o r=>
   cases r with
   |cons _ _=>rw[hd] at G;exact G.elim
   |nil=>
    rw[hd] at G;obtain⟨hg,W⟩:=G;have B:m+1=ops.length:=by
     have:=congrArg List.length hd
     simp at this;omega
    have ho:ops[m]?=some o:=by
     have:=congrArg (λl:List Oper=>l[0]?) hd
     simpa using this
    refine RegI.tot (Q .normal) (by omega) (.inr B) ?_ ?_
    .intro X w0 β a w H0 N Q' hN
     unfold wpOp;have:ops.toArray[m]?=some o:=by simpa using ho
     rw[this];simp only[Region.wanted,hg,if_true];exact .inl (jv H0 W N _ λa' w' st' β' hk H1=>hN a' w' st' β' hk H1)
    .intro st' hK
     rw[B];exact .done hK
theorem UW{c:Code}{Q:DE->St->Prop}{st:St}(ids:List Nat)(h:Triple P c Q (st.zH ids)):Triple P c Q st:=λX w0 β a w hm=>h X w0 β a w (hm.zH (l:=ids))
end
attribute [simp] IR QA Jx UV Jy Jz JA JB QB IT vG vk ref hdrop qS FK.sym FK.made
end Go.V
namespace Go.V
variable [Dr] [Ov]
open Go.RowKit
def zi9(P:Program)(st:St)(t:Nat)(ad x:Sym)(K:Nat->Obj'->Prop):Prop:=
 match TI.of P t,ad with
 |some ti,.ap id sz i off=>match st.look id with
  |some (.arr T sz' rows)=>match yP x with
   |some l=>match yM l with
    |some ds=>(sz=sz'/\i<rows.length/\ds.length=ti.size/\off+ds.length<=(rows.getD i []).length)/\K id (.arr T sz (rows.set i (splice (rows.getD i []) off ds)))
    |none=>False
   |none=>False
  |_=>False
 |_,_=>False
def hid(st:St)(b:Bool):St:={st with own:=if b=true then st.own else []}
def IW(P:Program)(all:List Oper)(n0:Nat)(dp:Nat->Bool):Nat->List Oper->St->List Sym->(St->List Sym->Prop)->Prop
 |_,[],st,ss,K=>K st ss
 |i,o::r,st,ss,K=>zY o.dst st.n=true/\qP P all o (hid st (dp i)) (λs=>Sym.lo n0 s/\IW P all n0 dp (i+1) r (st.put o.dst s) (s::ss) K)
def gC(P:Program)(K:St->Prop):List Oper->St->Prop
 | [],st=>K st
 |o::r,st=>o.guard=none/\zS P o st (λst'=>gC P K r st')
def UX(all:List Oper)(k:Nat):Bool:=(List.range all.length).all λi=>Nat.ble i k || qC all i
section
variable {P:Program} {all:List Oper} {st:St}
theorem JC{K:St->Prop}:∀ {r:List Oper} {k:Nat} {st:St},k<=all.length->all.drop k=r->(∀ i,k<i->i<all.length->qC all i=true)->gC P K r st->RegI P all K k st
 | [],k,st,H,J,L,h=>by
  have:k=all.length:=by
   have:=congrArg List.length J
   simp at this;omega
  subst this;exact .done h
 |o::r,k,st,H,J,L,h=>by
  obtain⟨M,G⟩:=h;have O:k<all.length:=by
   have:=congrArg List.length J
   simp at this;omega
  have Q:all[k]?=some o:=by
   have:=congrArg (λl:List Oper=>l[0]?) J
   simpa using this
  have T:all.drop (k+1)=r:=by
   have:=congrArg List.tail J
   simpa using this
  refine RegI.tot (λst'=>gC P K r st') O ?_ ?_ λst' h'=>JC O T (λi V h2=>L i (by omega) h2) h'
  .rcases Nat.eq_or_lt_of_le (show k+1<=all.length from O) with e | e
   .exact .inr e
   .exact .inl (L (k+1) (by omega) e)
  .intro X w0 β a w F N Q' hN
   unfold wpOp;have:all.toArray[k]?=some o:=by simpa using Q
   rw[this];simp only[Region.wanted,M,if_true];exact .inl (jv F G N _ λa' w' st' β' O E=>hN a' w' st' β' O E)
end
attribute [simp] zi9 IW gC hid
end Go.V
namespace Go.V
variable [Dr] [Ov]
open Go.RowKit
section
variable {P:Program} {f:Nat} {args:List D} {r:D} {st:St} {K:St->Prop}
theorem wj.toR(h:wj P f args r):zj P f args r:=
 ⟨h.1,λw E vs H G=>(h.2 w E vs H G).mono λ_ w' ⟨v,F,K,J⟩=>⟨v,F,K,J.over (Over.less λ_ K=>.inl K) _ _⟩⟩
theorem UY{T sz:Nat}{rows:List (List D)}(h:ua P f args T sz rows)(hs:D.scalars rows.flatten=true):wj P f args (.sl rows):=by
 obtain⟨F,K,J⟩:=h
 refine⟨F,λw E vs L M=>(J w E vs L M).mono λ_ w' ⟨v,xs,O,Q,V,X,H⟩=>⟨v,O,Q,?_⟩⟩
 have Y:qx (λb=>w.heap.size<=b) w' T sz v rows.length xs:=qx.EX V X λ_ h=>h
 refine Hr Y (zt.cells (XV hs H.vals) H.one) K (λb G=>?_) (Over.refl _ _)
 rintro(h | h)
 .have:=(Y.2 b G).1
  have:=L.1 b h
  omega
 .have:=(Y.2 b G).1
  omega
theorem zC.UZ{f:Operand}{xs:List Operand}{dst:Option Tmp}{g:Nat}{ds:List D}{lent:Bool}{r:D}(H:jN st f xs=Option.some (g,ds,lent))(G:wj P g ds r)
  (F:K (st.put dst (.d r))):zC P st f xs dst K:=by
 unfold zC km;left;rw[H];exact .inl ⟨r,G.toR,λ_=>.inr G,F⟩
theorem zcx{look:Nat->Option Obj'}{c:Sym}{args:List Sym}{k:Sym->Prop}{f:Nat}{caps:List Sym}{ds:List D}{lent:Bool}{r:D}(H:yB c=some (f,caps))(G:qn look (args++caps)=some (ds,lent))(F:wj P f ds r)
  (E:k (.d r)):vA P look c args k:=by
 unfold vA gg
 rw[H]
 dsimp only
 rw[G]
 exact⟨r,F.toR,λ_=>.inr F,E⟩
end
section
variable {P:Program} {all:List Oper} {lo:Nat} {st0:St} {i:Nat} {o:Oper}
end
end Go.V
namespace Go.V
variable [Dr] [Ov]
open Go.RowKit
def zib(P:Program)(r:Option Nat)(c:Code)(Q:DE->St->Prop)(st:St):Prop:=
 ∀ X w0 β a w ms n,MX X w0 ms st β a w->c.wpIn (FW r) n P (λe' a' w'=>∃ de st' β',zU e' de/\Q de st'/\MX X w0 ms st' β' a' w') a w
def ui(P:Program)(st:St)(id:Nat)(xs:List Operand)(dst:Option Tmp)(K:St->Prop):Prop:=
 ∃ (k:Nat) (ids:List Nat) (args0:List Sym) (own0:List (Nat×Obj')) (s:Sym) (nx:Nat) (own':List (Nat×Obj')) (mv:List Nat),(k<ids.length/\rho ids k=id)/\yl (rho ids) args0=xs.map st.val/\Sym.los ids.length args0/\Fits st ids own0 /\
  uu P k args0 own0 ids.length s nx own' mv/\K ((st.after ids nx own' mv).put dst (ren (yq ids st.next) s))
def G0:Sym->Option Nat
 |.yd id=>some id
 |_=>none
def ZD(P:Program)(o:Oper)(st:St)(K:St->Prop):Prop:=
 match o.op with
 |.call {callee:=.value f,args:=xs,argTypes:=ts}=>match G0 (st.val f) with
  |some id=>zY o.dst st.n=true/\ui P st id xs.toList o.dst K
  |none=>zS P o st K
 |_=>zS P o st K
def vH(P:Program)(all:List Oper):List Oper->St->(St->Prop)->Prop
 | [],st,K=>K st
 |o::r,st,K=>match o.guard with
  |none=>ZD P o st (lz λst'=>vH P all r st' K)
  |some (j,want)=>match (all[j]?).bind (·.dst) with
   |some t=>match za st.slots t with
    |some (.d (.bool b))=>(b=want->ZD P o (st.put (some t) (.d (.bool want))) (lz λst'=>vH P all r st' K)) /\
     (b = !want->zY o.dst st.n=true/\vH P all r ((st.put (some t) (.d (.bool !want))).put o.dst (.d (.val undef))) K)
    |some (.d (.val v))=>v=undef/\zY o.dst st.n=true/\vH P all r (st.put o.dst (.d (.val undef))) K
    |_=>False
   |none=>False
def xo(P:Program):Code->(DE->St->Prop)->St->Prop
 |.skip,Q,st=>Q .normal st
 |.region _ ops draw,Q,st=>draw=false/\vH P ops.toList ops.toList st (Q .normal)
 |.seq x y,Q,st=>xo P x (Qj (λst'=>xo P y Q st') Q) st
 |.cond c x y,Q,st=>match st.val c with
  |.d (.bool b)=>(b=true->xo P x Q st)/\(b=false->xo P y Q st)
  |_=>False
 |.block id c,Q,st=>xo P c (vD id Q) st
 |.exit id,Q,st=>Q (.exit id) st
 |.ret,Q,st=>Q .ret st
 |_,_,_=>False
section
variable {P:Program} {X:Nat->Prop} {w0:Base} {st:St} {β:Nat->Value} {a:Act} {w w':World} {K:St->Prop}
theorem zf4{o:Oper}(h:zS P o st K):∀ c,o.op≠.defer c:=by
 intro c e
 unfold zS at h
 rw[e] at h
 simp only[ye,yG] at h
 exact h.2
theorem MX.back{ms:List Nat}(H:a.defers=ms.map mark++w0.dfs):({({a with defers:=w0.dfs}:Act) with defers:=ms.map mark++w0.dfs}:Act)=a:=by
 cases a;simp only at H;subst H;rfl
theorem zic{ms:List Nat}(L:MX X w0 ms st β a w){o:Oper}(h:∀ X' w0',Mods X' w0' st β {a with defers:=w0.dfs} w->Goes P X' w0' o {a with defers:=w0.dfs} w K)(G:∀ c,o.op≠.defer c)(r:Option Nat)(n:Nat){N:Act->World->Prop}{Q:Exit->Act->World->Prop}
  (M:∀ a' w' st' β',K st'->MX X w0 ms st' β' a' w'->N a' w'):o.wpIn (FW r) n P a w N Q:=by
 obtain⟨⟨X',w0',O,F,E⟩,T,J⟩:=L
 have:=N7 (h X' w0' F) G O.dfs.symm r n (ms.map mark++w0.dfs) (N:=N) (Q:=Q) λa' w' st' β' V H=>
  M _ w' st' β' V ⟨⟨X',w0',O,by have e:=H.defers.trans O.dfs;cases a';simp only at e;subst e;exact H,E⟩,rfl,J⟩
 rw[MX.back T] at this
 exact this
theorem zhc(I:Mods X w0 st β a w){o:Oper}{f:Operand}{args:Array Operand}{ts:Array TypeId}(S:o.op = .call {callee:=.value f,args,argTypes:=ts})
  {id:Nat} (W:st.val f = .yd id) (M:∀ t,o.dst=some t->t<st.n) (h:ui P st id args.toList o.dst K) (r:Option Nat) (n:Nat) (ms:List Deferred)
  {N:Act->World->Prop} {Q:Exit->Act->World->Prop} (hN:∀ a' w' st' β',K st'->Mods X w0 st' β' a' w'->N {a' with defers:=ms} w'):o.wpIn (FW r) n P {a with defers:=ms} w N Q:=by
 obtain⟨k,ids,args0,own0,s,nx,own',mv,⟨C,O⟩,ha,hl,hf,H,hK⟩:=h
 have hE:Ex (outOf X β ids st.own) (λi=>β (rho ids i)) own0=Ex X β st.own:=funext λb=>propext (hf.ex b)
 have T:zb w (Ex (outOf X β ids st.own) (λi=>β (rho ids i)) own0) (λi=>β (rho ids i)) args0 (args.toList.map a.eval):=by
  have h1:=(zb.kg I args.toList).1;rw[<-ha] at h1;rw[hE];exact ki (ρ:=rho ids) (β:=λi=>β (rho ids i)) (β':=β) (m:=ids.length) (λ_ _=>rfl) hl h1
 obtain⟨b,hb,H⟩:=H (outOf X β ids st.own) (inBase β ids w) (λi=>β (rho ids i)) w _ rfl (I.Qh hf) T
 simp only[O] at hb
 have hv:=(I.val f).2
 rw[W] at hv
 simp only[Sm] at hv
 obtain⟨b',L,hv⟩:=hv
 rw[hb] at L;cases L
 obtain⟨fn,tmps,aS,bd,V,G⟩:=H r (n-1)
 have F:∀ c,o.op≠.defer c:=λc e=>by rw[S] at e;cases e
 unfold Oper.wpIn
 refine⟨λ_ _=>trivial,?_⟩
 rw[Oper.semAt_eq _ _ _ F]
 have Y:({a with defers:=ms}:Act).eval=a.eval:=rfl
 rw[Y]
 have E:(execOp a.eval o).run P w = .ok (.round b fn tmps aS bd) w:=by
  have e3:Array.map a.eval args=(args.toList.map a.eval).toArray:=Array.ext' (by simp)
  simp only[execOp,S,resolve,hv];rw[e3];exact Nj V
 rw[E]
 simp only[Oper.uponIn]
 refine⟨λhd=>by simp[FW,Fence.wide] at hd,G.mono λe w' he=>?_⟩
 obtain⟨β1,v,rfl,Z,A,B⟩:=he
 obtain⟨h1,h2⟩:=I.Qi hf Z
 obtain⟨q1,q2⟩:=h2 s v A B
 have J:(({a with defers:=ms}:Act).put o.dst v) = {a.put o.dst v with defers:=ms}:=by cases o.dst <;> rfl
 show N (({a with defers:=ms}:Act).put o.dst v) w'
 rw[J]
 exact hN _ w' _ _ hK (h1.yg M q1 q2)
theorem IX{ms:List Nat}(J:MX X w0 ms st β a w){o:Oper}(h:ZD P o st K)(r:Option Nat)(n:Nat){N:Act->World->Prop}{Q:Exit->Act->World->Prop}
  (L:∀ a' w' st' β',K st'->MX X w0 ms st' β' a' w'->N a' w'):o.wpIn (FW r) n P a w N Q:=by
 have plain:zS P o st K->o.wpIn (FW r) n P a w N Q:=λh=>zic J (λX' w0' H=>jv H h) (zf4 h) r n L
 unfold ZD at h
 split at h
 .rename_i f xs ts M
  split at h
  .rename_i id O
   have O:st.val f = .yd id:=by
    revert O
    cases st.val f <;> simp[G0]
   obtain⟨⟨X',w0',T,H,F⟩,V,E⟩:=J;have:=zhc H M O (yH h.1) h.2 r n (ms.map mark++w0.dfs) (N:=N) (Q:=Q) λa' w' st' β' Y G=>
    L _ w' st' β' Y ⟨⟨X',w0',T,by have e:=G.defers.trans T.dfs;cases a';simp only at e;subst e;exact G,F⟩,rfl,E⟩
   rw[MX.back V] at this;exact this
  .exact plain h
 .exact plain h
theorem QD{all:List Oper}{ms:List Nat}{r:Option Nat}{n:Nat}{Q:Exit->Act->World->Prop}:∀ {l:List Oper} {st:St} {β:Nat->Value} {a:Act} {w:World} {K:St->Prop},
  vH P all l st K->MX X w0 ms st β a w->(∀ a' w' st' β',K st'->MX X w0 ms st' β' a' w'->Q .normal a' w')->wpListIn (FW r) n P all.toArray Q l a w
 | [],st,β,a,w,K,h,B,C=>C a w st β h B
 |o::l,st,β,a,w,K,h,B,C=>by
  simp only[vH] at h;refine wpListIn_step λN' F=>?_
  split at h
  .rename_i J
   simp only[Region.wanted,J,if_true];exact IX B h r n λa' w' st' β' I H=>F a' w' (QD I H C)
  .rename_i j want J
   split at h
   .rename_i t N
    split at h
    .rename_i b S
     have L:=Nl B S;have W:=Js (jO N) L;simp only[Region.wanted,J,W];have G:∀ c:Bool,b=c->MX X w0 ms (st.put (some t) (.d (.bool c))) β a w:=by
      intro c e;subst e;obtain⟨⟨X',w0',hu,H,T⟩,hd,V⟩:=B;have Y:t<st.n:=by
       rw[<-H.size];rcases Nat.lt_or_ge t a.tmps.size with h | h
       .exact h
       .rw[Array.getElem?_eq_none (by simpa using h)] at L;cases L
      have:=H.yg (dst:=some t) (s:=.d (.bool b)) (v:=.bool b) (λu e=>by cases e;exact Y) (by simp[Sym.lo]) (by simp[Sm,R])
      have e2:({a with defers:=w0.dfs}:Act).put (some t) (.bool b) = {a with defers:=w0.dfs}:=by
       have M:a.tmps[t]?=some (.bool b):=L
       obtain⟨h1,h2⟩:=Array.getElem?_eq_some_iff.1 M;show({tmps:=a.tmps.setIfInBounds t (.bool b),defers:=w0.dfs}:Act)=_
       congr 1
       apply Array.ext
       .simp
       .intro i h3 h4
        rw[Array.getElem_setIfInBounds];split
        .rename_i e;subst e;exact h2.symm
        .rfl
      rw[e2] at this;exact⟨⟨X',w0',hu,this,T⟩,hd,V⟩
     by_cases e:b=want
     .subst e
      simp only[beq_self_eq_true,if_true];exact IX (G b rfl) (h.1 rfl) r n λa' w' st' β' I H=>F a' w' (QD I H C)
     .have e':b = !want:=by cases b <;> cases want <;> simp_all
      have:(some b==some want)=false:=by simpa using e
      simp only[this,Bool.false_eq_true,if_false];obtain⟨hd,h⟩:=h.2 e';refine⟨λ_ _=>trivial,?_⟩
      exact F _ w (QD h ((G (!want) e').put (yH hd) (by simp[Sym.lo]) (λE=>by simp[Sm,R])) C)
    .rename_i hv
     obtain⟨Z,hd,h⟩:=h;obtain⟨A,O⟩:=B.plain.slots t _ hv;rw[Z] at O;simp only[Sm,R] at O;have W:yielded all.toArray a.tmps j=none:=Yz (jO N) O
     simp only[Region.wanted,J,W];have:((none:Option Bool)==some want)=false:=rfl
     simp only[this,Bool.false_eq_true,if_false];refine⟨λ_ _=>trivial,?_⟩
     exact F _ w (QD h (B.put (yH hd) (by simp[Sym.lo]) (λE=>by simp[Sm,R])) C)
    .exact h.elim
   .exact h.elim
theorem uj:∀ {c:Code} {Q:DE->St->Prop} {st:St} {r:Option Nat},xo P c Q st->zib P r c Q st
 |.skip,Q,st,r,h=>λX w0 β a w ms n G=>wpIn_skip ⟨.normal,st,β,trivial,h,G⟩
 |.region id ops draw,Q,st,r,h=>by
  obtain⟨rfl,h⟩:=h;intro X w0 β a w ms n G;refine wpIn_region_list ?_
  have:=QD (r:=r) (n:=n) (Q:=λe' a' w'=>∃ de st' β',zU e' de/\Q de st'/\MX X w0 ms st' β' a' w') h G (λa' w' st' β' F H=>⟨.normal,st',β',trivial,F,H⟩)
  simpa using this
 |.seq x y,Q,st,r,h=>by
  intro X w0 β a w ms n G;refine wpIn_seq (wpIn_mono (uj (c:=x) h X w0 β a w ms n G) ?_)
  rintro e a' w' ⟨de,st',β',E,K,H⟩
  cases e <;> cases de <;> simp only[zU] at E
  .exact uj (c:=y) K X w0 β' a' w' ms n H
  .subst E;exact⟨.exit _,st',β',rfl,K,H⟩
  .exact⟨.ret,st',β',trivial,K,H⟩
 |.cond c x y,Q,st,r,h=>by
  simp only[xo] at h;intro X w0 β a w ms n G;split at h
  .rename_i b hb
   have J:=(G.plain.val c).2;rw[hb] at J;simp only[Sm,R] at J;cases b
   .exact wpIn_cond_false J (uj (h.2 rfl) X w0 β a w ms n G)
   .exact wpIn_cond_true J (uj (h.1 rfl) X w0 β a w ms n G)
  .exact h.elim
 |.block id c,Q,st,r,h=>by
  intro X w0 β a w ms n G;refine wpIn_block (wpIn_mono (uj (c:=c) h X w0 β a w ms n G) ?_)
  rintro e a' w' ⟨de,st',β',E,K,H⟩
  cases e <;> cases de <;> simp only[zU] at E
  .exact⟨.normal,st',β',trivial,K,H⟩
  .subst E
   simp only[vD] at K;simp only[Exit.inBlock];split
   .rename_i e;rw[if_pos e] at K;exact⟨.normal,st',β',trivial,K,H⟩
   .rename_i e;rw[if_neg e] at K;exact⟨.exit _,st',β',rfl,K,H⟩
  .exact⟨.ret,st',β',trivial,K,H⟩
 |.exit id,Q,st,r,h=>λX w0 β a w ms n G=>wpIn_exit ⟨.exit id,st,β,rfl,h,G⟩
 |.ret,Q,st,r,h=>λX w0 β a w ms n G=>wpIn_ret ⟨.ret,st,β,trivial,h,G⟩
 |.loop _,Q,st,r,h=>h.elim
 |.rangeFunc ..,Q,st,r,h=>h.elim
 |.scope _,Q,st,r,h=>h.elim
 |.label _,Q,st,r,h=>h.elim
 |.goto ..,Q,st,r,h=>h.elim
 |.refuse ..,Q,st,r,h=>h.elim
theorem JD{c:Code}{Q:DE->St->Prop}(h:xo P c Q st):Triple P c Q st:=by
 intro X w0 β a w G
 refine(wpIn_wide (n:=0)).1 (wpIn_mono (uj (r:=none) h X w0 β a w [] 0 (.of G)) ?_)
 rintro e a' w' ⟨de,st',β',F,E,H⟩
 exact⟨de,st',β',F,E,H.nil⟩
def QE:List Nat->List Sym->St->St
 |p::ps,s::ss,st=>QE ps ss (st.put (some p) s)
 |_,_,st=>st
theorem IY:∀ {ps:List Nat} {ss:List Sym} {vs:List Value} {st:St} {a:Act},Mods X w0 st β a w->(∀ p∈ps,p<st.n)->Sym.los st.next ss->zb w (Ex X β st.own) β ss vs->ps.length=ss.length ->
  Mods X w0 (QE ps ss st) β {a with tmps:=(ps.zip vs).foldl (λt (p,v)=>t.setIfInBounds p v) a.tmps} w
 | [],[],vs,st,a,F,_,_,_,_=>by simpa[QE] using F
 |p::ps,s::ss,vs,st,a,F,E,K,hs,H=>by
  simp only[zb] at hs;obtain⟨v,vs',rfl,J,h2⟩:=hs;simp only[Sym.los] at K;have G:=F.yg (dst:=some p) (s:=s) (v:=v) (λt e=>by cases e;exact E p (by simp)) K.1 J
  exact IY (ps:=ps) (ss:=ss) (vs:=vs') G (λq L=>E q (List.mem_cons_of_mem _ L)) K.2 h2 (by simpa using H)
def roundEnd(id n nx:Nat)(s:Sym)(own':List (Nat×Obj'))(mv:List Nat):DE->St->Prop:=λde st2=>
 (st2.base=n/\id∉st2.moved)/\match st2.look id with
  |some (.raw (.lp ps aS bd .busy none) cells2)=>s = .d (.bool (uy de))/\Weak {st2 with own:=zD id (.raw (.lp ps aS bd (wB de) (xp de)) cells2) st2.own} {n:=st2.n,next:=nx,slots:=[],own:=own',base:=n,moved:=mv}
  |_=>False
def G1(P:Program)(bd:Code)(id n:Nat)(Q:DE->St->Prop):DE->St->Prop:=λe st1=>
 match e with
 |.normal=>(st1.base=n/\id∉st1.moved)/\match st1.look id with
  |some (.raw (.lp ps aS bd' .ready none) cells1)=>bd'=bd/\xo P bd Q {st1 with own:=zD id (.raw (.lp ps aS bd' .busy none) cells1) st1.own}
  |_=>False
 |_=>False
theorem QF{id n nx:Nat}{own own':List (Nat×Obj')}{cells args:List Sym}{ps:Array Tmp}{aS bd:Code}{s:Sym}{mv:List Nat}
  (H0:za own id=some (.raw (.lp ps aS bd .ready none) cells)) (E:args.length=ps.size) (H1:∀ p∈ps.toList,p<cells.length) (hid:id<n) (hl:Sym.los n args)
  (h:xo P aS (G1 P bd id n (roundEnd id n nx s own' mv)) (QE ps.toList args (initC 0 cells own n))):uu P id args own n s nx own' mv:=by
 intro X w0 β w vs hβ hm hs
 have O:(zR own n n []).look id=some (.raw (.lp ps aS bd .ready none) cells):=H0
 obtain⟨_,H2,b,fn,D,vs0,hb,hN,hh,Hb⟩:=hm.obj O
 replace hb:β id = .pointer (some ⟨b,0,none⟩):=hb
 refine⟨b,hb,λr m=>?_⟩
 have K:=hs.length
 have hy:=run_yield (P:=P) (args:=vs.toArray) hh (by simp[K,E])
 refine⟨fn,_,aS,bd,hy,roundIn_of_wpIn trivial ?_⟩
 have Hc:=hm.initC (ntmps:=0) Hb H2
 have Hd:=IY (ps:=ps.toList) (ss:=args) (vs:=vs) Hc (λp hp=>by have:=H1 p hp;simpa[initC] using this) hl hs (by simp[E])
 have Q:({tmps:=(ps.zip vs.toArray).foldl (λtmps (t,a)=>tmps.setIfInBounds t a) vs0.toArray,defers:=[]}:Act) =
   {({tmps:=vs0.toArray++Array.replicate (0-vs0.toArray.size) undef,defers:=[]}:Act) with tmps:=(ps.toList.zip vs).foldl (λt (p,v)=>t.setIfInBounds p v) (vs0.toArray++Array.replicate (0-vs0.toArray.size) undef)}:=by
  congr 1
  rw[<-Array.foldl_toList];simp
 rw[Q]
 have J:=uj (r:=some b) h X w0 β _ w [] m (.of Hd)
 have efw:(FW r).inRound b=FW (some b):=rfl
 rw[efw]
 refine wpIn_mono J ?_
 rintro e' a' w' ⟨de,st2,β2,he,hq,T⟩
 have N:=T.nil
 cases e' <;> cases de <;> simp only[zU] at he <;> simp only[G1] at hq
 obtain⟨⟨Hh,V⟩,hq⟩:=hq
 split at hq
 .rename_i ps1 a1 b1 cells1 Y
  obtain⟨rfl,hq⟩:=hq;have same:∀ {st':St} {β':Nat->Value} {a':Act} {w':World},Mods X w0 st' β' a' w'->st'.base=n->id∉st'.moved->β' id=β id:=by
   intro st' β' a' w' Hi Hp Z;rw[Hi.still.2 id (by rw[Hp];exact hid) Z,hβ]
  obtain⟨b',fn',D',vs',Hs,Hx,Ga⟩:=YL (s':=.busy) (pd':=none) N Y;have ebb:b'=b:=by
   have:=same N Hh V
   rw[Hs,hb] at this;simpa using this
  subst ebb;refine⟨_,run_beginRound Hx rfl,?_⟩
  have L:=uj (r:=some b') hq X w0 β2 a' _ [] m (.of Ga);refine wpIn_mono L ?_
  rintro e' a' w' ⟨de,XK,β4,S,M,A⟩
  have W:=A.nil;obtain⟨⟨Gb,B⟩,M⟩:=M;split at M
  .rename_i ps2 a2 b2 cells2 C
   obtain⟨rfl,Gc⟩:=M;obtain⟨b4,fn4,D4,vs4,I,Gd,Gm⟩:=YL (s':=wB de) (pd':=xp de) W C;have ebb4:b4=b':=by
    have:=same W Gb B
    rw[I,hb] at this;simpa using this
   subst ebb4;have H:=Gm.weak Gc;have Go:Mods X w0 (zR own' n nx mv) β4 xx _:=⟨H.outer,H.still,H.one,hm.defers,rfl,H.below,H.keys,H.own,H.apart,by intro t s ht;simp[zR,za] at ht⟩
   have G:=run_endRound (P:=P) (xp de) Gd;have est:(if (xp de).isNone then LoopState.ready else .done)=wB de:=by cases de <;> rfl
   have ebo:(xp de).isNone=uy de:=by cases de <;> rfl
   have F:∃ β' v,Ending.returned (.bool (xp de).isNone) = .returned v/\Mods X w0 (zR own' n nx mv) β' xx
     (w'.putObj b4 (.loop {state:=if (xp de).isNone then .ready else .done,pending:=xp de,fn:=fn4,tmps:=vs4,params:=ps2,assign:=a2,body:=b2,defers:=D4}))/\Sym.lo nx (.d (.bool (uy de))) /\
     Sm (w'.putObj b4 (.loop {state:=if (xp de).isNone then .ready else .done,pending:=xp de,fn:=fn4,tmps:=vs4,params:=ps2,assign:=a2,body:=b2,defers:=D4})) (Ex X β' own') β' (.d (.bool (uy de))) v:=by
    rw[est];exact⟨β4,_,rfl,Go,by simp[Sym.lo],by simp[Sm,R,ebo]⟩
   cases e' <;> cases de <;> simp only[zU] at S
   .exact⟨_,_,G,F⟩
   .subst S;exact⟨_,_,G,F⟩
   .exact⟨_,_,G,F⟩
  .exact M.elim
 .exact hq.elim
def um(P:Program)(c:Code)(Q:DE->St->Prop)(st:St):Prop:=
 ∀ X w0 β a w n,Mods X w0 st β a w->c.wpIn (FW none) n P (λe' a' w'=>∃ de st' β' ms',zU e' de/\Q de st'/\MX X w0 ms' st' β' a' w') a w
def ZE(st:St):Nat->Nat->List Sym
 |0,_=>[]
 |k+1,t=>(match za st.slots t with
  |some s=>s
  |none=>.junk)::ZE st k (t+1)
theorem IZ(F:Mods X w0 st β a w):∀ (k t:Nat),t+k=a.tmps.size->zb w (Ex X β st.own) β (ZE st k t) (a.tmps.toList.drop t)/\Sym.los st.next (ZE st k t)
 |0,t,h=>by
  simp only[ZE];rw[List.drop_eq_nil_of_le (by simp;omega)]
  exact⟨by simp[zb],by simp[Sym.los]⟩
 |k+1,t,h=>by
  obtain⟨E,h2⟩:=IZ F k (t+1) (by omega)
  have G:t<a.tmps.toList.length:=by simp;omega
  rw[List.drop_eq_getElem_cons G];simp only[ZE];have K:a.tmps.getD t undef=a.tmps.toList[t]:=by
   have H:t<a.tmps.size:=by simpa using G
   simp[H]
  cases hs:za st.slots t with
  |none=>
   refine⟨?_,?_⟩
   .simp only[zb];exact⟨_,_,rfl,by simp[Sm],E⟩
   .simp only[Sym.los];exact⟨by simp[Sym.lo],h2⟩
  |some s=>
   obtain⟨q1,q2⟩:=F.slots t s hs;rw[K] at q2;refine⟨?_,?_⟩
   .simp only[zb];exact⟨_,_,rfl,q2,E⟩
   .simp only[Sym.los];exact⟨q1,h2⟩
def QG(st:St)(ps:Array Tmp)(aS bd:Code):St:=st.new (.raw (.lp ps aS bd .ready none) (ZE st st.n 0))
def QH(st:St)(id:Nat):St:={st with own:=st.own.filter λx=>!Nat.beq x.1 id}
def G2(id:Nat)(Q:DE->St->Prop)(st:St):Prop:=match st.look id with
 |some (.raw (.lp _ _ _ s pend) _)=>match s,pend with
  |.busy,_=>False
  |_,none=>Q .normal (QH st id)
  |_,some .ret=>Q .ret (QH st id)
  |_,some (.exit i)=>Q (.exit i) (QH st id)
  |_,_=>False
 |_=>False
theorem JE{g:Operand}{ps:Array Tmp}{aS bd:Code}{Q:DE->St->Prop}{gf:Nat}{caps:List Sym}(H:yB (st.val g)=some (gf,caps))(k:Nat)(ids:List Nat)(args0:List Sym)(own0:List (Nat×Obj'))
  {s:Sym} {nx:Nat} {own':List (Nat×Obj')} {mv:List Nat} (hk:k<ids.length/\rho ids k=st.next/\k∉mv)
  (ha:yl (rho ids) args0 = .yd st.next::caps) (hl:Sym.los ids.length args0) (hf:Fits (QG st ps aS bd) ids own0) (hp:zA P gf args0 own0 ids.length s nx own' mv)
  (hK:G2 st.next Q ((QG st ps aS bd).after ids nx own' mv)):um P (.rangeFunc g ps aS bd) Q st:=by
 intro X w0 β a w n hm
 refine wpIn_rangeFunc (F:=FW none) ?_
 intro fn _
 have Hb:Below w.heap.size w (w.alloc (.deferred (some []))):=vd w _
 have Hh:∀ b,(X b\/b=w.heap.size)->X b\/(w.heap.size<=b/\b<(w.alloc (.deferred (some []))).heap.size):=λb hb=>hb.elim .inl λe=>.inr ⟨by omega,by simp;omega⟩
 have L:Mods (λb=>X b\/b=w.heap.size) (ZF (w.alloc (.deferred (some []))) st β w0.β0 w0.dfs) st β a (w.alloc (.deferred (some []))):=
  hm.Gm Hh (λb=>.inl) (by simp) (λb hb _=>Hb.block b hb)
 have hu:=hm.under (X':=λb=>X b\/b=w.heap.size) (λb=>.inl) (hm.below.next Hb)
 have hD:(w.alloc (.deferred (some []))).heap[w.heap.size]?=some (.deferred (some [])):=World.alloc_heap_new w _
 obtain⟨G,O⟩:=IZ L st.n 0 (by rw[<-hm.size];omega)
 rw[List.drop_zero] at G
 generalize Hi:(λb=>X b\/b=w.heap.size)=X' at L hu G
 have A:X' w.heap.size:=by rw[<-Hi];exact .inr rfl
 generalize Hc:w.alloc (.deferred (some []))=w1 at L hu hD G
 generalize B:ZF w1 st β w0.β0 w0.dfs=w0' at L hu
 have C:w0'.w=w1:=by rw[<-B];rfl
 have I:w1.heap.size=w.heap.size+1:=by rw[<-Hc];simp
 let rcd:Loop:={state:=.ready,pending:=none,fn,tmps:=a.tmps,params:=ps,assign:=aS,body:=bd,defers:=w.heap.size}
 have T:Mods X' w0' (QG st ps aS bd) (λi=>if i=st.next then .pointer (some ⟨w1.heap.size,0,none⟩) else β i) a (w1.alloc (.loop rcd)):=by
  refine L.new (vd w1 _) rfl O (λb hb=>by simp[blk] at hb;omega) ?_
  refine⟨w1.heap.size,fn,w.heap.size,a.tmps.toList,by simp[RK.ptr],.inl L.below.size,?_,?_⟩
  .have:=World.alloc_heap_new w1 (.loop rcd)
   simpa[RK.at,rcd] using this
  .refine zb.over (m:=st.next) (λid h=>by simp;intro e;omega) ?_ O G
   intro b hb he;refine⟨?_,(vd w1 _).block b hb⟩
   rintro(h | h)
   .exact he h
   .simp[blk] at h;omega
 generalize V:QG st ps aS bd=st2 at T hf hK
 have Y:st2.val g=st.val g:=by rw[<-V];rfl
 have N:st2.next=st.next+1:=by rw[<-V];rfl
 have hv:=(T.val g).2
 rw[Y] at hv
 obtain⟨lb,Hp,Hs⟩:∃ lb:List Value,a.eval g = .func (.func gf) #[] lb.toArray/\zb (w1.alloc (.loop rcd)) (Ex X' (λi=>if i=st.next then .pointer (some ⟨w1.heap.size,0,none⟩) else β i) st2.own) (λi=>if i=st.next then .pointer (some ⟨w1.heap.size,0,none⟩) else β i) caps lb:=by
  cases hf:st.val g <;> rw[hf] at H hv <;> simp only[yB] at H
  case d x=>
   cases x <;> simp only[yB] at H
   case fn f' l=>
    simp at H;obtain⟨rfl,rfl⟩:=H
    simp only[Sm,R] at hv;obtain⟨vs,h1,h2⟩:=hv;exact⟨vs,h1,zb.vB h2⟩
   all_goals cases H
  case fn f' l=>
   simp at H;obtain⟨rfl,rfl⟩:=H
   simp only[Sm] at hv;exact hv
  all_goals cases H
 have S:zb (w1.alloc (.loop rcd)) (Ex X' (λi=>if i=st.next then .pointer (some ⟨w1.heap.size,0,none⟩) else β i) st2.own) (λi=>if i=st.next then .pointer (some ⟨w1.heap.size,0,none⟩) else β i) (.yd st.next::caps) (.func (.yield w1.heap.size) #[] #[]::lb):=by
  simp only[zb];refine⟨_,_,rfl,?_,Hs⟩
  simp only[Sm];exact⟨w1.heap.size,by simp,rfl⟩
 generalize hβ2:(λi=>if i=st.next then Value.pointer (some ⟨w1.heap.size,0,none⟩) else β i)=β2 at T S
 have hβn:β2 st.next = .pointer (some ⟨w1.heap.size,0,none⟩):=by rw[<-hβ2];simp
 have hE:Ex (outOf X' β2 ids st2.own) (λi=>β2 (rho ids i)) own0=Ex X' β2 st2.own:=funext λb=>propext (hf.ex b)
 have Hx:zb (w1.alloc (.loop rcd)) (Ex (outOf X' β2 ids st2.own) (λi=>β2 (rho ids i)) own0) (λi=>β2 (rho ids i)) args0 (.func (.yield w1.heap.size) #[] #[]::lb):=by
  rw[<-ha] at S;rw[hE];exact ki (ρ:=rho ids) (β:=λi=>β2 (rho ids i)) (β':=β2) (m:=ids.length) (λ_ _=>rfl) hl S
 obtain⟨M,Ga⟩:=hp
 have E:=Ga (outOf X' β2 ids st2.own) (inBase β2 ids (w1.alloc (.loop rcd))) (λi=>β2 (rho ids i)) _ _ rfl (T.Qh hf) Hx
 refine⟨w1.heap.size,[mark w.heap.size],w1.alloc (.loop rcd),{target:=.fn (.func gf) lb.toArray,args:=#[.func (.yield w1.heap.size) #[] #[]]},w1.alloc (.loop rcd),gf,(.func (.yield w1.heap.size) #[] #[]::lb).toArray,w1.alloc (.loop rcd),?_,?_,λ_ _=>trivial,?_,λhd=>by simp[FW,Fence.wide] at hd,?_⟩
 .have:=run_enterLoop_outer (P:=P) (w:=w) fn a.tmps ps aS bd
  rw[Hc,<-I] at this;exact this
 .simp only[resolve,Hp]
  simp[go_sem]
 .unfold callable at M
  cases W:P.funcs[gf]? with
  |none=>simp[W] at M
  |some fnn=>
   simp[W] at M;have e1:¬fnn.body=none:=by intro e;rw[e] at M;simp at M
   simp[invoke,callFunc,W,e1,M.1]
 .refine Gi (E.mono λe' w3 he=>?_)
  obtain⟨β1,v,rfl,Z,Gb,F0⟩:=he;have H0:=(T.Qi hf Z).1;have hβ3:vg β2 β1 ids st2.next st.next = .pointer (some ⟨w1.heap.size,0,none⟩):=by
   have h1:=I7 (β:=β2) (β1:=β1) hf k;have h2:yq ids st2.next k=st.next:=by
    unfold yq;rw[if_pos hk.1];exact hk.2.1
   rw[h2] at h1;rw[h1,Z.still.2 k hk.1 hk.2.2];show β2 (rho ids k)=_
   rw[hk.2.1];exact hβn
  generalize Gc:st2.after ids nx own' mv=vw at H0 hK;generalize vg β2 β1 ids st2.next=β3 at H0 hβ3;unfold G2 at hK;split at hK
  .rename_i ps1 a1 b1 s1 pend cells1 Gd
   obtain⟨b,fn',D',vs',hb,hh,Go⟩:=YL (s':=.exhausted) (pd':=pend) H0 Gd;have Gr:b=w1.heap.size:=by
    rw[hb] at hβ3;simpa using hβ3
   subst Gr;have Hd:=Go.Nr (λx=>!Nat.beq x.1 st.next)
   rw[Gn] at Hd;have H1:MX X w0 [w.heap.size] (QH vw st.next) β3 {a with defers:=[mark w.heap.size]++a.defers} _:=
    ⟨⟨X',w0',hu,by
     have e:({({a with defers:=[mark w.heap.size]++a.defers}:Act) with defers:=w0.dfs}:Act)=a:=by have:=hm.defers;cases a;simp only at this;subst this;rfl
     rw[e];exact Hd,λD H2=>by
      have:D=w.heap.size:=by simpa using H2
      subst this;exact⟨A,by rw[C];exact hD⟩⟩,by rw[hm.defers];rfl,by simp,λD H2=>by
      have:D=w.heap.size:=by simpa using H2
      subst this;exact .inl hm.below.size⟩
   have K:s1≠.busy->(Instr.endLoop w1.heap.size).run P w3 = .ok pend _:=λJ=>run_endLoop (P:=P) hh J
   split at hK
   .exact hK.elim
   .rename_i _ _ J
    exact⟨none,_,K J,⟨.normal,_,β3,_,trivial,hK,H1⟩⟩
   .rename_i _ _ J
    exact⟨some .ret,_,K J,wpIn_ret ⟨.ret,_,β3,_,trivial,hK,H1⟩⟩
   .rename_i _ _ i J
    exact⟨some (.exit i),_,K J,wpIn_exit ⟨.exit i,_,β3,_,rfl,hK,H1⟩⟩
   .exact hK.elim
  .exact hK.elim
end
section
variable {P:Program} {st:St} {Q:DE->St->Prop}
def QI(P:Program)(y:Code)(Q:DE->St->Prop):DE->St->Prop:=Qj (λst=>xo P y Q st) Q
theorem JF{x y:Code}(h:um P x (QI P y Q) st):um P (.seq x y) Q st:=by
 intro X w0 β a w n K
 refine wpIn_seq (wpIn_mono (h X w0 β a w n K) ?_)
 rintro e a' w' ⟨de,st',β',ms',J,L,H⟩
 cases e <;> cases de <;> simp only[zU] at J
 .refine wpIn_mono (uj (c:=y) (Q:=Q) (r:=none) L X w0 β' a' w' ms' n H) ?_
  rintro e2 a2 w2 ⟨de2,st2,β2,G,F,E⟩
  exact⟨de2,st2,β2,ms',G,F,E⟩
 .subst J;exact⟨.exit _,st',β',ms',rfl,L,H⟩
 .exact⟨.ret,st',β',ms',trivial,L,H⟩
theorem JG{id:Nat}{c:Code}(h:um P c (vD id Q) st):um P (.block id c) Q st:=by
 intro X w0 β a w n G
 refine wpIn_block (wpIn_mono (h X w0 β a w n G) ?_)
 rintro e a' w' ⟨de,st',β',ms',F,E,H⟩
 cases e <;> cases de <;> simp only[zU] at F
 .exact⟨.normal,st',β',ms',trivial,E,H⟩
 .subst F
  simp only[vD] at E;simp only[Exit.inBlock];split
  .rename_i e;rw[if_pos e] at E;exact⟨.normal,st',β',ms',trivial,E,H⟩
  .rename_i e;rw[if_neg e] at E;exact⟨.exit _,st',β',ms',rfl,E,H⟩
 .exact⟨.ret,st',β',ms',trivial,E,H⟩
theorem gG(H:P.follows .mixedOrders=true)(n:Nat){c:Code}(S:St)(hs:Qy n c=true):∀ {st:St},ev P (x8 n c) (ku S Q) st->um P (xB n c) Q S->um P c Q st:=by
 induction n generalizing c with
 |zero=>
  intro st h h2 X w0 β a w m F;exact h2 X w0 β a w m (F.weak h)
 |succ n ih=>
  intro st h h2;cases c <;> simp only[x8,xB,Qy,reduceCtorEq] at h h2 hs
  case seq x y=>
   intro X w0 β a w m F;simp only[ev] at h;refine wpIn_seq (wpIn_mono (wpIn_wide.2 (ya H h X w0 β a w F)) ?_)
   rintro e a' w' ⟨de,st',β',E,K,G⟩
   cases e <;> cases de <;> simp only[zU] at E
   .exact ih hs K h2 X w0 β' a' w' m G
   .subst E;exact⟨.exit _,st',β',[],rfl,K,.of G⟩
   .exact⟨.ret,st',β',[],trivial,K,.of G⟩
theorem M1{f:Nat}{fn:Func}{c:Code}(J:P.funcs[f]?=some fn)(L:fn.body=some c)(H:callable P f=true){args:List D}{r:D}
  (h:um P c (kp (ko P fn.results.toList r)) (vE fn.ntmps args)):zj P f args r:=by
 refine⟨H,λw E vs M O=>?_⟩
 refine(callsIn_wide (n:=0)).1 (callsIn_of_wp_marks (F:=Fence.wide) (n:=0) J L trivial ?_)
 refine wpIn_mono (h E (.of w) _ _ w 0 (Mods.init M O)) ?_
 have fin:∀ {st' β' ms' a' w'},ko P fn.results.toList r st'->MX E (.of w) ms' st' β' a' w'->LeavesInM Fence.wide 0 P fn a'.tmps (λe w'=>∃ v,e = .returned v/\Below w.heap.size w w'/\R w' E r v) a'.defers .returning w':=by
  intro st0 β' ms' a' w' Q G;rw[G.defers,show(Base.of w).dfs=[] from rfl,List.append_nil]
  refine JM rfl G λa2 w2 ea K=>?_
  obtain⟨v,T,h2⟩:=wu K Q;rw[<-ea];exact⟨v,T,v,rfl,K.below.below,h2⟩
 rintro e a' w' ⟨de,st',β',ms',V,Q,G⟩
 cases e <;> cases de <;> simp only[zU] at V
 .exact fin Q G
 .exact Q.elim
 .exact fin Q G
end
def vI:Code->Option (Array Tmp×Code×Code)
 |.rangeFunc _ ps a b=>some (ps,a,b)
 |.seq x y=>match vI x with
  |some r=>some r
  |none=>vI y
 |.block _ c=>vI c
 |_=>none
def qD(f:Func):Code:=match f.body with
 |some c=>match vI c with
  |some (_,a,_)=>a
  |none=>.skip
 |none=>.skip
def qE(f:Func):Code:=match f.body with
 |some c=>match vI c with
  |some (_,_,b)=>b
  |none=>.skip
 |none=>.skip
theorem ui.tO{P:Program}{st:St}{id:Nat}{xs:List Operand}{dst:Option Tmp}{K:St->Prop}(k:Nat)(ids:List Nat)(args0:List Sym)(own0:List (Nat×Obj')){s:Sym}{nx:Nat}{own':List (Nat×Obj')}{mv:List Nat}
  (H:k<ids.length/\rho ids k=id) (G:yl (rho ids) args0=xs.map st.val) (F:Sym.los ids.length args0) (E:Fits st ids own0) (J:uu P k args0 own0 ids.length s nx own' mv)
  (L:K ((st.after ids nx own' mv).put dst (ren (yq ids st.next) s))):ui P st id xs dst K:=⟨k,ids,args0,own0,s,nx,own',mv,H,G,F,E,J,L⟩
theorem zA.QJ{P:Program}{f:Nat}{args:List Sym}{own:List (Nat×Obj')}{n nx:Nat}{own':List (Nat×Obj')}{mv:List Nat}(h:zA P f args own n (.tup []) nx own' mv):zA P f args own n (.d (.tup [])) nx own' mv:=by
 refine⟨h.1,λX w0 β w vs hβ H hs=>(h.2 X w0 β w vs hβ H hs).mono λe w' G=>?_⟩
 obtain⟨β',v,F,h2,E,K⟩:=G
 refine⟨β',v,F,h2,by simp[Sym.lo],?_⟩
 simp only[Sm,zb] at K
 obtain⟨vs',rfl,rfl⟩:=K
 simp[Sm,R,zt]
section
variable {P:Program} {st:St} {Q:DE->St->Prop} {K:St->Prop} {all r:List Oper}
def G3(P:Program)(all r:List Oper)(K:St->Prop):St->Prop:=λst=>vH P all r st K
theorem zhd:xo P .skip Q st=Q .normal st:=rfl
theorem zd8(id:Nat)(ops:List Oper):xo P (.region id ops.toArray false) Q st=vH P ops ops st (Jl Q):=by simp[xo];rfl
theorem zid(x y:Code):xo P (.seq x y) Q st=xo P x (QI P y Q) st:=rfl
theorem zhe(c:Operand)(x y:Code):xo P (.cond c x y) Q st=match st.val c with
  |.d (.bool b)=>(b=true->xo P x Q st)/\(b=false->xo P y Q st)
  |_=>False:=rfl
theorem zf5(id:Nat)(c:Code):xo P (.block id c) Q st=xo P c (vD id Q) st:=rfl
theorem zhf(id:Nat):xo P (.exit id) Q st=Q (.exit id) st:=rfl
theorem zie:xo P .ret Q st=Q .ret st:=rfl
theorem zcy(y:Code):QI P y Q .normal st=xo P y Q st:=rfl
theorem zf6(y:Code)(i:Nat):QI P y Q (.exit i) st=Q (.exit i) st:=rfl
theorem zhg(y:Code):QI P y Q .ret st=Q .ret st:=rfl
theorem zf7:vH P all [] st K=K st:=rfl
theorem zcz(dst:Option Tmp)(op:Op)(ty:Nat)(pos:String)(after:Array Edge):
  vH P all (⟨dst,op,ty,pos,after,none⟩::r) st K=ZD P ⟨dst,op,ty,pos,after,none⟩ st (G3 P all r K):=rfl
theorem zc0(dst:Option Tmp)(op:Op)(ty:Nat)(pos:String)(after:Array Edge)(j:Nat)(want:Bool):
  vH P all (⟨dst,op,ty,pos,after,some (j,want)⟩::r) st K=match (all[j]?).bind (·.dst) with
   |some t=>match za st.slots t with
    |some (.d (.bool b))=>(b=want->ZD P ⟨dst,op,ty,pos,after,some (j,want)⟩ (st.put (some t) (.d (.bool want))) (G3 P all r K)) /\
     (b = !want->zY dst st.n=true/\vH P all r ((st.put (some t) (.d (.bool !want))).put dst (.d (.val undef))) K)
    |some (.d (.val v))=>v=undef/\zY dst st.n=true/\vH P all r (st.put dst (.d (.val undef))) K
    |_=>False
   |none=>False:=rfl
theorem zd9:G3 P all r K st=vH P all r st K:=rfl
theorem zal{bd:Code}{id n:Nat}:G1 P bd id n Q .normal st=((st.base=n/\id∉st.moved)/\match st.look id with
  |some (.raw (.lp ps aS bd' .ready none) cells1)=>bd'=bd/\xo P bd Q {st with own:=zD id (.raw (.lp ps aS bd' .busy none) cells1) st.own}
  |_=>False):=rfl
end
attribute [simp] zhd zd8 zid zhe zf5 zhf zie zcy zf6 zhg zf7 zcz zc0 zd9 ZD G0 zal QE initC wy roundEnd uy wB xp ZE QG QH G2
section
variable {P:Program} {st:St} {all:List Oper}
def YF(P:Program)(all:List Oper)(m:Nat)(K:St->Prop):List Oper->St->Prop
 | [],st=>K st
 |x::r,st=>zY x.dst st.n=true/\qP P all x st (λs=>Sym.lo m s/\YF P all m K r (st.put x.dst s))
theorem M3{m:Nat}{K:St->Prop}:∀ {l:List Oper} {st:St},YF P all m K l st->∃ ss,Chain P all l ss st/\(∀ s∈ss,Sym.lo m s)/\K (puts l ss st)
 | [],st,h=>⟨[],rfl,by simp,h⟩
 |x::r,st,h=>by
  simp only[YF] at h;obtain⟨H,h⟩:=h;obtain⟨s,G,h2,F⟩:=Qn h;obtain⟨ss,q1,q2,q3⟩:=M3 F;refine⟨s::ss,⟨s,ss,rfl,H,G,q1⟩,?_,q3⟩
  intro u E;rcases List.mem_cons.1 E with e | E
  .subst e;exact h2
  .exact q2 u E
theorem zf8(K:P.follows .mixedOrders=true){id:Nat}{pre post:List Oper}(X:yv (pre++post)=true)(Y:post≠[])(J:qC (pre++post) pre.length=true)(G:UX (pre++post) pre.length=true){Q:DE->St->Prop}
  (F:(st.own.map (·.1)).Nodup) (h:YF P (pre++post) st.next (gC P (Q .normal) post) pre st):Triple P (.region id (pre++post).toArray true) Q st:=by
 refine Qx K X ?_
 obtain⟨ss,Z,C,hd⟩:=M3 h
 have L:=Qo Z
 have M:∀ i k,(Seg.kd ⟨pre++post,0,pre.length,ss.map .val,st,λ_=>st.own⟩ i)=some k->∃ s,ss[i]?=some s/\k = .val s:=by
  intro i k hk;unfold Seg.kd at hk;split at hk
  .simp only[Nat.sub_zero,List.getElem?_map] at hk
   cases hs:ss[i]? with
   |none=>rw[hs] at hk;cases hk
   |some s=>rw[hs] at hk;simp at hk;exact⟨s,rfl,hk.symm⟩
  .cases hk
 have H:∀ t,¬(Seg.U ⟨pre++post,0,pre.length,ss.map .val,st,λ_=>st.own⟩ t):=by
  rintro t ⟨i,ob,y,k,_,hk,_,hm⟩
  obtain⟨s,_,rfl⟩:=M i k hk;cases hm
 have O:∀ i id ob,Seg.kd ⟨pre++post,0,pre.length,ss.map .val,st,λ_=>st.own⟩ i≠some (.bst id ob):=by
  intro i id ob hk;obtain⟨s,_,e⟩:=M i _ hk;cases e
 have E:∀ i,Seg.zJ ⟨pre++post,0,pre.length,ss.map .val,st,λ_=>st.own⟩ i=puts ((pre++post).take i) (ss.take i) st:=by
  intro i;unfold Seg.zJ;have I:(ss.map FK.val).map FK.sym=ss:=by
   rw[List.map_map];have:(FK.sym∘FK.val)=λs=>s:=rfl
   rw[this,List.map_id']
  simp only[List.drop_zero,Nat.sub_zero];rw[I]
 have A:∀ i,i<=pre.length->(pre++post).take i=pre.take i:=λi hi=>by rw[List.take_append_of_le_length hi]
 refine RegI.seg (pos:=0) (hi:=pre.length) (ss.map .val) (λ_=>st.own) [] st.own ?_ ?_ (.inl J) ?_
 .refine⟨X,⟨Nat.zero_le _,by simp,by simp[L]⟩,λt _ _ h=>absurd h (H t),λi t ob m h=>absurd ⟨i,ob,h⟩ (H t),λi j id ob ob' h=>absurd h (O i id ob),λ_ id ob h=>⟨h,λi ob hk=>absurd hk (O i id ob)⟩,?_⟩
  intro i y k hy hk;obtain⟨s,hs,rfl⟩:=M i k hk;have hi:i<pre.length:=by
   have:=(List.getElem?_eq_some_iff.1 hs).1
   omega
  have N:pre[i]?=some y:=by
   have:(pre++post)[i]?=pre[i]?:=List.getElem?_append_left hi
   rw[<-this];exact hy
  obtain⟨s',B,S,W⟩:=Ji Z N;rw[hs] at B;cases B;refine⟨S,λt _=>H t,?_,C s (List.mem_of_getElem? hs)⟩
  show DStep P (pre++post) y (Seg.zJ ⟨pre++post,0,pre.length,ss.map .val,st,λ_=>st.own⟩ i) s
  rw[E,A i (by omega)]
  exact W
 .refine⟨λt ob h=>by simp at h,by simp,rfl,λ_ id ob h=>.inr ⟨?_,λi ob=>O i id ob⟩⟩
  have T:∀ {l:List (Nat×Obj')},(l.map (·.1)).Nodup->(id,ob)∈l->za l id=some ob:=by
   intro l;induction l with
   |nil=>intro _ h;cases h
   |cons x r ih=>
    intro hn h;obtain⟨k,u⟩:=x;simp only[List.map_cons,List.nodup_cons] at hn;simp only[za];rcases List.mem_cons.1 h with e | h
    .cases e;simp
    .have H0:k≠id:=by intro e;subst e;exact hn.1 (List.mem_map.2 ⟨_,h,rfl⟩)
     rw[if_neg H0];exact ih hn.2 h
  exact T F h
 .have V:Seg.fin ⟨pre++post,0,pre.length,ss.map .val,st,λ_=>st.own⟩ [] st.own=puts pre ss st:=by
   unfold Seg.fin;simp only[E,A pre.length (Nat.le_refl _),List.take_length];have H1:ss.take pre.length=ss:=by rw[List.take_of_length_le (by omega)]
   obtain⟨p1,p2,p3,p4,p5⟩:=ZA pre ss st;rw[H1];simp only[List.length_nil,Nat.add_zero,vG,vk,List.nil_append];cases hp:puts pre ss st with
   |mk n next slots own base moved=>
    rw[hp] at p1 p2 p3 p4 p5;simp only at p1 p2 p3 p4 p5
    subst p1;subst p2;subst p3;subst p4;subst p5;rfl
  rw[V];refine JC (k:=pre.length) (by simp) (by simp) (λi h1 h2=>?_) hd
  have:=List.all_eq_true.1 G i (List.mem_range.2 h2)
  rw[Bool.or_eq_true,Nat.ble_eq] at this;exact this.elim (λe=>by omega) λe=>e
theorem G4(F:P.follows .mixedOrders=true)(m:Nat){id:Nat}{ops:List Oper}{Q:DE->St->Prop}(K:yv ops=true)(J:decide (m<ops.length)=true)(E:qC ops m=true)(H:UX ops m=true)
  (G:(st.own.map (·.1)).Nodup) (h:YF P ops st.next (gC P (Q .normal) (ops.drop m)) (ops.take m) st):Triple P (.region id ops.toArray true) Q st:=by
 have J:m<ops.length:=of_decide_eq_true J
 have e:ops.take m++ops.drop m=ops:=List.take_append_drop m ops
 have L:(ops.take m).length=m:=by rw[List.length_take];omega
 have:=zf8 (P:=P) (st:=st) (pre:=ops.take m) (post:=ops.drop m) (id:=id) (Q:=Q) F (by rw[e];exact K) (by intro e2;have:=congrArg List.length e2;rw[List.length_drop] at this;simp at this;omega) (by rw[e,L];exact E) (by rw[e,L];exact H) G (by rw[e];exact h)
 rw[e] at this
 exact this
attribute [simp] YF gC
end
section
variable {P:Program} {all:List Oper} {st:St} {Q:DE->St->Prop}
def zif(P:Program)(ib n0:Nat)(st:St)(t:Nat)(ad x:Sym)(K:Nat->Obj'->Prop):Prop:=
 match TI.of P t,ad with
 |some ti,.bp id off=>match st.look id with
  |some (.box T cells)=>match yP x with
   |some l=>(id=ib/\l.length=ti.size/\off+l.length<=cells.length/\Sym.los n0 (splice cells off l))/\K id (.box T (splice cells off l))
   |none=>False
  |_=>False
 |_,_=>False
def M4(ib:Nat)(st:St)(b:Bool):St:={st with own:=if b=true then st.own else st.own.filter λx=>!Nat.beq x.1 ib}
def M5(P:Program)(all:List Oper)(n0:Nat)(dp:Nat->Bool)(ib:Nat):Nat->List Oper->St->List Sym->(St->List Sym->Prop)->Prop
 |_,[],st,ss,K=>K st ss
 |i,o::r,st,ss,K=>zY o.dst st.n=true/\qP P all o (M4 ib st (dp i)) (λs=>Sym.lo n0 s/\M5 P all n0 dp ib (i+1) r (st.put o.dst s) (s::ss) K)
attribute [simp] zif M5 M4
end
end Go.V
namespace Go.V
variable [Dr] [Ov]
open Go.RowKit
def JH(P:Program)(n0:Nat)(st:St)(t id:Nat)(ad x:Sym)(K:Obj'->Prop):Prop:=
 match TI.of P t,yP x with
 |some ti,some l=>match ad,st.look id with
  |.bp id' off,some (.box T cells)=>(id'=id/\l.length=ti.size/\off+l.length<=cells.length/\Sym.los n0 (splice cells off l))/\K (.box T (splice cells off l))
  |.ap id' sz i off,some (.arr T sz' rows)=>match yM l with
   |some ds=>(id'=id/\sz=sz'/\i<rows.length/\ds.length=ti.size/\off+ds.length<=(rows.getD i []).length)/\K (.arr T sz (rows.set i (splice (rows.getD i []) off ds)))
   |none=>False
  |_,_=>False
 |_,_=>False
def uo(ids:List Nat)(st:St):St:={st with own:=st.own.filter λx=>!ids.contains x.1}
def unseen(all:List Oper)(m i:Nat):List Nat->List Nat
 | []=>[]
 |id::r=>if ug all 4 m i=true then unseen all (m+1) i r else id::unseen all (m+1) i r
def YG(P:Program)(all:List Oper)(n0 m:Nat)(ids:List Nat):Nat->List Oper->St->List Sym->(St->List Sym->Prop)->Prop
 |_,[],st,ss,K=>K st ss
 |i,o::r,st,ss,K=>zY o.dst st.n=true/\qP P all o (uo (unseen all m i ids) st) (λs=>Sym.lo n0 s/\YG P all n0 m ids (i+1) r (st.put o.dst s) (s::ss) K)
def YH(P:Program)(n0:Nat)(st:St):List Oper->List Nat->List (Nat×Obj')->(List (Nat×Obj')->Prop)->Prop
 | [],[],bs,K=>K bs
 |o::r,id::ids,bs,K=>(o.guard=none/\o.dst=none/\(bs.map (·.1)).contains id=false)/\match o.op with
  |.store t (.tmp j) x=>JH P n0 st t id (st.val (.tmp j)) (st.val x) λob=>YH P n0 st r ids (bs++[(id,ob)]) K
  |_=>False
 |_,_,_,_=>False
def kz:List (Nat×Obj')->List (Nat×Obj')->List (Nat×Obj')
 | [],own=>own
 |(id,ob)::r,own=>kz r (zD id ob own)
section
variable {P:Program} {all:List Oper} {st:St} {Q:DE->St->Prop}
theorem M6{n0 m:Nat}{ids:List Nat}{K:St->List Sym->Prop}:∀ {l:List Oper} {i:Nat} {st:St} {rs:List Sym},YG P all n0 m ids i l st rs K ->
  ∃ ss:List Sym,ss.length=l.length/\K (puts l ss st) (ss.reverse++rs)/\∀ j o,l[j]?=some o->∃ s,ss[j]?=some s/\zY o.dst st.n=true/\DStep P all o (uo (unseen all m (i+j) ids) (puts (l.take j) (ss.take j) st)) s/\Sym.lo n0 s
 | [],i,st,rs,h=>⟨[],rfl,by simp only[YG] at h;simpa[puts] using h,λj o H=>by simp at H⟩
 |x::r,i,st,rs,h=>by
  simp only[YG] at h;obtain⟨G,h⟩:=h;obtain⟨s,F,h2,E⟩:=Qn h;obtain⟨ss,q1,q2,q3⟩:=M6 E;refine⟨s::ss,by simp[q1],by simpa[puts] using q2,λj o H=>?_⟩
  cases j with
  |zero=>
   simp at H;subst H
   exact⟨s,rfl,G,by simpa[puts] using F,h2⟩
  |succ j=>
   obtain⟨s',e1,e2,e3,e4⟩:=q3 j o (by simpa using H)
   refine⟨s',by simpa using e1,?_,?_,e4⟩
   .have:(st.put x.dst s).n=st.n:=by unfold St.put;split <;> rfl
    rw[this] at e2;exact e2
   .rw[show i+(j+1)=i+1+j by omega]
    simpa[puts] using e3
theorem M7(ids:List Nat):∀ (l:List Oper) (ss:List Sym) (st:St),puts l ss (uo ids st)=uo ids (puts l ss st)
 | [],ss,st=>by simp[puts]
 |o::r,[],st=>by simp[puts]
 |o::r,s::ss,st=>by
  have:(uo ids st).put o.dst s=uo ids (st.put o.dst s):=by
   unfold uo St.put;cases o.dst <;> rfl
  simp only[puts];rw[this,M7 ids r ss]
theorem M8(o':List (Nat×Obj')):∀ (l:List Oper) (ss:List Sym) (st:St),(puts l ss {st with own:=o' }).slots=(puts l ss st).slots
 | [],ss,st=>by simp[puts]
 |y::r,[],st=>by simp[puts]
 |y::r,s::ss,st=>by
  simp only[puts];have:({st with own:=o' }:St).put y.dst s = {(st.put y.dst s) with own:=o' }:=by
   unfold St.put;cases y.dst <;> rfl
  rw[this];exact M8 o' r ss (st.put y.dst s)
theorem M9:∀ {l:List Oper} {ss:List Sym} {st:St},(∀ o∈l,o.dst=none)->puts l ss st=st
 | [],ss,st,_=>by simp[puts]
 |o::r,[],st,_=>by simp[puts]
 |o::r,s::ss,st,h=>by
  simp only[puts];rw[h o List.mem_cons_self];exact M9 λx H=>h x (List.mem_cons_of_mem _ H)
theorem G5{ids:List Nat}:∀ {l:List (Nat×Obj')} {id:Nat} {o:Obj'},za (l.filter λx=>!ids.contains x.1) id=some o->id∉ids/\za l id=some o
 | [],id,o,h=>by simp[za] at h
 |(k,v)::r,id,o,h=>by
  by_cases H:ids.contains k=true
  .rw[List.filter_cons_of_neg (by show ¬(!ids.contains k)=true;rw[H];simp)] at h
   obtain⟨G,h2⟩:=G5 h;refine⟨G,?_⟩
   simp only[za];rw[if_neg (λe=>by subst e;exact G (by simpa using H))];exact h2
  .rw[List.filter_cons_of_pos (by show(!ids.contains k)=true;rw[Bool.eq_false_iff.2 H];rfl)] at h
   simp only[za] at h ⊢;split at h
   .rename_i e;subst e;rw[if_pos rfl];exact⟨λF=>H (by simpa using F),h⟩
   .rename_i e;rw[if_neg e];exact G5 h
theorem Mc{i:Nat}:∀ {ids:List Nat} {m j id:Nat},ids[j]?=some id->ug all 4 (m+j) i=true\/id∈unseen all m i ids
 | [],m,j,id,h=>by simp at h
 |x::r,m,0,id,h=>by
  simp at h;subst h
  unfold unseen;by_cases c:ug all 4 m i=true
  .exact .inl c
  .rw[if_neg c];exact .inr List.mem_cons_self
 |x::r,m,j+1,id,h=>by
  have ih:=Mc (i:=i) (ids:=r) (m:=m+1) (j:=j) (id:=id) (by simpa using h)
  rw[show m+(j+1)=m+1+j by omega]
  refine ih.imp_right λhm=>?_
  unfold unseen;split
  .exact hm
  .exact List.mem_cons_of_mem _ hm
def G6(P:Program)(n0:Nat)(st:St)(o:Oper)(id:Nat)(ob:Obj'):Prop:=
 o.guard=none/\o.dst=none/\ob.lo n0/\∃ o0,st.look id=some o0/\∀ (S:Seg) (k:Nat),(∀ y,(S.zJ k).val y=st.val y)->∀ (st':St) (K:St->Prop),Knows S k o st'->st'.look id=some o0->K {st' with own:=zD id ob st'.own}->zS P o st' K
theorem zhh{n0 t j id:Nat}{x:Operand}{o:Oper}{K:Obj'->Prop}(E:o.op = .store t (.tmp j) x)(M:o.guard=none)(O:o.dst=none)(h:JH P n0 st t id (st.val (.tmp j)) (st.val x) K):∃ ob,G6 P n0 st o id ob/\K ob:=by
 unfold JH at h
 have kn:∀ {S:Seg} {k:Nat} {st':St},(∀ y,(S.zJ k).val y=st.val y)->Knows S k o st'->(st.val (.tmp j)≠.junk->st'.val (.tmp j)=st.val (.tmp j))/\(st.val x≠.junk->st'.val x=st.val x):=λ{S k st'} Q V=>by
  refine⟨λX=>?_,λX=>?_⟩
  .rw[V.2 (.tmp j) (by rw[E];simp[Op.operands]) (by rw[Q];exact X),Q]
  .rw[V.2 x (by rw[E];simp[Op.operands]) (by rw[Q];exact X),Q]
 split at h
 .rename_i ti l L hl
  have Y:st.val x≠.junk:=by intro e;rw[e] at hl;simp[yP] at hl
  split at h
  .rename_i id' off T cells F J
   obtain⟨⟨rfl,c1,c2,c3⟩,Z⟩:=h;refine⟨.box T (splice cells off l),⟨M,O,c3,_,J,λS k Q st' K V H G=>?_⟩,Z⟩
   obtain⟨k1,k2⟩:=kn Q V;unfold zS;rw[E];simp only;rw[O,L];simp only;unfold kh;rw[k1 (by rw[F];simp),F,k2 Y];simp only
   rw[H];simp only;rw[hl];simp only;exact⟨c1,c2,G⟩
  .rename_i id' sz i off T sz' rows F J
   split at h
   .rename_i ds hds
    obtain⟨⟨rfl,rfl,c1,c2,c3⟩,Z⟩:=h;refine⟨.arr T sz (rows.set i (splice (rows.getD i []) off ds)),⟨M,O,trivial,_,J,λS k Q st' K V H G=>?_⟩,Z⟩
    obtain⟨k1,k2⟩:=kn Q V;unfold zS;rw[E];simp only;rw[O,L];simp only;unfold kh;rw[k1 (by rw[F];simp),F,k2 Y];simp only
    rw[H];simp only;rw[hl];simp only;rw[hds];simp only;first | exact⟨⟨rfl,c1,c2,c3⟩,G⟩ | exact⟨⟨trivial,c1,c2,c3⟩,G⟩ | exact⟨trivial,c1,c2,c3,G⟩ | exact⟨c1,c2,c3,G⟩ | (trace_state;exact⟨⟨c1,c2,c3⟩,G⟩)
   .exact h.elim
  .exact h.elim
 .exact h.elim
theorem Md{n0:Nat}{K:List (Nat×Obj')->Prop}:∀ {l:List Oper} {ids:List Nat} {bs:List (Nat×Obj')},YH P n0 st l ids bs K->∃ obs:List (Nat×Obj'),obs.map (·.1)=ids/\l.length=ids.length/\(∀ (j:Nat) (o:Oper) (x:Nat×Obj'),l[j]?=some o->obs[j]?=some x->G6 P n0 st o x.1 x.2)/\(∀ id∈bs.map (·.1),id∉ids)/\ids.Nodup/\K (bs++obs)
 | [],[],bs,h=>⟨[],rfl,rfl,λj o x G=>by simp at G,λ_ _=>by simp,List.nodup_nil,by simp only[YH] at h;simpa using h⟩
 | [],_::_,bs,h=>h.elim
 |_::_,[],bs,h=>h.elim
 |o::r,id::ids,bs,h=>by
  unfold YH at h;obtain⟨⟨F,E,J⟩,h⟩:=h;split at h
  .rename_i t j x H
   obtain⟨ob,L,h⟩:=zhh H F E h;obtain⟨obs,q1,q2,q3,q4,q5,q6⟩:=Md h;have hid:id∉bs.map (·.1):=by
    intro M;have:(bs.map (·.1)).contains id=true:=by simpa using M
    rw[J] at this;cases this
   refine⟨(id,ob)::obs,by simp[q1],by simp[q2],λj o' x' G O=>?_,λk Q M=>?_,List.nodup_cons.2 ⟨q4 id (by simp),q5⟩,by simpa using q6⟩
   .cases j with
    |zero=>simp at G O;subst G;subst O;exact L
    |succ j=>exact q3 j o' x' (by simpa using G) (by simpa using O)
   .rcases List.mem_cons.1 M with rfl | M
    .exact hid Q
    .exact q4 k (by rw[List.map_append];exact List.mem_append.2 (.inl Q)) M
  .exact h.elim
theorem Me:∀ {l own:List (Nat×Obj')},(∀ x∈l,x.1∈own.map (·.1))->(kz l own).map (·.1)=own.map (·.1)
 | [],own,_=>rfl
 |(id,ob)::r,own,h=>by
  have H:=Yh (v:=ob) (h _ List.mem_cons_self);unfold kz;rw[Me λx G=>by rw[H];exact h x (List.mem_cons_of_mem _ G),H]
theorem MH:∀ {l own:List (Nat×Obj')} {id:Nat} {o:Obj'},(∀ x∈l,x.1∈own.map (·.1))->(own.map (·.1)).Nodup->(l.map (·.1)).Nodup->(id,o)∈kz l own->(id,o)∈l\/((id,o)∈own/\id∉l.map (·.1))
 | [],own,id,o,_,_,_,h=>.inr ⟨h,by simp⟩
 |(k,ob)::r,own,id,o,G,F,E,h=>by
  have K:=Yh (v:=ob) (G _ List.mem_cons_self);have E:=List.nodup_cons.1 E;unfold kz at h;rcases MH (λx J=>by rw[K];exact G x (List.mem_cons_of_mem _ J)) (by rw[K];exact F) E.2 h with h | ⟨h,h2⟩
  .exact .inl (List.mem_cons_of_mem _ h)
  .rcases Yi F h with⟨rfl,rfl⟩ | ⟨H,h⟩
   .exact .inl List.mem_cons_self
   .exact .inr ⟨h,λL=>(List.mem_cons.1 L).elim H h2⟩
theorem G7(Z:P.follows .mixedOrders=true)(m:Nat)(ids:List Nat){id:Nat}{ops:List Oper}(N:yv ops=true)(Y:Nat.ble (m+ids.length) ops.length=true)(O:Nat.blt 0 ids.length=true)(A:UX ops (m+ids.length-1)=true)(K:(st.own.map (·.1)).Nodup)
  (h:YG P ops st.next m ids 0 (ops.take m) st [] (λstF _=>YH P st.next {stF with own:=st.own} ((ops.drop m).take ids.length) ids [] (λbs=>gC P (Q .normal) (ops.drop (m+ids.length)) {st with slots:=stF.slots,own:=kz bs st.own}))) :
  Triple P (.region id ops.toArray true) Q st:=by
 refine Qx Z N ?_
 rw[Nat.ble_eq] at Y
 have O:0<ids.length:=by simpa using O
 obtain⟨ss,H,hK,T⟩:=M6 h
 have W:(ops.take m).length=m:=by rw[List.length_take];omega
 rw[W] at H
 obtain⟨p1,p2,p3,p4,p5⟩:=ZA (ops.take m) ss st
 generalize hE:puts (ops.take m) ss st=stE at hK p1 p2 p3 p4 p5
 obtain⟨obs,q1,q2,q3,_,q5,hK⟩:=Md hK
 rw[List.nil_append] at hK
 have H1:obs.length=ids.length:=by rw[<-q1,List.length_map]
 have L:∀ j x,obs[j]?=some x->∃ o,ops[m+j]?=some o/\G6 P st.next {stE with own:=st.own} o x.1 x.2:=by
  intro j x hx;have hj:j<ids.length:=by have:=(List.getElem?_eq_some_iff.1 hx).1;omega
  have ho:((ops.drop m).take ids.length)[j]?=some (ops[m+j]'(by omega)):=by
   rw[List.getElem?_take,if_pos hj,List.getElem?_drop];exact List.getElem?_eq_getElem _
  exact⟨_,List.getElem?_eq_getElem (by omega),q3 j _ x ho hx⟩
 have V:∀ x∈obs,x.1∈st.own.map (·.1):=by
  intro x hx;obtain⟨j,hj,e⟩:=List.mem_iff_getElem.1 hx;obtain⟨o,_,_,_,_,o0,B,_⟩:=L j x (by rw[List.getElem?_eq_getElem hj,e])
  exact List.mem_map.2 ⟨_,yp B,rfl⟩
 let ks:List FK:=ss.map .val++obs.map λx=>.bst x.1 x.2
 have H2:ks.length=m+ids.length:=by simp[ks,H,H1]
 let S:Seg:=⟨ops,0,m+ids.length,ks,st,λi=>if i<m then st.own.filter (λx=>!(unseen ops m i ids).contains x.1) else []⟩
 have J:∀ i,S.own0 i=if i<m then st.own.filter (λx=>!(unseen ops m i ids).contains x.1) else []:=λi=>rfl
 have H0:∀ i,S.kd i=if i<m then (ss[i]?).map .val else (obs[i-m]?).map λx=>.bst x.1 x.2:=by
  intro i;show(if 0<=i/\i<m+ids.length then ks[i-0]? else none)=_
  rw[Nat.sub_zero];by_cases h1:i<m
  .rw[if_pos (by omega),if_pos h1]
   simp only[ks];rw[List.getElem?_append_left (by simp;omega),List.getElem?_map]
  .rw[if_neg h1]
   by_cases h2:i<m+ids.length
   .rw[if_pos (by omega)]
    simp only[ks];rw[List.getElem?_append_right (by simp;omega),List.getElem?_map]
    simp[H]
   .rw[if_neg (by omega),List.getElem?_eq_none (by omega)];rfl
 have M:∀ i k,S.kd i=some k->(i<m/\∃ s,ss[i]?=some s/\k = .val s)\/(∃ j x,i=m+j/\obs[j]?=some x/\k = .bst x.1 x.2):=by
  intro i k hk;rw[H0] at hk;split at hk <;> rw[Option.map_eq_some_iff] at hk <;> obtain⟨s,e1,e2⟩:=hk
  .rename_i h1;exact .inl ⟨h1,s,e1,e2.symm⟩
  .exact .inr ⟨i-m,s,by omega,e1,e2.symm⟩
 have F:∀ {i id ob},S.kd i=some (.bst id ob)->∃ j,i=m+j/\obs[j]?=some (id,ob):=by
  intro i id ob hk;rcases M i _ hk with⟨_,s,_,e⟩ | ⟨j,x,e1,e2,e3⟩
  .cases e
  .cases e3;exact⟨j,e1,e2⟩
 have E:∀ u,¬S.U u:=by
  rintro u ⟨i,o,y,k,_,hk,_,hm⟩
  rcases M i k hk with⟨_,s,_,rfl⟩ | ⟨_,_,_,_,rfl⟩ <;> cases hm
 have C:∀ i,i<m->S.zJ i=uo (unseen ops m i ids) (puts (ops.take i) (ss.take i) st):=by
  intro i hi;unfold Seg.zJ;show puts ((ops.drop 0).take (i-0)) ((ks.map FK.sym).take (i-0)) {st with own:=S.own0 i}=_
  have Hb:(ks.map FK.sym).take i=ss.take i:=by
   simp only[ks,List.map_append,List.map_map];rw[show(FK.sym∘FK.val)=λs=>s from rfl,List.map_id',List.take_append_of_le_length (by omega)]
  rw[J,if_pos hi];simp only[List.drop_zero,Nat.sub_zero];rw[Hb];exact M7 _ _ _ st
 have G:∀ j,j<=ids.length->(S.zJ (m+j)).slots=stE.slots:=by
  intro j hj;unfold Seg.zJ;show(puts ((ops.drop 0).take (m+j-0)) ((ks.map FK.sym).take (m+j-0)) {st with own:=S.own0 (m+j)}).slots=_
  simp only[List.drop_zero,Nat.sub_zero];rw[M8];have e1:ops.take (m+j)=ops.take m++(ops.drop m).take j:=List.take_add ..
  have e2:(ks.map FK.sym).take (m+j)=ss++((obs.map λx=>FK.bst x.1 x.2).map FK.sym).take j:=by
   simp only[ks,List.map_append,List.map_map];rw[show(FK.sym∘FK.val)=λs=>s from rfl,List.map_id',List.take_append,List.take_of_length_le (by omega),H,Nat.add_sub_cancel_left]
  rw[e1,e2,IP (by rw[W,H]),M9,hE]
  intro o ho;obtain⟨i,hi,e⟩:=List.mem_iff_getElem.1 ho;rw[List.length_take,List.length_drop] at hi;have Hc:i<obs.length:=by omega
  obtain⟨o',X,_,hd,_⟩:=L i obs[i] (List.getElem?_eq_getElem Hc);rw[List.getElem_take,List.getElem_drop] at e;rw[List.getElem?_eq_getElem (by omega),e] at X
  cases X;exact hd
 have Hd:∀ j,j<=ids.length->∀ y,(S.zJ (m+j)).val y=({stE with own:=st.own}:St).val y:=by
  intro j hj y;cases y with
  |tmp u=>simp only[St.val];rw[G j hj]
  |_=>rfl
 have cuts:∀ i,m+ids.length-1<i->i<ops.length->qC ops i=true:=by
  intro i h1 h2;have:=List.all_eq_true.1 A i (List.mem_range.2 h2)
  rw[Bool.or_eq_true,Nat.ble_eq] at this;exact this.elim (λe=>by omega) λe=>e
 refine RegI.seg (pos:=0) (hi:=m+ids.length) ks S.own0 [] (kz obs st.own) ?_ ?_ ?_ ?_
 .refine⟨N,⟨Nat.zero_le _,Y,by simp[H2]⟩,λu _ _ hu=>absurd hu (E u),λi u o m' hc=>absurd ⟨i,o,hc⟩ (E u),?_,?_,?_⟩
  .intro a b id ob1 ob2 h1 h2
   obtain⟨j1,rfl,e1⟩:=F h1;obtain⟨j2,rfl,e2⟩:=F h2;have g1:ids[j1]?=some id:=by rw[<-q1,List.getElem?_map,e1];rfl
   have g2:ids[j2]?=some id:=by rw[<-q1,List.getElem?_map,e2];rfl
   obtain⟨l1,g1⟩:=List.getElem?_eq_some_iff.1 g1;obtain⟨l2,g2⟩:=List.getElem?_eq_some_iff.1 g2;rw[(List.getElem_inj q5).1 (g1.trans g2.symm)]
  .intro i id o ho
   have ho:za (S.own0 i) id=some o:=ho
   rw[J] at ho;split at ho
   .obtain⟨h1,h2⟩:=G5 ho
    refine⟨h2,λm' ob' hk=>?_⟩
    obtain⟨j,rfl,e1⟩:=F hk;have g1:ids[j]?=some id:=by rw[<-q1,List.getElem?_map,e1];rfl
    rcases Mc (all:=ops) (i:=i) (m:=m) g1 with hw | hw
    .exact⟨4,hw⟩
    .exact absurd hw h1
   .simp[za] at ho
  .intro i o k ho hk
   have ho:ops[i]?=some o:=ho
   rcases M i k hk with⟨hi,s,hs,rfl⟩ | ⟨j,x,rfl,hx,rfl⟩
   .obtain⟨s',e1,e2,e3,e4⟩:=T i o (by rw[List.getElem?_take,if_pos hi];exact ho)
    rw[hs] at e1;cases e1;refine⟨e2,λu _=>E u,?_,e4⟩
    show DStep P ops o (S.zJ i) s
    rw[C i hi];rw[Nat.zero_add,List.take_take,Nat.min_eq_left (by omega)] at e3
    exact e3
   .obtain⟨o',X,hg,hd,Hh,o0,B,Hi⟩:=L j x hx
    rw[ho] at X;cases X;have hj:j<obs.length:=(List.getElem?_eq_some_iff.1 hx).1
    exact⟨by rw[hd];rfl,hg,hd,λu _=>E u,Hh,o0,B,Hi S (m+j) (Hd j (by omega))⟩
 .refine⟨λu ob' hm=>by simp at hm,by simp,Me V,λhn id o Hp=>?_⟩
  rcases MH V K (by rw[q1];exact q5) Hp with h1 | ⟨h1,h2⟩
  .obtain⟨j,hj,e⟩:=List.mem_iff_getElem.1 h1
   refine .inl ⟨m+j,?_⟩
   rw[H0,if_neg (by omega),Nat.add_sub_cancel_left,List.getElem?_eq_getElem hj,e];rfl
  .refine .inr ⟨Fv K h1,λi ob' hk=>?_⟩
   obtain⟨j,_,e⟩:=F hk;exact h2 (List.mem_map.2 ⟨_,List.mem_of_getElem? e,rfl⟩)
 .rcases Nat.eq_or_lt_of_le Y with e | e
  .exact .inr e
  .exact .inl (cuts (m+ids.length) (by omega) e)
 .have I:Seg.fin ⟨ops,0,m+ids.length,ks,st,S.own0⟩ [] (kz obs st.own) = {st with slots:=stE.slots,own:=kz obs st.own}:=by
   unfold Seg.fin;rw[show(Seg.zJ ⟨ops,0,m+ids.length,ks,st,S.own0⟩ (m+ids.length)).slots=stE.slots from G ids.length (Nat.le_refl _)];rfl
  rw[I];exact JC Y rfl (λi h1 h2=>cuts i (by omega) h2) hK
attribute [simp] JH YG uo unseen YH kz
end
end Go.V

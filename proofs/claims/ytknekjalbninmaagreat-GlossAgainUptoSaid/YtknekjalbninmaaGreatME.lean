/- Contracts and plain laws of this seat: part ME. It needs no conditions. -/
import Derived.Test.YtknekjalbninmaaGreatMD
import Derived.Test.YtknekjalbninmaaGreatMA
import Derived.Test.YtknekjalbninmaaGreatB1
import Derived.Test.YtknekjalbninmaaGreatMB
import Derived.Test.YtknekjalbninmaaGreatW1
set_option maxHeartbeats 32000000
set_option linter.unusedVariables false
set_option linter.unusedSimpArgs false
set_option linter.unusedSectionVars false
set_option maxRecDepth 100000
namespace Go.V
open Go Go.Proofs
def St.jB(st:St):St:={st with moved:=st.moved.filter (λi=>decide (i<st.base))}
theorem Mods.jB{X:Nat->Prop}{w0:Base}{st:St}{β:Nat->Value}{a:Act}{w:World}(G:Mods X w0 st β a w):Mods X w0 st.jB β a w:=
 {G with still:=⟨G.still.1,λid hid hk=>G.still.2 id hid (λH=>hk (List.mem_filter.2 ⟨H,decide_eq_true hid⟩))⟩}
def kU(Q:St->Prop):St->Prop:=λst=>Q st.jB
theorem GG{P:Program}(F:P.follows .mixedOrders=true){f:Nat}{fn:Func}{c:Code}(E:P.funcs[f]?=some fn)(K:fn.body=some c)(H:callable P f=true)
  {args:List Sym} {own:List (Nat×Obj')} {n:Nat} {s:Sym} {nx:Nat} {own':List (Nat×Obj')} {mv:List Nat} (J:Sym.los n args)
  (h:ev P c (jI (kU (uO P fn.results.toList n s nx own' mv))) (initC fn.ntmps args own n)):zI P f args own n s nx own' mv:=by
 refine⟨H,λX w0 β w vs hβ L hs=>?_⟩
 refine calls_of_wp E K ?_
 refine wp_mono (zL F h X w0 _ _ w (L.initC hs J)) ?_
 rintro e a' w' ⟨de,st',β',M,O,G⟩
 cases e <;> cases de <;> simp only[yv] at M
 .obtain⟨v,Q,T,V,Y⟩:=uP L.defers G.jB O
  exact⟨G.defers.trans L.defers.symm,v,Q,β',v,rfl,T,V,Y⟩
 .exact O.elim
 .obtain⟨v,Q,T,V,Y⟩:=uP L.defers G.jB O
  exact⟨G.defers.trans L.defers.symm,v,Q,β',v,rfl,T,V,Y⟩
abbrev yI:=List (List Prt)×Bool
def yZ(x:yI)(a:List Prt):yI×Bool:=if x.1.length=200 then ((x.1,true),false) else ((insL (λo=>yh a o) a x.1,x.2),true)
def xw(x:yI):List (Nat×Obj'):=[(0,.box 241 [.ar 2]),(1,.box 4 [.d (.bool x.2)]),(2,.arr 39 1 (x.1.map λa=>[zm a]))]
theorem zl2(x:yI)(Y:x.1.length<=200)(V:∀ b∈x.1,b.length<2^40)(a:List Prt)(Z:a.length<2^40):
  zI Tryz.prog 269 [.d (zZ a),.bp 0 0,.bp 1 0] (xw x) 3 (.d (.bool (yZ x a).2)) 3 (xw (yZ x a).1) [2]:=by
 obtain⟨out,full⟩:=x
 simp only at Y V
 refine GG mixed Tryz.func269 rfl c_269 (by simp[Sym.los,Sym.lo]) ?_
 unfold yZ
 by_cases E:out.length=200
 .have G:(out.length:Int)=200:=by omega
  simp+decide[Tryz.f269,xw,int,zZ,zm,E,G,kU,St.jB];done
 have G:¬(out.length:Int)=200:=by omega
 simp+decide[Tryz.f269,xw,int,zZ,zm,E,G,kU,St.jB]
 refine xn mixed (λk:Nat=>{n:=40,next:=4,slots:=[(1,.bp 0 0),(2,.bp 1 0),(3,.bp 3 0),(5,.d (int k))],own:=(3,.box 39 [.d (zm a)])::xw (out,full),base:=3})
  (λk=>k<=out.length/\qR (λo=>yh a o) out k=qR (λo=>yh a o) out out.length) (λk=>k) out.length ⟨Nat.le_refl _,rfl⟩ ?_ ?_
 .simp+decide[xw,int,zZ,zm]
 intro k ⟨A,H⟩
 by_cases X:0<k
 case neg=>
  have B:qR (λo=>yh a o) out out.length=k:=by
   rw[<-H];have:k=0:=by omega
   subst this;rfl
  have O:¬(0:Int)<k:=by omega
  refine zL mixed ?_
  simp+decide[xw,int,zZ,zm,I64,X,O];unfold insL;rw[B];clear H;generalize k=p at *;refine⟨by omega,by unfold maxLen;omega,?_⟩
  refine J7 mixed 7 (by rfl) (by rfl) (by rfl) (by rfl) (by simp) ?_
  have K:¬(p:Int)=(out.length:Int)+1:=by omega
  by_cases Q:p=out.length
  .subst Q
   simp+decide[int,zm,u32,I64,kU,St.jB,K];exact⟨⟨by omega,by omega⟩,by omega,by omega,by omega⟩
  .have T:p<out.length:=by omega
   have F:¬(p:Int)=(out.length:Int):=by omega
   have C:p+(out.length+1-p)=out.length+1:=by omega
   obtain⟨a1,a2,a3⟩:=I5 (R:=out.map (λa=>[zm a])) (by intro r I;obtain⟨y,_,rfl⟩:=List.mem_map.1 I;rfl) (nr:=[.sl []]) rfl (zm a) (p:=p) (L:=out.length) (by simp) T
   unfold Yd at a2 a3;simp only[zm] at a1 a2 a3;simp+decide[int,zm,u32,I64,kU,St.jB,K,F,C];refine⟨⟨by omega,by omega⟩,⟨by omega,A⟩,by omega,a1,by omega,by omega,by omega,a2,a3⟩
 obtain⟨j,rfl⟩:∃ j,k=j+1:=⟨k-1,by omega⟩
 have M:j<out.length:=by omega
 have J:(j:Int)<out.length:=by omega
 obtain⟨o,eo⟩:∃ o,out[j]=o:=⟨_,rfl⟩
 have e1:out[j]?=some o:=by rw[List.getElem?_eq_getElem M,eo]
 have N:=zj3 a o (by omega) (by have:=V out[j] (List.getElem_mem M);rw[eo] at this;omega)
 rw[qR,e1] at H
 simp only at H
 refine zL mixed ?_
 simp+decide[xw,int,zZ,zm,I64,M,J,eo,e1]
 refine⟨by omega,?_⟩
 refine scp N ?_
 cases P:yh a o with
 |true=>
  rw[if_pos P] at H;simp+decide[xw,int,zZ,zm,I64,P];exact⟨by omega,j,⟨by omega,H⟩,by omega,rfl⟩
 |false=>
  rw[if_neg (by rw[P];decide)] at H
  simp+decide[xw,int,zZ,zm,I64,P];unfold insL;rw[<-H];rw[show(j:Int)+1=((j+1:Nat):Int) from by omega]
  clear H e1 eo M J X;generalize j+1=p at *;refine⟨by omega,by unfold maxLen;omega,?_⟩
  refine J7 mixed 7 (by rfl) (by rfl) (by rfl) (by rfl) (by simp) ?_
  have K:¬(p:Int)=(out.length:Int)+1:=by omega
  by_cases Q:p=out.length
  .subst Q
   simp+decide[int,zm,u32,I64,kU,St.jB,K];exact⟨⟨by omega,by omega⟩,by omega,by omega,by omega⟩
  .have T:p<out.length:=by omega
   have F:¬(p:Int)=(out.length:Int):=by omega
   have C:p+(out.length+1-p)=out.length+1:=by omega
   obtain⟨a1,a2,a3⟩:=I5 (R:=out.map (λa=>[zm a])) (by intro r I;obtain⟨y,_,rfl⟩:=List.mem_map.1 I;rfl) (nr:=[.sl []]) rfl (zm a) (p:=p) (L:=out.length) (by simp) T
   unfold Yd at a2 a3;simp only[zm] at a1 a2 a3;simp+decide[int,zm,u32,I64,kU,St.jB,K,F,C];refine⟨⟨by omega,by omega⟩,⟨by omega,A⟩,by omega,a1,by omega,by omega,by omega,a2,a3⟩
end Go.V
namespace Go.V
open Go Go.Proofs
section
variable {σ α:Type}
def xx(G:σ->α->σ×Bool):σ×Bool->List α->σ×Bool
 |z,[]=>z
 |z,a::r=>if z.2=false then z else xx G (G z.1 a) r
theorem Xa(G:σ->α->σ×Bool)(z:σ×Bool)(a:α)(r:List α):xx G z (a::r)=if z.2=false then z else xx G (G z.1 a) r:=rfl
theorem V8{G:σ->α->σ×Bool}{z:σ×Bool}(h:z.2=false):∀ l,xx G z l=z
 | []=>rfl
 |a::r=>by rw[Xa,if_pos h]
theorem JV{G:σ->α->σ×Bool}:∀ (z:σ×Bool) (l r:List α),xx G z (l++r)=xx G (xx G z l) r
 |z,[],r=>rfl
 |z,a::l,r=>by
  rw[List.cons_append,Xa,Xa];by_cases h:z.2=false
  .rw[if_pos h,if_pos h]
   exact(V8 h r).symm
  .rw[if_neg h,if_neg h]
   exact JV _ l r
end
def qf(g:Lang):Nat->List Prt->Nat->List (List Prt)
 |0,p,_=>[p]
 |f+1,p,i=>(List.range (qk g.lex (p.getD i ⟨0,0,0⟩).entry).length).flatMap λ(k:Nat)=>qf g f (p.set i ⟨(p.getD i ⟨0,0,0⟩).entry,(p.getD i ⟨0,0,0⟩).alt,k⟩) (i+1)
def allI(x:yI):Prop:=x.1.length<=200/\∀ b∈x.1,b.length<=4
theorem zj5{x:yI}(h:allI x){a:List Prt}(H:a.length<=4):allI (yZ x a).1:=by
 unfold yZ
 split
 .exact h
 .rename_i hl
  refine⟨by simp only[V7];have:=h.1;omega,λb G=>?_⟩
  rcases Zo.1 G with e | e
  .rw[e];exact H
  .exact h.2 b e
theorem GH:∀ (l:List (List Prt)) (z:yI×Bool),allI z.1->(∀ a∈l,a.length<=4)->allI (xx yZ z l).1
 | [],z,h,_=>h
 |a::l,z,h,H=>by
  rw[Xa];split
  .exact h
  .exact GH l _ (zj5 h (H a (List.mem_cons_self ..))) λb G=>H b (List.mem_cons_of_mem _ G)
theorem GI(g:Lang):∀ (f:Nat) (p:List Prt) (i:Nat),∀ q∈qf g f p i,q.length=p.length
 |0,p,i,q,h=>by rw[qf,List.mem_singleton] at h;rw[h]
 |f+1,p,i,q,h=>by
  rw[qf,List.mem_flatMap] at h;obtain⟨k,_,h⟩:=h;rw[GI g f _ _ q h,List.length_set]
def vo(g:Lang)(f:Nat)(p:List Prt)(i k:Nat):List (List Prt):=(List.range k).flatMap λ(k:Nat)=>qf g f (p.set i ⟨(p.getD i ⟨0,0,0⟩).entry,(p.getD i ⟨0,0,0⟩).alt,k⟩) (i+1)
theorem I6(g:Lang)(f:Nat)(p:List Prt)(i k:Nat):vo g f p i (k+1)=vo g f p i k++qf g f (p.set i ⟨(p.getD i ⟨0,0,0⟩).entry,(p.getD i ⟨0,0,0⟩).alt,k⟩) (i+1):=by
 unfold vo;rw[List.range_succ,List.flatMap_append,List.flatMap_singleton]
theorem I7(g:Lang)(f:Nat)(p:List Prt)(i:Nat)(z:yI×Bool)(k:Nat)(h:(xx yZ z (vo g f p i k)).2=false):∀ d,xx yZ z (vo g f p i (k+d))=xx yZ z (vo g f p i k)
 |0=>rfl
 |d+1=>by
  rw[<-Nat.add_assoc,I6,JV,I7 g f p i z k h d];exact V8 h _
theorem I8{l:List Ent}(h:∀ e∈l,e.senses.length<2^40):∀ ids,(uU l ids).length<2^40
 | []=>by simp[uU]
 |x::r=>by
  unfold uU;split
  .unfold zJ
   cases H:l.find? (·.id=x) with
   |none=>simp[Ent.zero]
   |some e=>exact h e (List.mem_of_find?_eq_some H)
  .exact I8 h r
def JW(g:Lang)(f:Nat):Prop:=∀ (x:yI) (p:List Prt) (i:Nat),allI x->p.length<=4->i+f=p.length ->
 zI Tryz.prog 273 [.d g.d,.d (zm p),.d (int i),.fn 269 [.bp 0 0,.bp 1 0]] (xw x) 3 (.d (.bool (xx yZ (x,true) (qf g f p i)).2)) 3 (xw (xx yZ (x,true) (qf g f p i)).1) [2]
theorem zc5(g:Lang):JW g 0:=by
 intro x p i F E hi
 have G:(i:Int)=p.length:=by omega
 have H:=zl2 x F.1 (λb K=>by have:=F.2 b K;omega) p (by omega)
 rw[show xx yZ (x,true) (qf g 0 p i)=yZ x p from by simp[qf,xx]]
 generalize yZ x p=z at H
 obtain⟨zx,zb⟩:=z
 obtain⟨out,full⟩:=x
 obtain⟨zo,zf⟩:=zx
 refine GG mixed Tryz.func273 rfl c_273 (by simp[Sym.los,Sym.lo]) ?_
 simp+decide[Tryz.f273,xw,int,zm,zq,Lang.d,G]
 refine⟨λa _=>rfl,by omega,by unfold maxLen;omega,?_⟩
 refine zG.ON [4] rfl [0,1,2] [.d (zZ p),.bp 0 0,.bp 1 0] (xw (out,full)) (by rfl) (by simp[yu,ren,rho,zZ,zm]) (by simp) ?_ H ?_
 .simp[Fits,ku,xw,St.look,zc,vY,yu,ren,rho,int,List.range,List.range.loop,zm]
 simp+decide[int,zm,xw,kU,St.jB]
theorem zc6(g:Lang)(Z:LightF g)(A:LangC g)(f:Nat)(ih:JW g f):JW g (f+1):=by
 intro x p i B C hi
 have X:¬(i:Int)=p.length:=by omega
 have L:i<p.length:=by omega
 have K:(i:Int)<p.length:=by omega
 obtain⟨q,eq⟩:∃ q,p[i]=q:=⟨_,rfl⟩
 have e1:p[i]?=some q:=by rw[List.getElem?_eq_getElem L,eq]
 have eg:p.getD i ⟨0,0,0⟩=q:=by rw[List.getD_eq_getElem?_getD,e1];rfl
 have I:=Z.Y9 A
 have N:=Jh g.lex q.entry I.lex.len I.lex.senses
 refine GG mixed Tryz.func273 rfl c_273 (by simp[Sym.los,Sym.lo]) ?_
 simp+decide[Tryz.f273,xw,int,zm,zq,Lang.d,X,Prt.row,L,K,e1,eq]
 refine scp N ?_
 simp+decide[xw,int,zm,zq,Lang.d,ye]
 unfold qf
 rw[eg]
 obtain⟨ns,ens⟩:∃ ns,(qk g.lex q.entry).length=ns:=⟨_,rfl⟩
 have Y:ns<2^40:=by
  rw[<-ens];unfold qk;rw[Ul];exact I8 I.lex.senses _
 rw[ens]
 refine xn mixed (λk:Nat=>{n:=49,next:=4,slots:=[(1,.d (zm p)),(2,.d (int i)),(3,.fn 269 [.bp 0 0,.bp 1 0]),(4,.bp 3 0),(29,.d (int ns)),(30,.d (int k))],own:=(3,.box 36 (zq g.d))::xw (xx yZ (x,true) (vo g f p i k)).1,base:=3,moved:=[2,4]})
  (λk=>k<=ns/\(xx yZ (x,true) (vo g f p i k)).2=true) (λk=>ns-k) 0 ⟨Nat.zero_le _,rfl⟩ ?_ ?_
 .simp+decide[xw,int,zm,zq,Lang.d,vo,xx]
 intro k ⟨P,E⟩
 have J:=GH (vo g f p i k) (x,true) B (λa S=>by
  unfold vo at S;rw[List.mem_flatMap] at S;obtain⟨_,_,S⟩:=S;rw[GI g f _ _ a S,List.length_set];exact C)
 have Q:=I6 g f p i k
 rw[eg] at Q
 have H:xx yZ (x,true) (vo g f p i (k+1))=xx yZ (xx yZ (x,true) (vo g f p i k)) (qf g f (p.set i ⟨q.entry,q.alt,k⟩) (i+1)):=by rw[Q,JV]
 by_cases T:k<ns
 case neg=>
  have:k=ns:=by omega
  subst this;have F:(List.range k).flatMap (λ(k:Nat)=>qf g f (p.set i ⟨q.entry,q.alt,k⟩) (i+1))=vo g f p i k:=by unfold vo;rw[eg]
  rw[F];generalize xx yZ (x,true) (vo g f p i k)=z at E;obtain⟨zx,zb⟩:=z;simp only at E
  subst E;refine zL mixed ?_
  simp+decide[xw,int,zm,zq,Lang.d,kU,St.jB]
 have M:(k:Int)<ns:=by omega
 generalize xx yZ (x,true) (vo g f p i k)=z at E H J
 obtain⟨⟨out,full⟩,zb⟩:=z
 simp only at E
 subst E
 have G:=ih (out,full) (p.set i ⟨q.entry,q.alt,k⟩) (i+1) J (by rw[List.length_set];exact C) (by rw[List.length_set];omega)
 have O:(p.map Prt.row).set i [.int .i64 q.entry,.int .i64 q.alt,.int .i64 k]=(p.set i ⟨q.entry,q.alt,(k:Int)⟩).map Prt.row:=by rw[List.map_set];rfl
 refine zL mixed ?_
 simp+decide[xw,int,zm,zq,Lang.d,T,M,I64,Prt.row,L,K]
 rw[eq,O]
 refine⟨by omega,by unfold maxLen;omega,⟨by omega,by omega⟩,?_⟩
 generalize xx yZ ((out,full),true) (qf g f (p.set i ⟨q.entry,q.alt,(k:Int)⟩) (i+1))=z2 at G H
 obtain⟨⟨o2,f2⟩,b2⟩:=z2
 refine zG.ON [4] rfl [0,1,2] [.d g.d,.d (zm (p.set i ⟨q.entry,q.alt,(k:Int)⟩)),.d (int (i+1)),.fn 269 [.bp 0 0,.bp 1 0]] (xw (out,full)) (by rfl) (by simp[yu,ren,rho,zZ,zm,Lang.d,int]) (by simp) ?_ (by simpa using G) ?_
 .simp[Fits,ku,xw,St.look,zc,vY,yu,ren,rho,int,List.range,List.range.loop,zm]
 cases b2 with
 |true=>
  simp+decide[int,zm,xw,kU,St.jB,zq,Lang.d,I64];exact⟨⟨by omega,by omega⟩,k+1,⟨T,by rw[H]⟩,by omega,by omega,by rw[H],by rw[H]⟩
 |false=>
  simp+decide[int,zm,xw,kU,St.jB,zq,Lang.d,I64];have V:=I7 g f p i (x,true) (k+1) (by rw[H]) (ns-(k+1))
  rw[show k+1+(ns-(k+1))=ns by omega,H] at V
  have F:(List.range ns).flatMap (λ(k:Nat)=>qf g f (p.set i ⟨q.entry,q.alt,k⟩) (i+1))=vo g f p i ns:=by unfold vo;rw[eg]
  rw[F,V];exact⟨rfl,rfl,rfl⟩
theorem I9(g:Lang)(H:LightF g)(G:LangC g):∀ f,JW g f
 |0=>zc5 g
 |f+1=>zc6 g H G f (I9 g H G f)
end Go.V
namespace Go.V
open Go Go.Proofs
def k6(g:Lang)(x:yI)(a:List Prt)(_:List Int):yI×Bool:=xx yZ (x,true) (qf g a.length a 0)
def vD(g:Lang)(x:yI):List (Nat×Obj'):=[(2,.box 36 (zq g.d)),(3,.box 272 [.fn 269 [.bp 4 0,.bp 5 0]]),(4,.box 241 [.ar 6]),(5,.box 4 [.d (.bool x.2)]),(6,.arr 39 1 (x.1.map λa=>[zm a]))]
theorem zl3(g:Lang)(H:LightF g)(G:LangC g)(w:List Int)(tr:List (List Int))(x:yI)(F:allI x)(a:List Prt)(E:a.length<=4)(base:List Int):
  zI Tryz.prog 272 [.d (zm a),.d (ints base),.bp 2 0,.bp 3 0] (zB g w tr (.fn 272 [.bp 2 0,.bp 3 0]) (vD g x)) 7
   (.d (.bool (k6 g x a base).2)) 7 (zB g w tr (.fn 272 [.bp 2 0,.bp 3 0]) (vD g (k6 g x a base).1)) [6]:=by
 have K:=I9 g H G a.length x a 0 F E (by omega)
 unfold k6
 generalize xx yZ (x,true) (qf g a.length a 0)=z at K
 obtain⟨⟨o2,f2⟩,b2⟩:=z
 obtain⟨out,full⟩:=x
 refine xW mixed Tryz.func272 rfl c_272 (by simp[Sym.los,Sym.lo]) ?_
 simp+decide[Tryz.f272,zB,vD,zq,Lang.d,int,ints,u32,zm]
 refine zG.mut [4,5,6] [.d g.d,.d (zm a),.d (int 0),.fn 269 [.bp 0 0,.bp 1 0]] (xw (out,full)) (by rfl) (by simp[yu,ren,rho,Lang.d,int,ints,zm]) (by simp) ?_ K ?_
 .simp[Fits,ku,xw,St.look,zc,vY,yu,ren,rho,int,List.range,List.range.loop,zm]
 simp+decide[zB,vD,xw,zq,Lang.d,int,ints,u32,zm]
theorem zj6(g:Lang)(x:yI):RestOk 7 (.fn 272 [.bp 2 0,.bp 3 0]) (vD g x) where
 two:=by omega
 keys:=by simp[vD]
 ids i o h:=by
  simp only[vD,List.mem_cons,List.not_mem_nil,or_false] at h;rcases h with h | h | h | h | h <;> (cases h;simp[Obj'.lo,Sym.los,Sym.lo,zq,Lang.d])
 range:=rfl
 thawed k x h:=by
  have H:¬(2=k):=by omega
  have G:¬(3=k):=by omega
  have F:¬(4=k):=by omega
  have E:¬(5=k):=by omega
  have K:¬(6=k):=by omega
  simp[vD,xY,gx,xT,thaw,H,G,F,E,K,zq,Lang.d]
 thawC k x h:=by simp[thaw]
 fn:=by simp[Sym.lo,Sym.los]
theorem zj7{g:Lang}{x:yI}{a:List Prt}{base:List Int}(h:allI x)(H:a.length<=4):allI (k6 g x a base).1:=
 GH _ _ h λq hq=>by rw[GI g _ _ _ q hq];exact H
def JX(g:Lang)(hg:LightF g)(hc:LangC g)(w:List Int):Clo Tryz.prog g w yI where
 F:=k6 g
 rest:=vD g
 fid:=272
 caps:=[.bp 2 0,.bp 3 0]
 n:=7
 mv:=[6]
 mvOk i h:=by rw[List.mem_singleton] at h;omega
 mvCaps:=by simp[qw,zO]
 Inv _ x:=allI x
 ok:=zj6 g
 mono _ _ h:=h
 call k x tr a base hI hk ha hb:=⟨zl3 g hg hc w tr x hI a ha base,zj7 hI ha⟩
theorem zhd(g:Lang)(V:LightF g)(X:LangC g)(w:List Int)(Y:w.length<=30) :
  zI Tryz.prog 271 [.d g.d,.d (ints w),.fn 272 [.bp 0 0,.bp 1 0]] ([(0,.box 36 (zq g.d)),(1,.box 272 [.fn 269 [.bp 2 0,.bp 3 0]]),(2,.box 241 [.ar 4]),(3,.box 4 [.d (.bool (([],false):yI).2)]),(4,.arr 39 1 ((([],false):yI).1.map λa=>[zm a]))]) 5
   (.tup []) 5 ([(0,.box 36 (zq g.d)),(1,.box 272 [.fn 269 [.bp 2 0,.bp 3 0]]),(2,.box 241 [.ar 4]),(3,.box 4 [.d (.bool (sF (k6 g) (([],false),true) ((vd g w).map λb=>(b,y9 g.lex b))).1.2)]),(4,.arr 39 1 ((sF (k6 g) (([],false),true) ((vd g w).map λb=>(b,y9 g.lex b))).1.1.map λa=>[zm a]))]) [4]:=by
 refine xW mixed Tryz.func271 rfl c_271 (by simp[Sym.los,Sym.lo]) ?_
 by_cases Z:w.length=0
 .have F:(w.length:Int)=0:=by omega
  simp+decide[Tryz.f271,zq,Lang.d,int,ints,u32,Z,F,vd,sF,vD];done
 have F:¬(w.length:Int)=0:=by omega
 by_cases A:24<w.length
 .have E:(24:Int)<w.length:=by omega
  simp+decide[Tryz.f271,zq,Lang.d,int,ints,u32,Z,F,A,E,vd,sF,vD];done
 have E:¬(24:Int)<w.length:=by omega
 simp+decide[Tryz.f271,zq,Lang.d,int,ints,u32,Z,F,A,E,vD]
 have B:=(V.Y9 X).rules
 have M:=RP g.rules (by have:=B.2;omega) (λr C=>by have A:=(B.1 r C).dst;have I:=(B.1 r C).src;omega)
 refine zn7 mixed 7 [] (by rfl) (by rfl) (by rfl) (by rfl) (by rfl) ?_
 simp+decide[zq,Lang.d,int,ints,u32]
 refine scp M ?_
 simp+decide[zq,Lang.d,int,ints,u32]
 refine⟨by rfl,?_⟩
 have N:=V.vO.ok.2.1
 have T:g.net.final.length<2^40:=V.vO.few2
 refine xn mixed (λk:Nat=>{n:=46,next:=8,slots:=[(6,.bp 7 0),(28,.d (ints g.net.final)),(29,.d (int g.net.final.length)),(30,.d (int k))],own:=((7,.box 327 (zq g.d++[.d (ints w),.d (.bool (ZI g.rules)),.d (u32 (yV (g.net.final.take k))),.mp 6,.fn 272 [.bp 0 0,.bp 1 0]]))::(6,.map 325 [])::[(0,.box 36 (zq g.d)),(1,.box 272 [.fn 269 [.bp 2 0,.bp 3 0]]),(2,.box 241 [.ar 4]),(3,.box 4 [.d (.bool (([],false):yI).2)]),(4,.arr 39 1 ((([],false):yI).1.map λa=>[zm a]))]),base:=5})
  (λk=>k<=g.net.final.length) (λk=>g.net.final.length-k) 0 (by simp) ?_ ?_
 .simp+decide[zq,Lang.d,int,ints,u32,yV,vD]
 intro k P
 by_cases H:k<g.net.final.length
 .have G:(k:Int)<g.net.final.length:=by omega
  have hsn:yV (g.net.final.take (k+1))=vj (yV (g.net.final.take k)) g.net.final[k]:=by unfold yV;rw[yH H,List.foldl_append];rfl
  have K:yV (g.net.final.take k)<8:=YN _ 0 (λx S=>N x (List.mem_of_mem_take S)) (by omega)
  have W:=N g.net.final[k] (List.getElem_mem H);obtain⟨c,ec⟩:∃ c,g.net.final[k]=c:=⟨_,rfl⟩;have e1:g.net.final[k]?=some c:=by rw[List.getElem?_eq_getElem H,ec]
  rw[ec] at hsn W;generalize yV (g.net.final.take k)=mm at hsn K;have O:=Ua K W.1 (show c<3 by omega)
  refine zL mixed ?_
  simp+decide[zq,Lang.d,int,ints,u32,H,G,e1,ec,I64,vD];refine Qj mixed 9 [7] (by rfl) (by rfl) (by rfl) (by rfl) (by simp) ?_
  simp+decide[zq,Lang.d,int,ints,u32,H,G,e1,ec,I64];exact⟨W.1,⟨by omega,by omega⟩,k+1,H,by omega,by omega,by rw[hsn];exact O⟩
 have:k=g.net.final.length:=by omega
 subst this
 rw[List.take_length]
 refine zL mixed ?_
 simp+decide[zq,Lang.d,int,ints,u32,vD]
 have J:=walk_nil ((HW g V X w (by omega) (JX g V X w) 4).call 0 (([],false):yI) [] [] 1 [] ⟨Nat.zero_le _,λb hb=>by cases hb⟩ (by decide) (λ_ h=>by cases h) rfl (by omega) (by simp) (λ_ h=>by cases h))
 have L:=zc3 V Z (by omega) (JX g V X w) (([],false):yI)
 generalize zW g w (JX g V X w) 4 ((([],false):yI),[]) [] 1 []=z at J L
 obtain⟨⟨zx,zt⟩,zb⟩:=z
 have Q:(sF (k6 g) ((([],false):yI),true) ((vd g w).map λb=>(b,y9 g.lex b))).1=zx:=by
  have:=congrArg Prod.fst L;exact this.symm
 refine zG.mut [7,6,0,1,2,3,4] [.bp 0 0,.nils,.d (u32 1),.nils] (zB g w [] (.fn 272 [.bp 2 0,.bp 3 0]) (vD g (([],false):yI))) (by rfl) (by simp[yu,ren,rho,u32]) (by simp) ?_ J ?_
 .simp[Fits,ku,zB,vD,St.look,zc,vY,yu,ren,rho,zq,Lang.d,Zj,int,ints,u32,List.range,List.range.loop]
 simp+decide[zB,zq,Lang.d,int,ints,u32,Q,JX,vD]
def V9(g:Lang)(w:List Int):yI:=(sF (k6 g) (([],false),true) ((vd g w).map λb=>(b,y9 g.lex b))).1
def yD(g:Lang)(w:List Int):List (List Prt)×Int:=if vL g.inv w≠0 then ([],vL g.inv w) else if (V9 g w).2=true then ([],11) else ((V9 g w).1,0)
theorem zj8(g:Lang)(G:LightF g)(F:LangC g)(w:List Int)(E:w.length<=30):zl Tryz.prog 239 [g.d,ints w] (.tup [xN (yD g w).1,int (yD g w).2]):=by
 have K:=zhd g G F w E
 have J:=zl1 g.inv w (by omega)
 unfold yD
 rw[show(sF (k6 g) (([],false),true) ((vd g w).map λb=>(b,y9 g.lex b))).1=V9 g w from rfl] at K
 generalize V9 g w=z at K
 obtain⟨out,full⟩:=z
 refine DF Tryz.func239 rfl c_239 ?_
 by_cases H:vL g.inv w=0
 case neg=>
  refine zL mixed ?_
  simp+decide[Tryz.f239,zq,Lang.d,int,ints,H];refine zh J ?_
  simp+decide[int,ints,H,xN]
 rw[H] at J
 refine w8 mixed 5 {n:=24,next:=5,slots:=[(1,.d (ints w)),(2,.bp 0 0),(7,.bp 2 0),(8,.bp 3 0),(9,.bp 4 0)],own:=[(0,.box 36 (zq g.d)),(2,.box 241 [.nils]),(3,.box 4 [.d (.bool false)]),(4,.box 272 [.fn 269 [.bp 2 0,.bp 3 0]])]} rfl ?_ ?_
 .simp+decide[Tryz.f239,yp,j9,zq,Lang.d,int,ints]
  refine zh J ?_
  simp+decide[int,ints,H,xN,yp,j9]
 simp only[yK]
 refine G8 2 0 39 1 (T:=241) (l:=[.nils]) rfl rfl ?_
 refine zL mixed ?_
 simp+decide[Tryz.f239,zq,Lang.d,int,ints,St.new,St.set,zT]
 refine zG.mut [0,4,2,3,5] [.d g.d,.d (ints w),.fn 272 [.bp 0 0,.bp 1 0]] ([(0,.box 36 (zq g.d)),(1,.box 272 [.fn 269 [.bp 2 0,.bp 3 0]]),(2,.box 241 [.ar 4]),(3,.box 4 [.d (.bool (([],false):yI).2)]),(4,.arr 39 1 ((([],false):yI).1.map λa=>[zm a]))]) (by rfl) (by simp[yu,ren,rho,Lang.d,int,ints]) (by simp) ?_ K ?_
 .simp[Fits,ku,St.look,zc,vY,yu,ren,rho,int,List.range,List.range.loop,zq,Lang.d,ints]
 cases full with
 |true=>
  simp+decide[int,ints,xN,H]
 |false=>
  simp+decide[int,ints,xN,H]
end Go.V
namespace Go.V
open Go Go.Proofs
def allT(g:Lang)(w:List Int):List (List Prt):=(vd g w).flatMap λa=>qf g a.length a 0
theorem Ia(g:Lang):∀ (l:List (List Prt)) (f:List Prt->List Int) (z:yI×Bool),sF (k6 g) z (l.map λb=>(b,f b))=xx yZ z (l.flatMap λa=>qf g a.length a 0)
 | [],f,z=>rfl
 |a::l,f,z=>by
  rw[List.map_cons,JR,List.flatMap_cons,JV];by_cases h:z.2=false
  .rw[if_pos h,V8 h,V8 h]
  .rw[if_neg h,Ia g l f]
   have H:z.2=true:=by simpa using h
   unfold k6;obtain⟨x,b⟩:=z;simp only at H
   subst H;rfl
theorem Ib:∀ (l:List (List Prt)) (out:List (List Prt)) (b:Bool),out.length+l.length<=200->xx yZ ((out,b),true) l=((l.foldl (λo a=>insL (λx=>yh a x) a o) out,b),true)
 | [],_,_,_=>rfl
 |a::l,out,b,h=>by
  rw[List.length_cons] at h;have e:yZ (out,b) a=((insL (λx=>yh a x) a out,b),true):=by
   unfold yZ;rw[if_neg (by show ¬out.length=200;omega)]
  rw[Xa,if_neg (by simp),List.foldl_cons,e]
  exact Ib l _ b (by rw[V7];omega)
theorem Ic:∀ (l:List (List Prt)) (out:List (List Prt)) (b:Bool),out.length<=200->200<out.length+l.length->(xx yZ ((out,b),true) l).1.2=true
 | [],out,b,h,h'=>by rw[List.length_nil] at h';omega
 |a::l,out,b,h,h'=>by
  rw[List.length_cons] at h';rw[Xa,if_neg (by simp)]
  by_cases e:out.length=200
  .have e1:yZ (out,b) a=((out,true),false):=by unfold yZ;rw[if_pos e]
   rw[e1,V8 rfl]
  .have e1:yZ (out,b) a=((insL (λx=>yh a x) a out,b),true):=by unfold yZ;rw[if_neg e]
   rw[e1];exact Ic l _ b (by rw[V7];omega) (by rw[V7];omega)
def Ye(l:List (List Prt)):List (List Prt):=l.foldl (λo a=>insL (λx=>yh a x) a o) []
theorem zl4(g:Lang)(w:List Int):yD g w=if vL g.inv w≠0 then ([],vL g.inv w) else if 200<(allT g w).length then ([],11) else (Ye (allT g w),0):=by
 unfold yD V9
 rw[Ia,show(vd g w).flatMap (λa=>qf g a.length a 0)=allT g w from rfl]
 by_cases H:vL g.inv w≠0
 .rw[if_pos H,if_pos H]
 rw[if_neg H,if_neg H]
 by_cases h:200<(allT g w).length
 .rw[if_pos h,if_pos (Ic _ _ _ (by simp) (by simpa using h))]
 .rw[if_neg h,Ib _ _ _ (by simp;omega),if_neg (by simp)]
  rfl
theorem JY{a b:Prt}:qy a b=true↔a.entry<b.entry\/(a.entry=b.entry/\(a.alt<b.alt\/(a.alt=b.alt/\a.sense<b.sense))):=by
 unfold qy
 by_cases H:a.entry=b.entry
 .rw[if_pos H]
  by_cases G:a.alt=b.alt
  .rw[if_pos G,decide_eq_true_eq];omega
  .rw[if_neg G,decide_eq_true_eq];omega
 .rw[if_neg H,decide_eq_true_eq];omega
theorem Prt.ext'{a b:Prt}(H:a.entry=b.entry)(G:a.alt=b.alt)(F:a.sense=b.sense):a=b:=by
 cases a;cases b;simp only at H G F;rw[H,G,F]
theorem zhe(a:Prt):qy a a=false:=by
 cases h:qy a a with
 |false=>rfl
 |true=>rw[JY] at h;omega
theorem zc7{a b c:Prt}(H:qy a b=true)(G:qy b c=true):qy a c=true:=by
 rw[JY] at H G ⊢;omega
theorem zhf{a b:Prt}(h:a≠b):qy a b=true\/qy b a=true:=by
 rw[JY,JY]
 have:¬(a.entry=b.entry/\a.alt=b.alt/\a.sense=b.sense):=λ⟨H,G,F⟩=>h (Prt.ext' H G F)
 omega
theorem GK{a b:Prt}{l m:List Prt}:yh (a::l) (b::m)=if a=b then yh l m else qy a b:=rfl
theorem Ie:∀ {a b c:List Prt},yh a b=true->yh b c=true->yh a c=true
 | [],[],_,h,_=>by simp[yh] at h
 | [],_::_,[],_,h=>by simp[yh] at h
 | [],_::_,_::_,_,_=>rfl
 |_::_,[],_,h,_=>by simp[yh] at h
 |_::_,_::_,[],_,h=>by simp[yh] at h
 |a::l,b::m,c::n,H,G=>by
  rw[GK] at H G ⊢;by_cases e1:a=b
  .subst e1
   rw[if_pos rfl] at H;by_cases e2:a=c
   .subst e2
    rw[if_pos rfl] at G ⊢;exact Ie H G
   .rw[if_neg e2] at G ⊢;exact G
  .rw[if_neg e1] at H
   by_cases e2:b=c
   .subst e2
    rw[if_neg e1];exact H
   .rw[if_neg e2] at G
    have F:=zc7 H G;by_cases e3:a=c
    .subst e3;rw[zhe] at F;cases F
    .rw[if_neg e3];exact F
theorem If:∀ {a b:List Prt},a≠b->yh a b=true\/yh b a=true
 | [],[],h=>absurd rfl h
 | [],_::_,_=>.inl rfl
 |_::_,[],_=>.inr rfl
 |a::l,b::m,h=>by
  rw[GK,GK];by_cases e:a=b
  .subst e
   rw[if_pos rfl,if_pos rfl];exact If λe=>h (by rw[e])
  .rw[if_neg e,if_neg (λe'=>e e'.symm)]
   exact zhf e
section
variable {α:Type}
theorem Ig{lt:α->Bool}{l:List α}:∀ n,n<=l.length->(∀ i,qR lt l n<=i->i<n->∀ h:i<l.length,lt l[i]=true)/\(∀ h:0<qR lt l n,∃ H:qR lt l n-1<l.length,lt l[qR lt l n-1]=false)
 |0,_=>⟨λi _ h=>absurd h (by omega),λh=>absurd h (by simp[qR])⟩
 |n+1,hn=>by
  have ih:=Ig (lt:=lt) (l:=l) n (by omega)
  have e1:l[n]?=some l[n]:=List.getElem?_eq_getElem (by omega)
  by_cases c:lt l[n]=true
  .have e2:qR lt l (n+1)=qR lt l n:=by rw[qR,e1];simp only;rw[if_pos c]
   rw[e2];refine⟨λi G F h=>?_,ih.2⟩
   by_cases e:i=n
   .subst e;exact c
   .exact ih.1 i G (by omega) h
  .have e2:qR lt l (n+1)=n+1:=by rw[qR,e1];simp only;rw[if_neg c]
   rw[e2];refine⟨λi G F h=>by omega,λ_=>⟨by omega,?_⟩⟩
   show lt l[n+1-1]=false
   simpa using c
theorem zc8{lt:α->α->Bool}(tr:∀ {a b c},lt a b=true->lt b c=true->lt a c=true)(tot:∀ {a b},a≠b->lt a b=true\/lt b a=true){x:α}{l:List α}
  (hs:l.Pairwise λa b=>lt a b=true) (L:x∉l):(insL (λo=>lt x o) x l).Pairwise λa b=>lt a b=true:=by
 have H:=Ig (lt:=λo=>lt x o) (l:=l) l.length (Nat.le_refl _)
 have E:=GF (λo=>lt x o) l l.length
 unfold insL
 generalize qR (λo=>lt x o) l l.length=p at H E
 have G:∀ b∈l.drop p,lt x b=true:=by
  intro b M;obtain⟨i,hi,e⟩:=List.mem_iff_getElem.1 M;rw[List.length_drop] at hi;rw[List.getElem_drop] at e;have:=H.1 (p+i) (by omega) (by omega) (by omega)
  rw[<-e];exact this
 have F:∀ a∈l.take p,lt a x=true:=by
  intro a O;obtain⟨i,hi,e⟩:=List.mem_take_iff_getElem.1 O;have Q:0<p:=by omega
  obtain⟨T,V⟩:=H.2 Q;have K:l[p-1]≠x:=λe=>L (e▸List.getElem_mem T)
  have X:lt l[p-1] x=true:=by
   rcases tot K with h | h
   .exact h
   .rw[h] at V;cases V
  rw[<-e];by_cases J:i=p-1
  .subst J;exact X
  .exact tr (List.pairwise_iff_getElem.1 hs i (p-1) (by omega) T (by omega)) X
 rw[List.pairwise_append]
 refine⟨hs.sublist (List.take_sublist _ _),List.pairwise_cons.2 ⟨G,hs.sublist (List.drop_sublist _ _)⟩,λa O b M=>?_⟩
 rcases List.mem_cons.1 M with e | e
 .rw[e];exact F a O
 .exact tr (F a O) (G b e)
end
theorem Ih{a:List Prt}:∀ (l out:List (List Prt)),a∈l.foldl (λo a=>insL (λx=>yh a x) a o) out↔a∈l\/a∈out
 | [],out=>by simp
 |b::l,out=>by
  rw[List.foldl_cons,Ih l,Zo,List.mem_cons];constructor
  .rintro(h | h | h)
   .exact .inl (.inr h)
   .exact .inl (.inl h)
   .exact .inr h
  .rintro((h | h) | h)
   .exact .inr (.inl h)
   .exact .inl h
   .exact .inr (.inr h)
theorem GL{a:List Prt}{l:List (List Prt)}:a∈Ye l↔a∈l:=by unfold Ye;rw[Ih];simp
theorem Ii:∀ (l out:List (List Prt)),(out.Pairwise λa b=>yh a b=true)->l.Nodup->(∀ a∈l,a∉out)->(l.foldl (λo a=>insL (λx=>yh a x) a o) out).Pairwise λa b=>yh a b=true
 | [],out,h,_,_=>h
 |b::l,out,h,H,G=>by
  rw[List.nodup_cons] at H;rw[List.foldl_cons];refine Ii l _ (zc8 (lt:=yh) Ie If h (G b (List.mem_cons_self ..))) H.2 λa F E=>?_
  rcases Zo.1 E with e | e
  .subst e;exact H.1 F
  .exact G a (List.mem_cons_of_mem _ F) e
theorem zc9{l:List (List Prt)}(h:l.Nodup):(Ye l).Pairwise λa b=>yh a b=true:=Ii l [] List.Pairwise.nil h λ_ _ h=>by cases h
theorem Ij:∀ (l out:List (List Prt)),(l.foldl (λo a=>insL (λx=>yh a x) a o) out).length=out.length+l.length
 | [],out=>rfl
 |b::l,out=>by rw[List.foldl_cons,Ij l,V7,List.length_cons];omega
theorem zj9(l:List (List Prt)):(Ye l).length=l.length:=by unfold Ye;rw[Ij];simp
def k7(g:Lang):List Prt->List (List Prt)
 | []=>[[]]
 |p::ps=>(List.range (qk g.lex p.entry).length).flatMap λ(k:Nat)=>(k7 g ps).map λt=>(⟨p.entry,p.alt,k⟩:Prt)::t
theorem Ik(g:Lang):∀ (f:Nat) (p:List Prt) (i:Nat),i+f=p.length->qf g f p i=(k7 g (p.drop i)).map λt=>p.take i++t
 |0,p,i,h=>by
  rw[qf,List.drop_eq_nil_of_le (by omega),List.take_of_length_le (by omega)]
  simp[k7]
 |f+1,p,i,h=>by
  have hi:i<p.length:=by omega
  have eg:p.getD i ⟨0,0,0⟩=p[i]:=by rw[List.getD_eq_getElem?_getD,List.getElem?_eq_getElem hi];rfl
  rw[qf,eg,List.drop_eq_getElem_cons hi,k7,List.map_flatMap];refine V2 λk _=>?_
  rw[Ik g f _ (i+1) (by rw[List.length_set];omega),List.map_map]
  have e1:(p.set i ⟨p[i].entry,p[i].alt,(k:Int)⟩).drop (i+1)=p.drop (i+1):=by rw[List.drop_set];rw[if_pos (by omega)]
  have e2:(p.set i ⟨p[i].entry,p[i].alt,(k:Int)⟩).take (i+1)=p.take i++[⟨p[i].entry,p[i].alt,(k:Int)⟩]:=by
   rw[List.take_succ_eq_append_getElem (by rw[List.length_set];exact hi),List.getElem_set_self,List.take_set_of_le (by omega)]
  rw[e1,e2];congr 1
  funext t
  simp
theorem zka(g:Lang)(a:List Prt):qf g a.length a 0=k7 g a:=by
 rw[Ik g a.length a 0 (by omega)]
 simp
def Choice(g:Lang):List Prt->List Prt->Prop
 | [],[]=>True
 |p::ps,q::qs=>(q.entry=p.entry/\q.alt=p.alt/\0<=q.sense/\q.sense<(qk g.lex p.entry).length)/\Choice g ps qs
 |_,_=>False
theorem Xb(g:Lang):∀ {a q:List Prt},q∈k7 g a↔Choice g a q
 | [],q=>by
  rw[k7,List.mem_singleton];cases q with
  |nil=>simp[Choice]
  |cons _ _=>simp[Choice]
 |p::ps,q=>by
  rw[k7,List.mem_flatMap];constructor
  .rintro⟨k,H,h⟩
   obtain⟨t,G,rfl⟩:=List.mem_map.1 h;have:=List.mem_range.1 H
   exact⟨⟨rfl,rfl,by show(0:Int)<=(k:Int);omega,by show(k:Int)<_;omega⟩,(Xb g).1 G⟩
  .intro h
   cases q with
   |nil=>simp[Choice] at h
   |cons x t=>
    obtain⟨⟨F,E,K,J⟩,L⟩:=h;refine⟨x.sense.toNat,List.mem_range.2 (by omega),List.mem_map.2 ⟨t,(Xb g).2 L,?_⟩⟩
    congr 1
    exact Prt.ext' F.symm E.symm (by show((x.sense.toNat:Nat):Int)=x.sense;omega)
theorem Il(g:Lang):∀ a:List Prt,(k7 g a).Nodup
 | []=>by rw[k7];simp
 |p::ps=>by
  have ih:=Il g ps;rw[k7];unfold List.Nodup at ih ⊢;rw[List.pairwise_flatMap];refine⟨λk _=>?_,?_⟩
  .rw[List.pairwise_map]
   exact ih.imp λh e=>h (List.cons.inj e).2
  .refine List.Pairwise.imp ?_ List.pairwise_lt_range
   intro i j H x G y F e;obtain⟨t,_,rfl⟩:=List.mem_map.1 G;obtain⟨u,_,rfl⟩:=List.mem_map.1 F;have:=(List.cons.inj e).1
   have:=congrArg Prt.sense this
   simp only at this
   omega
def bare(a:List Prt):List Prt:=a.map λp=>⟨p.entry,p.alt,0⟩
theorem Va{g:Lang}:∀ {a q:List Prt},Choice g a q->bare q=bare a
 | [],[],_=>rfl
 | [],_::_,h=>h.elim
 |_::_,[],h=>h.elim
 |p::ps,q::qs,h=>by
  obtain⟨⟨H,G,_⟩,F⟩:=h;have:=Va F
  unfold bare at this ⊢;rw[List.map_cons,List.map_cons,this,H,G]
theorem zl5{a:List Prt}(h:∀ p∈a,p.sense=0):bare a=a:=by
 unfold bare
 conv=>rhs;rw[<-List.map_id a]
 refine List.map_congr_left λp H=>?_
 exact Prt.ext' rfl rfl (h p H).symm
end Go.V
namespace Go.V
open Go Go.Proofs
def uB(g:Lang)(p:Prt):Prop:=∃ e∈g.lex,p.entry=e.id/\p.sense=0/\∃ alt:Nat,alt<e.forms.length/\p.alt=alt
theorem uB.ok{g:Lang}(H:LightF g){p:Prt}(h:uB g p):∃ e∈g.lex,∃ alt:Nat,alt<e.forms.length/\p=⟨e.id,alt,0⟩:=by
 obtain⟨e,G,F,E,alt,K,J⟩:=h
 exact⟨e,G,alt,K,Prt.ext' F J E⟩
theorem JZ{g:Lang}{w:List Int}:∀ (f:Nat) (a b:List Prt),b∈kP g w f a->∃ t,b=a++t/\t≠[]/\t.length<=f/\(∀ p∈t,uB g p)/\V0 g w b=true
 |0,a,b,h=>by simp[kP] at h
 |f+1,a,b,h=>by
  unfold kP at h;rw[List.mem_flatMap] at h;obtain⟨e,G,h⟩:=h;split at h
  .rw[List.mem_flatMap] at h
   obtain⟨alt,F,h⟩:=h;have F:=List.mem_range.1 F;have E:uB g ⟨e.id,(alt:Int),0⟩:=⟨e,G,rfl,rfl,alt,F,rfl⟩
   split at h
   .cases h
   .rcases List.mem_append.1 h with h | h
    .split at h
     .rename_i K
      rw[List.mem_singleton] at h;subst h;exact⟨[⟨e.id,(alt:Int),0⟩],rfl,by simp,by simp,(by intro p H;rw[List.mem_singleton] at H;rw[H];exact E),K⟩
     .cases h
    .obtain⟨t,rfl,J,L,M,O⟩:=JZ f _ b h
     exact⟨⟨e.id,(alt:Int),0⟩::t,by simp,by simp,by simp;omega,(λp Q=>(List.mem_cons.1 Q).elim (λe=>e▸E) (M p)),O⟩
  .cases h
theorem zhg{g:Lang}(G:LightF g):g.lex.Pairwise λe e'=>e.id<e'.id:=by
 rw[List.pairwise_iff_getElem]
 intro i j hi hj H
 have:=lex_lt G.lex.up (j-i-1) i (by omega)
 simpa[show i+(j-i-1)+1=j by omega] using this
theorem W0{g:Lang}{w:List Int}{f:Nat}{a x:List Prt}{p:Prt}(h:x∈(if k5 g w<(y9 g.lex (a++[p])).length then [] else (if V0 g w (a++[p])=true then [a++[p]] else [])++kP g w f (a++[p]))):∃ t,x=a++p::t:=by
 split at h
 .cases h
 .rcases List.mem_append.1 h with h | h
  .split at h
   .rw[List.mem_singleton] at h;exact⟨[],h⟩
   .cases h
  .obtain⟨t,e,_⟩:=JZ f _ x h
   exact⟨t,by rw[e];simp⟩
theorem Im{g:Lang}(F:LightF g)(w:List Int):∀ (f:Nat) (a:List Prt),(kP g w f a).Nodup
 |0,_=>by simp[kP]
 |f+1,a=>by
  unfold kP List.Nodup;rw[List.pairwise_flatMap];refine⟨λe he=>?_,?_⟩
  .split
   .rw[List.pairwise_flatMap]
    refine⟨λalt ha=>?_,?_⟩
    .split
     .exact List.Pairwise.nil
     .rw[List.pairwise_append]
      refine⟨by split <;> simp,Im F w f _,λx E y K e=>?_⟩
      subst e;obtain⟨t,e,J,_⟩:=JZ f _ x K;split at E
      .rw[List.mem_singleton] at E
       rw[E] at e;have:=congrArg List.length e
       simp only[List.length_append,List.length_cons,List.length_nil] at this;exact J (List.length_eq_zero_iff.1 (by omega))
      .cases E
    .refine List.Pairwise.imp ?_ List.pairwise_lt_range
     intro i j H x E y K e;obtain⟨t,rfl⟩:=W0 E;obtain⟨u,rfl⟩:=W0 K;have:=(List.cons.inj (List.append_cancel_left e)).1
     have:=congrArg Prt.alt this
     simp only at this
     omega
   .exact List.Pairwise.nil
  .refine List.Pairwise.imp ?_ (zhg F)
   intro e e' G x E y K heq;split at E
   .split at K
    .rw[List.mem_flatMap] at E K
     obtain⟨_,_,E⟩:=E;obtain⟨_,_,K⟩:=K;obtain⟨t,rfl⟩:=W0 E;obtain⟨u,rfl⟩:=W0 K;have:=(List.cons.inj (List.append_cancel_left heq)).1
     have:=congrArg Prt.entry this
     simp only at this
     omega
    .cases K
   .cases E
structure PlainF(g:Lang)(w:List Int)(b:List Prt):Prop where
 pos:b≠[]
 len:b.length<=4
 parts:∀ p∈b,uB g p
 lic:kH g w b=true
theorem Xc{g:Lang}{w:List Int}{b:List Prt}(h:b∈vd g w):PlainF g w b:=by
 unfold vd at h
 split at h
 .cases h
 .obtain⟨t,rfl,H,G,F,E⟩:=JZ 4 [] b h
  unfold V0 at E;rw[Bool.and_eq_true] at E;exact⟨H,G,F,E.2⟩
theorem zda{g:Lang}(H:LightF g)(w:List Int):(vd g w).Nodup:=by
 unfold vd
 split
 .simp
 .exact Im H w 4 []
theorem PlainF.bare{g:Lang}{w:List Int}{b:List Prt}(h:PlainF g w b):bare b=b:=zl5 λp H=>by obtain⟨_,_,_,G,_⟩:=h.parts p H;exact G
theorem Io(g:Lang)(w:List Int):allT g w=(vd g w).flatMap (k7 g):=by
 unfold allT
 refine V2 λa _=>?_
 rw[zka]
theorem GM{g:Lang}{w:List Int}{q:List Prt}:q∈allT g w↔∃ a∈vd g w,Choice g a q:=by
 rw[Io,List.mem_flatMap]
 constructor
 .rintro⟨a,H,G⟩;exact⟨a,H,(Xb g).1 G⟩
 .rintro⟨a,H,G⟩;exact⟨a,H,(Xb g).2 G⟩
theorem ze5{g:Lang}(G:LightF g)(w:List Int):(allT g w).Nodup:=by
 rw[Io]
 unfold List.Nodup
 rw[List.pairwise_flatMap]
 refine⟨λa _=>Il g a,List.Pairwise.imp_of_mem ?_ (zda G w)⟩
 intro a b F E H x K y J e
 subst e
 have L:=Va ((Xb g).1 K)
 have M:=Va ((Xb g).1 J)
 rw[(Xc F).bare] at L
 rw[(Xc E).bare] at M
 exact H (L.symm.trans M)
theorem GN{g:Lang}:∀ {a q:List Prt},Choice g a q->q.length=a.length
 | [],[],_=>rfl
 | [],_::_,h=>h.elim
 |_::_,[],h=>h.elim
 |p::ps,q::qs,h=>by rw[List.length_cons,List.length_cons,GN h.2]
theorem Ip(l:List Ent)(a:List Prt):yW l (bare a)=yW l a:=by
 unfold yW bare
 rw[List.flatMap_map]
 rfl
theorem Iq(l:List Ent)(a:List Prt):y9 l (bare a)=y9 l a:=by
 unfold y9 bare
 rw[List.flatMap_map]
 rfl
theorem Ir{g:Lang}{a q:List Prt}(h:Choice g a q):y9 g.lex q=y9 g.lex a:=by rw[<-Iq,Va h,Iq]
theorem zaq{g:Lang}{a q:List Prt}(h:Choice g a q):yW g.lex q=yW g.lex a:=by rw[<-Ip,Va h,Ip]
theorem Is{g:Lang}(G:LightF g):∀ {a q:List Prt},Choice g a q->(∀ p∈a,uB g p)->∀ p∈q,vx g.lex p=0
 | [],[],_,_,p,hp=>by cases hp
 | [],_::_,h,_,_,_=>h.elim
 |_::_,[],h,_,_,_=>h.elim
 |p::ps,q::qs,h,F,x,E=>by
  rcases List.mem_cons.1 E with e | E
  .subst e
   obtain⟨⟨K,J,L,M⟩,_⟩:=h;obtain⟨e,O,alt,Q,rfl⟩:=(F p (List.mem_cons_self ..)).ok G;simp only at K J M
   have T:=V3 G O Q;have H:qX g.lex x=(e,e.forms[alt]?.getD [],true):=by
    obtain⟨x1,x2,x3⟩:=x;simp only at K J
    subst K;subst J;exact T
   unfold vx;rw[H,K,JK G.lex.up O];simp only[Bool.true_eq_false,if_false];rw[if_neg (by omega)]
  .exact Is G h.2 (λy V=>F y (List.mem_cons_of_mem _ V)) x E
theorem zdb{g:Lang}(H:LightF g){a:List Prt}(h:∀ p∈a,uB g p):∀ p∈a,vx g.lex p=0:=by
 intro p G
 obtain⟨e,F,alt,E,rfl⟩:=(h p G).ok H
 exact Hv H F E
theorem zdc{g:Lang}(H:LightF g){a q:List Prt}(h:Choice g a q)(G:∀ p∈a,uB g p):vm g q=vm g a:=by
 have F:=JL (Is H h G)
 have E:=JL (zdb H G)
 unfold vm vK
 rw[GN h,Ir h,zaq h,F,E]
theorem zhh{g:Lang}(H:LightF g){w:List Int}{q:List Prt}(h:q∈allT g w):(vm g q).2=0/\(vm g q).1=w/\q.length<=4:=by
 obtain⟨a,G,F⟩:=GM.1 h
 have E:=Xc G
 rw[zdc H F E.parts,GN F]
 have:=E.lic
 unfold kH at this
 rw[decide_eq_true_eq] at this
 exact⟨this.1,this.2,E.len⟩
theorem Iu{g:Lang}(H:LightF g):∀ {a:List Prt},(∀ p∈a,uB g p)->Choice g a a
 | [],_=>trivial
 |p::ps,h=>by
  refine⟨?_,Iu H λx G=>h x (List.mem_cons_of_mem _ G)⟩
  obtain⟨e,F,alt,E,rfl⟩:=(h p (List.mem_cons_self ..)).ok H;have hs:0<(qk g.lex e.id).length:=List.length_pos_iff.2 (H.senses F)
  exact⟨rfl,rfl,Int.le_refl _,by show(0:Int)<((qk g.lex e.id).length:Int);omega⟩
theorem GQ{g:Lang}(H:LightF g):∀ {a:List Prt},(∀ p∈a,uB g p)->ym (y9 g.lex a)
 | [],_=>λx G=>by cases G
 |p::ps,h=>by
  have ih:=GQ H λx G=>h x (List.mem_cons_of_mem _ G)
  obtain⟨e,F,alt,E,rfl⟩:=(h p (List.mem_cons_self ..)).ok H;have:y9 g.lex (⟨e.id,(alt:Int),0⟩::ps)=e.forms[alt]?.getD []++y9 g.lex ps:=by
   unfold y9;rw[List.flatMap_cons,V3 H F E];rfl
  rw[this];refine ym.app ?_ ih
  rw[List.getElem?_eq_getElem E];exact HK H F (List.getElem_mem E)
structure BasJ(x:JS):Prop where
 seen:∀ k∈x.1,∃ b∈x.2,keyS b=k
theorem GR(f:List Prt->List Int):∀ (l:List (List Prt)) (x:JS),BasJ x->BasJ (sF kT (x,true) (l.map λb=>(b,f b))).1 /\
  (∀ b∈(sF kT (x,true) (l.map λb=>(b,f b))).1.2,b∈x.2\/∃ a∈l,f a=b)/\(∀ b∈x.2,b∈(sF kT (x,true) (l.map λb=>(b,f b))).1.2) /\
  ∀ a∈l,∃ b∈(sF kT (x,true) (l.map λb=>(b,f b))).1.2,keyS b=keyS (f a)
 | [],x,h=>⟨h,λb H=>.inl H,λb H=>H,λa G=>by cases G⟩
 |a::l,x,h=>by
  rw[List.map_cons,JR,if_neg (by simp)]
  have F:kT x a (f a)=((kT x a (f a)).1,true):=rfl
  rw[F];by_cases E:keyS (f a)∈x.1
  .have e:(kT x a (f a)).1=x:=by unfold kT;rw[if_pos E]
   rw[e];obtain⟨i1,i2,i3,i4⟩:=GR f l x h;refine⟨i1,λb H=>(i2 b H).imp id λ⟨c,K,e⟩=>⟨c,List.mem_cons_of_mem _ K,e⟩,i3,λc K=>?_⟩
   rcases List.mem_cons.1 K with e2 | K
   .subst e2
    obtain⟨b,H,e3⟩:=h.seen _ E;exact⟨b,i3 b H,e3⟩
   .exact i4 c K
  .have e:(kT x a (f a)).1=(x.1++[keyS (f a)],insL (λo=>Je (f a) o) (f a) x.2):=by unfold kT;rw[if_neg E]
   rw[e];obtain⟨i1,i2,i3,i4⟩:=GR f l (x.1++[keyS (f a)],insL (λo=>Je (f a) o) (f a) x.2) ⟨λk J=>by
    rcases List.mem_append.1 J with J | J
    .obtain⟨b,H,e⟩:=h.seen k J
     exact⟨b,Zo.2 (.inr H),e⟩
    .rw[List.mem_singleton] at J
     exact⟨f a,Zo.2 (.inl rfl),J.symm⟩⟩
   refine⟨i1,λb H=>?_,λb H=>i3 b (Zo.2 (.inr H)),λc K=>?_⟩
   .rcases i2 b H with H | ⟨c,K,e⟩
    .rcases Zo.1 H with e | H
     .exact .inr ⟨a,List.mem_cons_self ..,e.symm⟩
     .exact .inl H
    .exact .inr ⟨c,List.mem_cons_of_mem _ K,e⟩
   .rcases List.mem_cons.1 K with e2 | K
    .subst e2
     exact⟨f c,i3 _ (Zo.2 (.inl rfl)),rfl⟩
    .exact i4 c K
theorem Iw{g:Lang}(G:LightF g){w:List Int}{b:List Int}:b∈JU g w↔∃ a∈vd g w,y9 g.lex a=b:=by
 obtain⟨_,i2,_,i4⟩:=GR (y9 g.lex) (vd g w) ([],[]) ⟨λk F=>by cases F⟩
 unfold JU
 constructor
 .intro h
  rcases i2 b h with h | h
  .cases h
  .exact h
 .rintro⟨a,E,rfl⟩
  obtain⟨c,K,e⟩:=i4 a E;rcases i2 c K with h | ⟨a2,H,e2⟩
  .cases h
  .have:=key_inj (by rw[<-e2];exact GQ G (Xc H).parts) (GQ G (Xc E).parts) e
   rw[<-this];exact K
def vp(n:Int):Prop:=(Lit.int .i64 n).wf=true
def Ix(l:List Int):Prop:=l.length<=maxLen/\∀ n∈l,vp n
theorem zdd{d:D}(h:yN d (.sl [.int .i64])):∃ l,d=ints l/\Ix l:=by
 obtain⟨xs,rfl,H,G⟩:=yN.YM (row:=λn:Int=>[D.int .i64 n]) (good:=vp) (λr F=>by
  obtain⟨d,r,rfl,H,G⟩:=F.zU;obtain⟨n,rfl,E⟩:=H.xI;obtain rfl:=G.ja;exact⟨n,rfl,E⟩) h
 exact⟨xs,rfl,H,G⟩
def Prt.ok(p:Prt):Prop:=vp p.entry/\vp p.alt/\vp p.sense
abbrev Iy:List Sh:=[.int .i64,.int .i64,.int .i64]
def Iz(l:List Prt):Prop:=l.length<=maxLen/\∀ x∈l,x.ok
theorem zbu{d:D}(h:yN d (.sl Iy)):∃ l,d=zm l/\Iz l:=by
 obtain⟨xs,rfl,H,G⟩:=yN.YM (row:=Prt.row) (good:=Prt.ok) (λr F=>by
  obtain⟨_,_,rfl,g1,r1⟩:=F.zU;obtain⟨_,_,rfl,g2,r2⟩:=r1.zU;obtain⟨_,_,rfl,g3,r3⟩:=r2.zU;obtain rfl:=r3.ja;obtain⟨a,rfl,wa⟩:=g1.xI;obtain⟨b,rfl,wb⟩:=g2.xI;obtain⟨c,rfl,wc⟩:=g3.xI;exact⟨⟨a,b,c⟩,rfl,wa,wb,wc⟩) h
 exact⟨xs,rfl,H,G⟩
theorem k9{α:Type}{M:Nat}{row:α->List D}:∀ {l:List α},Z2 M (l.map row)->∀ x∈l,Caps M (row x)
 | [],_,x,H=>by cases H
 |a::l,h,x,H=>by
  simp only[List.map_cons,Z2] at h;rcases List.mem_cons.1 H with e | e
  .rw[e];exact h.1
  .exact k9 h.2 x e
theorem wJ{α:Type}{row:α->List D}{shs:List Sh}{d:D}(h:∀ r,y8 r shs->∃ x,r=row x)(H:yN d (.sl shs)):∃ xs:List α,d = .sl (xs.map row):=by
 obtain⟨xs,e,_,_⟩:=yN.YM (row:=row) (good:=λ_=>True) (λr G=>by obtain⟨x,e⟩:=h r G;exact⟨x,e,trivial⟩) H
 exact⟨xs,e⟩
theorem zl6{r:List D}(h:y8 r [.int .i64]):∃ n:Int,r=[int n]:=by
 obtain⟨_,_,rfl,g1,r1⟩:=h.zU
 obtain rfl:=r1.ja
 obtain⟨a,rfl,_⟩:=g1.xI
 exact⟨a,rfl⟩
theorem Xd{d:D}(h:yN d (.sl [.int .i64])):∃ l,d=ints l:=wJ (row:=λn:Int=>[int n]) (λr H=>zl6 H) h
theorem zkb{r:List D}(h:y8 r [.str,.int .i64]):∃ p:Phon,r=p.row:=by
 obtain⟨_,_,rfl,g1,r1⟩:=h.zU
 obtain⟨_,_,rfl,g2,r2⟩:=r1.zU
 obtain rfl:=r2.ja
 obtain⟨a,rfl,_⟩:=g1.gW
 obtain⟨b,rfl,_⟩:=g2.xI
 exact⟨⟨a,b⟩,rfl⟩
theorem zkc{r:List D}(h:y8 r [.str,.sl [.int .i64]]):∃ p:Grap,r=p.row:=by
 obtain⟨_,_,rfl,g1,r1⟩:=h.zU
 obtain⟨_,_,rfl,g2,r2⟩:=r1.zU
 obtain rfl:=r2.ja
 obtain⟨a,rfl,_⟩:=g1.gW
 obtain⟨b,rfl⟩:=Xd g2
 exact⟨⟨a,b⟩,rfl⟩
theorem IA{r:List D}(h:y8 r [.str]):∃ s:ByteArray,r=[.str s]:=by
 obtain⟨_,_,rfl,g1,r1⟩:=h.zU
 obtain rfl:=r1.ja
 obtain⟨a,rfl,_⟩:=g1.gW
 exact⟨a,rfl⟩
theorem zkd{r:List D}(h:y8 r [.sl [.str]]):∃ l:List ByteArray,r=[.sl (l.map λs=>[.str s])]:=by
 obtain⟨_,_,rfl,g1,r1⟩:=h.zU
 obtain rfl:=r1.ja
 obtain⟨l,rfl⟩:=wJ (row:=λs:ByteArray=>[D.str s]) (λr H=>IA H) g1
 exact⟨l,rfl⟩
theorem W4{r:List D}(h:y8 r [.int .i64,.int .i64]):∃ a b:Int,r=[int a,int b]:=by
 obtain⟨_,_,rfl,g1,r1⟩:=h.zU
 obtain⟨_,_,rfl,g2,r2⟩:=r1.zU
 obtain rfl:=r2.ja
 obtain⟨a,rfl,_⟩:=g1.xI
 obtain⟨b,rfl,_⟩:=g2.xI
 exact⟨a,b,rfl⟩
theorem IB{d:D}(h:yN d (.sl [.int .i64,.int .i64])):∃ l,d=wm l:=wJ (row:=Cls.row) (λr H=>by obtain⟨a,b,rfl⟩:=W4 H;exact⟨⟨a,b⟩,rfl⟩) h
theorem zke{r:List D}(h:y8 r [.sl [.int .i64],.sl [.int .i64],.sl [.int .i64,.int .i64],.sl [.int .i64,.int .i64],.bool,.bool]):∃ x:Rule,r=x.row:=by
 obtain⟨_,_,rfl,g1,r1⟩:=h.zU
 obtain⟨_,_,rfl,g2,r2⟩:=r1.zU
 obtain⟨_,_,rfl,g3,r3⟩:=r2.zU
 obtain⟨_,_,rfl,g4,r4⟩:=r3.zU
 obtain⟨_,_,rfl,g5,r5⟩:=r4.zU
 obtain⟨_,_,rfl,g6,r6⟩:=r5.zU
 obtain rfl:=r6.ja
 obtain⟨a,rfl⟩:=Xd g1
 obtain⟨b,rfl⟩:=Xd g2
 obtain⟨c,rfl⟩:=IB g3
 obtain⟨d,rfl⟩:=IB g4
 obtain⟨e,rfl⟩:=g5.U4
 obtain⟨f,rfl⟩:=g6.U4
 exact⟨⟨a,b,c,d,e,f⟩,rfl⟩
theorem zl7{r:List D}(h:y8 r [.int .i64,.int .i64,.int .i64]):∃ x:Stp,r=x.row:=by
 obtain⟨_,_,rfl,g1,r1⟩:=h.zU
 obtain⟨a,b,rfl⟩:=W4 r1
 obtain⟨c,rfl,_⟩:=g1.xI
 exact⟨⟨c,a,b⟩,rfl⟩
theorem zkf{r:List D}(h:y8 r [.str,.str]):∃ x:Sens,r=x.row:=by
 obtain⟨_,_,rfl,g1,r1⟩:=h.zU
 obtain⟨b,rfl⟩:=IA r1
 obtain⟨a,rfl,_⟩:=g1.gW
 exact⟨⟨a,b⟩,rfl⟩
theorem zhi{d:D}(h:yN d (.sl [.sl [.int .i64]])):∃ l,d=yG l:=wJ (row:=λa:List Int=>[ints a]) (λr H=>by
 obtain⟨_,_,rfl,g1,r1⟩:=H.zU
 obtain rfl:=r1.ja
 obtain⟨a,rfl⟩:=Xd g1
 exact⟨a,rfl⟩) h
abbrev IC:List Sh:=[.int .i64,.sl [.int .i64],.int .i64,.sl [.sl [.int .i64]],.int .i64,.sl [.str,.str],.sl [.int .i64,.int .i64],.sl [.int .i64,.int .i64]]
theorem zl8{r:List D}(h:y8 r IC):∃ x:Ent,r=x.row:=by
 obtain⟨_,_,rfl,g1,r1⟩:=h.zU
 obtain⟨_,_,rfl,g2,r2⟩:=r1.zU
 obtain⟨_,_,rfl,g3,r3⟩:=r2.zU
 obtain⟨_,_,rfl,g4,r4⟩:=r3.zU
 obtain⟨_,_,rfl,g5,r5⟩:=r4.zU
 obtain⟨_,_,rfl,g6,r6⟩:=r5.zU
 obtain⟨_,_,rfl,g7,r7⟩:=r6.zU
 obtain⟨_,_,rfl,g8,r8⟩:=r7.zU
 obtain rfl:=r8.ja
 obtain⟨a,rfl,_⟩:=g1.xI
 obtain⟨b,rfl⟩:=Xd g2
 obtain⟨c,rfl,_⟩:=g3.xI
 obtain⟨d,rfl⟩:=zhi g4
 obtain⟨e,rfl,_⟩:=g5.xI
 obtain⟨f,rfl⟩:=wJ (row:=Sens.row) (λr H=>zkf H) g6
 obtain⟨k,rfl⟩:=wJ (row:=Lnk.row) (λr H=>by obtain⟨a,b,rfl⟩:=W4 H;exact⟨⟨a,b⟩,rfl⟩) g7
 obtain⟨m,rfl⟩:=wJ (row:=Rf.row) (λr H=>by obtain⟨a,b,rfl⟩:=W4 H;exact⟨⟨a,b⟩,rfl⟩) g8
 exact⟨⟨a,b,c,d,e,f,k,m⟩,rfl⟩
abbrev ID:List Sh:=[.sl [.str,.int .i64],.str,.sl [.str,.sl [.int .i64]],.sl [.sl [.str]],.sl [.sl [.int .i64],.sl [.int .i64],.sl [.int .i64,.int .i64],.sl [.int .i64,.int .i64],.bool,.bool],.int .i64,.sl [.int .i64,.int .i64,.int .i64],.sl [.int .i64],.sl IC]
theorem zde{l:List D}(h:y8 l ID):∃ g:Lang,D.agg l=g.d:=by
 obtain⟨_,_,rfl,g1,r1⟩:=h.zU
 obtain⟨_,_,rfl,g2,r2⟩:=r1.zU
 obtain⟨_,_,rfl,g3,r3⟩:=r2.zU
 obtain⟨_,_,rfl,g4,r4⟩:=r3.zU
 obtain⟨_,_,rfl,g5,r5⟩:=r4.zU
 obtain⟨_,_,rfl,g6,r6⟩:=r5.zU
 obtain⟨_,_,rfl,g7,r7⟩:=r6.zU
 obtain⟨_,_,rfl,g8,r8⟩:=r7.zU
 obtain⟨_,_,rfl,g9,r9⟩:=r8.zU
 obtain rfl:=r9.ja
 obtain⟨a,rfl⟩:=wJ (row:=Phon.row) (λr H=>zkb H) g1
 obtain⟨b,rfl,_⟩:=g2.gW
 obtain⟨c,rfl⟩:=wJ (row:=Grap.row) (λr H=>zkc H) g3
 obtain⟨d,rfl⟩:=wJ (row:=λr:List ByteArray=>[D.sl (r.map λs=>[.str s])]) (λr H=>zkd H) g4
 obtain⟨e,rfl⟩:=wJ (row:=Rule.row) (λr H=>zke H) g5
 obtain⟨f,rfl,_⟩:=g6.xI
 obtain⟨k,rfl⟩:=wJ (row:=Stp.row) (λr H=>zl7 H) g7
 obtain⟨m,rfl⟩:=Xd g8
 obtain⟨n,rfl⟩:=wJ (row:=Ent.row) (λr H=>zl8 H) g9
 exact⟨⟨a,⟨b,c,d⟩,e,⟨f,k,m⟩,n⟩,rfl⟩
theorem zhj{g:Lang}(h:js 1048576 g.d):LangC g:=by
 simp only[Lang.d,js,Caps,Cap,zP,zS,wj,xo,stepsD,ints,zj,int,List.length_map,and_true] at h
 obtain⟨⟨a1,a2⟩,b1,⟨c1,c2⟩,⟨d1,d2⟩,⟨e1,e2⟩,_,⟨k1,_⟩,⟨m1,_⟩,n1,n2⟩:=h
 refine {inv:=⟨a1,λp hp=>?_⟩,orth:=⟨b1,λu hu=>?_,λL hL=>?_,c1,d1⟩,rules:=⟨e1,λr hr=>?_⟩,steps:=k1,final:=m1,lex:=⟨n1,λe he=>?_⟩}
 .have:=k9 a2 p hp
  simp only[Phon.row,Caps,Cap,int] at this;exact this.1
 .have:=k9 c2 u hu
  simp only[Grap.row,Caps,Cap,int,ints,List.length_map] at this;exact⟨this.1,this.2.1.1⟩
 .have:=k9 d2 L hL
  simp only[Caps,Cap,List.length_map] at this;refine⟨this.1.1,λs hs=>?_⟩
  have:=k9 this.1.2 s hs
  simp only[Caps,Cap] at this;exact this.1
 .have:=k9 e2 r hr
  simp only[Rule.row,Caps,Cap,int,ints,List.length_map] at this;exact⟨this.1.1,this.2.1.1⟩
 .have:=k9 n2 e he
  simp only[Ent.row,Caps,Cap,int,ints,yG,ye,x9,jr,List.length_map] at this;obtain⟨_,⟨f1,_⟩,_,⟨g1,g2⟩,_,⟨s1,s2⟩,⟨l1,_⟩,⟨r1,_⟩,_⟩:=this;refine⟨f1,⟨g1,λw hw=>?_⟩,⟨s1,λs hs=>?_⟩,l1,r1⟩
  .have:=k9 g2 w hw
   simp only[Caps,Cap,List.length_map] at this;exact this.1.1
  .have:=k9 s2 s hs
   simp only[Sens.row,Caps,Cap] at this;exact⟨this.1,this.2.1⟩
structure AllOk(g:Lang)(w:List Int)(L:List (List Prt)):Prop where
 few:L.length<=200
 form:∀ q∈L,(vm g q).2=0/\(vm g q).1=w/\q.length<=4
 up:L.Pairwise λa b=>yh a b=true
 base:∀ q∈L,y9 g.lex q∈JU g w
 all:∀ b∈JU g w,∃ q∈L,y9 g.lex q=b
theorem zl9{g:Lang}(H:LightF g)(w:List Int):((yD g w).2≠0->(yD g w).1=[])/\((yD g w).2=0->AllOk g w (yD g w).1):=by
 rw[zl4]
 by_cases G:vL g.inv w≠0
 .rw[if_pos G]
  exact⟨λ_=>rfl,λh=>absurd h G⟩
 rw[if_neg G]
 by_cases h:200<(allT g w).length
 .rw[if_pos h]
  exact⟨λ_=>rfl,λh=>by cases h⟩
 rw[if_neg h]
 refine⟨λh=>absurd rfl h,λ_=>⟨?_,λq F=>zhh H (GL.1 F),zc9 (ze5 H w),λq F=>?_,λb hb=>?_⟩⟩
 .show(Ye (allT g w)).length<=200
  rw[zj9];omega
 .obtain⟨a,E,K⟩:=GM.1 (GL.1 F)
  rw[Ir K];exact(Iw H).2 ⟨a,E,rfl⟩
 .obtain⟨a,E,rfl⟩:=(Iw H).1 hb
  exact⟨a,GL.2 (GM.2 ⟨a,E,Iu H (Xc E).parts⟩),rfl⟩
end Go.V
namespace Go.V
open Go
section
variable {P:Program} {p q:List Nat} {l:List Oper}
variable {st:St}
end
end Go.V
namespace Go.V
open Go
section
variable {P:Program} {ops:Array Oper} {Q:Exit->Act->World->Prop}
end
section
variable {P:Program} {x y:Nat} {l:List Oper}
variable {p q:List Nat} {st:St}
end
end Go.V
namespace Go.V
open Go Go.Proofs
section
variable {P:Program} {st:St} {Q:DE->St->Prop}
end
end Go.V
namespace Go.V
open Go Go.Proofs
def kg(s t:ByteArray):Bool:=decide (t.size<=s.size)&&decide (s.extract 0 t.size=t)
def jT(us:List Grap)(t:ByteArray):Nat->Option Nat
 |0=>none
 |k+1=>match us[k]? with
  |none=>jT us t k
  |some u=>if kg t u.graph=true then (match jT us t k with
    |none=>some k
    |some b=>if ((us[b]?.map λv=>v.graph.size).getD 0)<u.graph.size then some k else some b)
   else jT us t k
def Zp:Option Nat->Int
 |none=>-1
 |some b=>b
theorem Yf{us:List Grap}{t:ByteArray}:∀ {k b:Nat},jT us t k=some b->b<k/\b<us.length
 |0,b,h=>by cases h
 |k+1,b,h=>by
  unfold jT at h;split at h
  .exact⟨by have:=(Yf h).1;omega,(Yf h).2⟩
  .rename_i u F
   have H:k<us.length:=(List.getElem?_eq_some_iff.1 F).1
   split at h
   .split at h
    .obtain rfl:=Option.some.inj h;exact⟨by omega,H⟩
    .rename_i b' G
     split at h
     .obtain rfl:=Option.some.inj h;exact⟨by omega,H⟩
     .obtain rfl:=Option.some.inj h
      exact⟨by have:=(Yf G).1;omega,(Yf G).2⟩
   .exact⟨by have:=(Yf h).1;omega,(Yf h).2⟩
def vq(us:List Grap)(s:ByteArray):Nat->Nat->List Nat×Nat
 |0,at_=>([],at_)
 |f+1,at_=>if at_<s.size then (match jT us (s.extract at_ s.size) us.length with
   |none=>([],at_)
   |some b=>(b::(vq us s f (at_+((us[b]?.map λv=>v.graph.size).getD 0))).1,(vq us s f (at_+((us[b]?.map λv=>v.graph.size).getD 0))).2))
  else ([],at_)
def uC(l:List Nat):D:=.sl (l.map λ(n:Nat)=>[int (n:Int)])
theorem IE{us:List Grap}{s:ByteArray}:∀ {f at_:Nat},∀ b∈(vq us s f at_).1,b<us.length
 |0,_,b,h=>by cases h
 |f+1,at_,b,h=>by
  unfold vq at h;split at h
  .split at h
   .cases h
   .rename_i c H
    rcases List.mem_cons.1 h with e | h
    .rw[e];exact(Yf H).2
    .exact IE b h
  .cases h
theorem IF{us:List Grap}{s:ByteArray}:∀ {f at_:Nat},(vq us s f at_).1.length<=f
 |0,_=>Nat.le_refl _
 |f+1,at_=>by
  unfold vq;split
  .split
   .exact Nat.zero_le _
   .rw[List.length_cons];exact Nat.succ_le_succ IF
  .exact Nat.zero_le _
def wK(us:List Grap)(l:List Nat):List Int:=l.flatMap λb=>(us[b]?.map λv=>v.segs).getD []
def qg(us:List Grap)(s:ByteArray):List Int×Int×Int:=
 if s.size=0 then ([],0,4) else if (vq us s s.size 0).2<s.size then ([],(vq us s s.size 0).2,20) else if 24<(wK us (vq us s s.size 0).1).length then ([],0,5) else (wK us (vq us s s.size 0).1,0,0)
theorem ze6{us:List Grap}{l:List Nat}{k b:Nat}{v:Grap}(h:k<l.length)(H:l[k]=b)(G:us[b]?=some v):wK us (l.take (k+1))=wK us (l.take k)++v.segs:=by
 unfold wK
 rw[yH h,List.flatMap_append,List.flatMap_singleton,H,G]
 rfl
theorem IG{us:List Grap}(hs:∀ u∈us,u.segs.length<=1048576):∀ l:List Nat,(wK us l).length<=l.length*1048576
 | []=>by simp[wK]
 |b::l=>by
  have ih:=IG hs l;unfold wK at ih ⊢;rw[List.flatMap_cons,List.length_append,List.length_cons];have:((us[b]?.map λv=>v.segs).getD []).length<=1048576:=by
   cases h:us[b]? with
   |none=>simp
   |some v=>exact hs v (List.mem_of_getElem? h)
  omega
def Zq(us:List Grap):Nat:=us.foldl (λm u=>max m u.graph.size) 0
theorem ze7{us:List Grap}{k:Nat}{u:Grap}(h:k<us.length)(H:us[k]=u):Zq (us.take (k+1))=max (Zq (us.take k)) u.graph.size:=by
 unfold Zq
 rw[yH h,List.foldl_append,H];rfl
theorem ze8(us:List Grap):∀ m,m<=us.foldl (λm u=>max m u.graph.size) m/\∀ u∈us,u.graph.size<=us.foldl (λm u=>max m u.graph.size) m:=by
 induction us with
 |nil=>intro m;exact⟨Nat.le_refl _,λu h=>by cases h⟩
 |cons v us ih=>
  intro m;obtain⟨H,G⟩:=ih (max m v.graph.size);rw[List.foldl_cons];refine⟨by omega,λu F=>?_⟩
  rcases List.mem_cons.1 F with e | F
  .rw[e];omega
  .exact G u F
theorem zkg{us:List Grap}{u:Grap}(h:u∈us):u.graph.size<=Zq us:=(ze8 us 0).2 u h
theorem zhk{us:List Grap}{c:Nat}(h:∀ u∈us,u.graph.size<=c):∀ m,m<=c->us.foldl (λm u=>max m u.graph.size) m<=c:=by
 induction us with
 |nil=>intro m H;exact H
 |cons v us ih=>
  intro m H;rw[List.foldl_cons];exact ih (λu G=>h u (List.mem_cons_of_mem _ G)) _ (by have:=h v (List.mem_cons_self ..);omega)
theorem zhl{s t:ByteArray}{at_:Nat}(h:kg (s.extract at_ s.size) t=true):t.size<=s.size-at_:=by
 unfold kg at h
 rw[Bool.and_eq_true,decide_eq_true_eq] at h
 have:=h.1
 simp at this
 omega
theorem zma{s:ByteArray}{at_ n:Nat}(h:at_+n<=s.size):(s.extract at_ s.size).extract 0 n=s.extract at_ (at_+n):=by
 rw[ByteArray.extract_extract]
 congr 1
 omega
theorem GU{s t:ByteArray}{at_ n:Nat}(H:t.size=n)(h:at_+n<=s.size):kg (s.extract at_ s.size) t=true↔t=s.extract at_ (at_+n):=by
 unfold kg
 rw[Bool.and_eq_true,decide_eq_true_eq,decide_eq_true_eq,H,zma h]
 constructor
 .rintro⟨_,e⟩;exact e.symm
 .intro e;exact⟨by rw[ByteArray.size_extract];omega,e.symm⟩
theorem GV{us:List Grap}{t:ByteArray}(h:∀ u∈us,kg t u.graph=false):∀ {k:Nat},jT us t k=none
 |0=>rfl
 |k+1=>by
  rw[jT];cases H:us[k]? with
  |none=>exact GV h
  |some u=>
   simp only
   rw[if_neg (by rw[h u (List.mem_of_getElem? H)];decide)]
   exact GV h
theorem II{us:List Grap}{t:ByteArray}{i:Nat}{v:Grap}(Q:us[i]?=some v)(T:kg t v.graph=true)(H:∀ u∈us,kg t u.graph=true->u.graph.size<=v.graph.size)
  (G:∀ u∈us.take i,kg t u.graph=true->u.graph.size<v.graph.size):∀ {k:Nat},(k<=i->∀ b,jT us t k=some b->∃ w∈us.take i,us[b]?=some w/\kg t w.graph=true)/\(i<k->jT us t k=some i)
 |0=>⟨(by intro _ b h;cases h),(by intro h;omega)⟩
 |k+1=>by
  obtain⟨V,X⟩:=II Q T H G (k:=k);have O:i<us.length:=(List.getElem?_eq_some_iff.1 Q).1
  constructor
  .intro Y b h
   have K:k<us.length:=by omega
   have ek:us[k]?=some us[k]:=List.getElem?_eq_getElem K
   have E:us[k]∈us.take i:=List.mem_iff_getElem.2 ⟨k,by rw[List.length_take];omega,by rw[List.getElem_take]⟩
   rw[jT,ek] at h;simp only at h
   split at h
   .rename_i F
    split at h
    .obtain rfl:=Option.some.inj h;exact⟨_,E,ek,F⟩
    .rename_i b' hb'
     split at h
     .obtain rfl:=Option.some.inj h;exact⟨_,E,ek,F⟩
     .obtain rfl:=Option.some.inj h;exact V (by omega) _ hb'
   .exact V (by omega) b h
  .intro Y
   rw[jT];by_cases J:k=i
   .subst J
    rw[Q];simp only
    rw[if_pos T];cases F:jT us t k with
    |none=>rfl
    |some b=>
     simp only
     obtain⟨w,Z,ew,L⟩:=V (Nat.le_refl _) b F;rw[ew,Option.map_some,Option.getD_some,if_pos (G w Z L)]
   .rw[X (by omega)]
    cases A:us[k]? with
    |none=>rfl
    |some u=>
     simp only
     split
     .rename_i M
      rw[Q,if_neg (by have:=H u (List.mem_of_getElem? A) M;simp;omega)]
     .rfl
theorem ze9(o:Orth)(P:OrthC o)(S:∀ u∈o.units,0<u.graph.size)(s:ByteArray)(hs:s.size<2^30):zl Tryz.prog 169 [.agg o.cells,.str s] (.tup [uC (vq o.units s s.size 0).1,int (vq o.units s s.size 0).2]):=by
 refine zp mixed Tryz.func169 rfl c_169 ?_
 have X:=P.few.1
 obtain⟨T,eT⟩:∃ T,vq o.units s s.size 0=T:=⟨_,rfl⟩
 rw[eT]
 simp+decide[Tryz.f169,int,Orth.cells,zS]
 refine xn mixed (λk:Nat=>{n:=68,next:=2,slots:=[(1,.d (.str s)),(2,.bp 0 0),(6,.d (int (Zq (o.units.take k)))),(15,.d (zS o.units)),(16,.d (int o.units.length)),(17,.d (int k))],own:=[(0,.box 28 (o.cells.map .d))]})
  (λk=>k<=o.units.length) (λk=>o.units.length-k) 0 (Nat.zero_le _) ?_ ?_
 .simp+decide[int,zS,Orth.cells,Zq]
 intro k W
 refine zL mixed ?_
 by_cases G:k<o.units.length
 case pos=>
  have H:(k:Int)<o.units.length:=by omega
  obtain⟨u,eu⟩:∃ u,o.units[k]=u:=⟨_,rfl⟩;have eu1:o.units[k]?=some u:=by rw[List.getElem?_eq_getElem G,eu]
  have Y:=(P.units o.units[k] (List.getElem_mem G)).1;rw[eu] at Y;have hm:=ze7 G eu;simp+decide[int,zS,Orth.cells,G,H,eu,eu1,Grap.row,I64];refine⟨⟨by omega,by omega⟩,k+1,G,by omega,?_,by omega⟩
  rw[hm];split <;> omega
 have:k=o.units.length:=by omega
 subst this
 rw[List.take_length]
 simp+decide[int,zS,Orth.cells]
 have Z:Zq o.units<=1048576:=zhk (λu hu=>(P.units u hu).1) 0 (by omega)
 have V:=λu=>zkg (us:=o.units) (u:=u)
 generalize Zq o.units=most at Z V
 refine xn mixed (λx:List Nat×Nat=>{n:=68,next:=3,slots:=[(1,.d (.str s)),(2,.bp 0 0),(6,.d (int most)),(9,.ar 2),(10,.d (int x.2))],own:=[(0,.box 28 (o.cells.map .d)),(2,.arr 3 1 (x.1.map λ(n:Nat)=>[int (n:Int)]))],moved:=[2]})
  (λx=>x.2<=s.size/\x.1.length<=x.2/\∃ f,s.size-x.2<=f/\T=(x.1++(vq o.units s f x.2).1,(vq o.units s f x.2).2)) (λx=>s.size-x.2) ([],0) ⟨Nat.zero_le _,Nat.zero_le _,s.size,by omega,by rw[<-eT];rfl⟩ ?_ ?_
 .simp+decide[int,ints,Orth.cells,zS]
 rintro⟨out,at_⟩ ⟨A,B,f,hf,hT⟩
 simp only at A B hf hT
 refine zL mixed ?_
 by_cases G:at_<s.size
 case neg=>
  have hu:vq o.units s f at_=([],at_):=by
   cases f with
   |zero=>rfl
   |succ f=>rw[vq,if_neg G]
  rw[hu,List.append_nil] at hT;subst hT;have H:¬(at_:Int)<s.size:=by omega
  simp+decide[int,ints,Orth.cells,G,H,uC]
 have H:(at_:Int)<s.size:=by omega
 obtain⟨f,rfl⟩:∃ f',f=f'+1:=⟨f-1,by omega⟩
 rw[vq,if_pos G] at hT
 simp+decide[int,ints,Orth.cells,zS,G,H,I64]
 refine⟨by omega,?_⟩
 refine xn mixed (λn:Nat=>{n:=68,next:=3,slots:=[(1,.d (.str s)),(2,.bp 0 0),(6,.d (int most)),(9,.ar 2),(10,.d (int at_)),(11,.d (int n))],own:=[(0,.box 28 (o.cells.map .d)),(2,.arr 3 1 (out.map λ(n:Nat)=>[int (n:Int)]))],moved:=[2]})
  (λn=>n<=s.size-at_/\∀ u∈o.units,kg (s.extract at_ s.size) u.graph=true->u.graph.size<=n) (λn=>n) (min most (s.size-at_)) ⟨by omega,λu hu hb=>?_⟩ ?_ ?_
 .have h1:=V u hu
  have h2:=(zhl hb);omega
 .simp+decide[int,ints,Orth.cells,zS]
  split <;> omega
 intro n ⟨hn,F⟩
 refine zL mixed ?_
 by_cases C:n=0
 .subst C
  have I:jT o.units (s.extract at_ s.size) o.units.length=none:=GV λu hu=>by
   cases hb:kg (s.extract at_ s.size) u.graph with
   |false=>rfl
   |true=>have:=F u hu hb;have:=S u hu;omega
  rw[I] at hT;simp only[List.append_nil] at hT;subst hT;simp+decide[int,ints,Orth.cells,zS,uC]
 have L:(0:Int)<n:=by omega
 have E:0<n:=by omega
 simp+decide[int,ints,Orth.cells,zS,L,E]
 refine xn mixed (λi:Nat=>{n:=68,next:=3,slots:=[(1,.d (.str s)),(2,.bp 0 0),(6,.d (int most)),(9,.ar 2),(10,.d (int at_)),(11,.d (int n)),(42,.d (zS o.units)),(43,.d (int o.units.length)),(44,.d (int i))],own:=[(0,.box 28 (o.cells.map .d)),(2,.arr 3 1 (out.map λ(n:Nat)=>[int (n:Int)]))],moved:=[2]})
  (λi=>i<=o.units.length/\∀ u∈o.units.take i,u.graph≠s.extract at_ (at_+n)) (λi=>o.units.length-i) 0 ⟨Nat.zero_le _,λu hu=>by simp at hu⟩ ?_ ?_
 .simp+decide[int,ints,Orth.cells,zS]
 intro i ⟨hi,J⟩
 refine zL mixed ?_
 by_cases K:i<o.units.length
 case neg=>
  have:i=o.units.length:=by omega
  subst this;rw[List.take_length] at J;simp+decide[int,ints,Orth.cells,zS,I64];refine⟨by omega,n-1,⟨by omega,λu hu hb=>?_⟩,by omega,by omega⟩
  have h1:=F u hu hb;have h2:u.graph.size≠n:=λe=>J u hu ((GU e (by omega)).1 hb)
  omega
 have M:(i:Int)<o.units.length:=by omega
 obtain⟨u,eu⟩:∃ u,o.units[i]=u:=⟨_,rfl⟩
 have eu1:o.units[i]?=some u:=by rw[List.getElem?_eq_getElem K,eu]
 simp+decide[int,ints,Orth.cells,zS,I64,K,M,eu,eu1,Grap.row]
 have O:((at_:Int)+(n:Int)).toNat=at_+n:=by omega
 rw[O]
 refine⟨by omega,⟨by omega,by omega⟩,λhe=>?_,λhe=>?_⟩
 .have he:u.graph=s.extract at_ (at_+n):=by first | exact bytes_inj he | exact he
  have Q:u.graph.size=n:=by rw[he,ByteArray.size_extract];omega
  have N:=(GU Q (by omega)).2 he
  have hF:=(II (k:=o.units.length) eu1 N (λv hv hb=>by rw[Q];exact F v hv hb) (λv hv hb=>by
   have h1:=F v (List.mem_of_mem_take hv) hb;have h2:v.graph.size≠n:=λe=>J v hv ((GU e (by omega)).1 hb)
   omega)).2 K
  rw[hF] at hT;simp only at hT
  rw[eu1,Option.map_some,Option.getD_some,Q] at hT;exact⟨by omega,by unfold maxLen;omega,by omega,out++[i],at_+n,⟨by omega,by simp;omega,f,by omega,by rw[hT,List.append_assoc];rfl⟩,by omega,by omega,by simp⟩
 .refine⟨by omega,i+1,⟨K,λv hv=>?_⟩,by omega,by omega⟩
  rw[yH K,eu] at hv;rcases List.mem_append.1 hv with h | h
  .exact J v h
  .rw[List.mem_singleton] at h
   rw[h];exact λe=>he (by rw[e])
theorem GX(o:Orth)(Y:OrthC o)(Z:∀ u∈o.units,0<u.graph.size)(s:ByteArray)(hs:s.size<=1024):zl Tryz.prog 119 [.agg o.cells,.str s] (.tup [ints (qg o.units s).1,int (qg o.units s).2.1,int (qg o.units s).2.2]):=by
 have A:=ze9 o Y Z s (by omega)
 have H:=λb=>IE (us:=o.units) (s:=s) (f:=s.size) (at_:=0) b
 have O:=IF (us:=o.units) (s:=s) (f:=s.size) (at_:=0)
 refine zp mixed Tryz.func119 rfl c_119 ?_
 unfold qg
 generalize vq o.units s s.size 0=T at A H O
 obtain⟨l,e⟩:=T
 simp only at A H O
 by_cases B:s.size=0
 .have C:s=ByteArray.empty:=ByteArray.ext (Array.eq_empty_of_size_eq_zero (by simpa using B))
  subst C;simp+decide[Tryz.f119,int,ints,Orth.cells]
 rw[if_neg B]
 have C:(s.toList==[] )=false:=by
  rw[beq_eq_false_iff_ne];intro e;have:s=ByteArray.empty:=bytes_inj (e.trans (by first | simp | (unfold ByteArray.toList;rw[ByteArray.toList.loop];rfl)))
  exact B (by rw[this];rfl)
 simp+decide[Tryz.f119,int,ints,Orth.cells,C]
 refine zh A ?_
 by_cases I:e<s.size
 .have K:(e:Int)<s.size:=by omega
  simp+decide[int,ints,Orth.cells,I,K,uC]
 have K:¬(e:Int)<s.size:=by omega
 rw[if_neg I]
 simp+decide[int,ints,Orth.cells,I,K,uC]
 refine xn mixed (λk:Nat=>{n:=44,next:=3,slots:=[(2,.bp 0 0),(9,.ar 2),(25,.d (uC l)),(26,.d (int l.length)),(27,.d (int k))],own:=[(0,.box 28 (o.cells.map .d)),(2,.arr 3 1 ((wK o.units (l.take k)).map λn=>[int n]))],moved:=[2]})
  (λk=>k<=l.length) (λk=>l.length-k) 0 (Nat.zero_le _) ?_ ?_
 .simp+decide[int,ints,Orth.cells,wK,uC]
 intro k N
 refine zL mixed ?_
 by_cases F:k<l.length
 case neg=>
  have:k=l.length:=by omega
  subst this;rw[List.take_length];generalize wK o.units l=W;by_cases Q:24<W.length
  .have G:(24:Int)<W.length:=by omega
   simp+decide[int,ints,Orth.cells,uC,Q,G]
  .have G:¬(24:Int)<W.length:=by omega
   simp+decide[int,ints,Orth.cells,uC,Q,G]
 have J:(k:Int)<l.length:=by omega
 obtain⟨b,eb⟩:∃ b,l[k]=b:=⟨_,rfl⟩
 have eb1:l[k]?=some b:=by rw[List.getElem?_eq_getElem F,eb]
 have L:b<o.units.length:=by rw[<-eb];exact H _ (List.getElem_mem F)
 have M:(b:Int)<o.units.length:=by omega
 obtain⟨v,ev⟩:∃ v,o.units[b]=v:=⟨_,rfl⟩
 have ev1:o.units[b]?=some v:=by rw[List.getElem?_eq_getElem L,ev]
 have X:=(Y.units o.units[b] (List.getElem_mem L)).2
 rw[ev] at X
 have V:=ze6 (us:=o.units) F eb ev1
 have E:=IG (us:=o.units) (λu P=>(Y.units u P).2) (l.take k)
 rw[List.length_take] at E
 have E:(wK o.units (l.take k)).length<=1024*1048576:=Nat.le_trans E (Nat.mul_le_mul_right _ (by omega))
 generalize wK o.units (l.take k)=W at V E
 simp+decide[int,ints,Orth.cells,uC,zS,Grap.row,F,J,eb,eb1,L,M,ev,ev1,I64]
 exact⟨by omega,by unfold maxLen;omega,⟨by omega,by omega⟩,k+1,F,by omega,by omega,by rw[V,List.map_append]⟩
theorem GY(us:List Grap)(s:ByteArray):(qg us s).1.length<=24:=by
 unfold qg
 split
 .exact Nat.zero_le _
 .split
  .exact Nat.zero_le _
  .split
   .exact Nat.zero_le _
   .rename_i h;exact Nat.le_of_not_lt h
def uD(g:Lang)(s:ByteArray):List (List Prt)×Int:=if (qg g.orth.units s).2.2≠0 then ([],(qg g.orth.units s).2.2) else yD g (qg g.orth.units s).1
theorem zmb(g:Lang)(H:LightF g)(G:LangC g)(s:ByteArray)(hs:s.size<=1024):zl Tryz.prog 215 [g.d,.str s] (.tup [xN (uD g s).1,int (uD g s).2]):=by
 have F:=GX g.orth G.orth H.graphs s hs
 have E:=zj8 g H G (qg g.orth.units s).1 (by have:=GY g.orth.units s;omega)
 unfold uD
 generalize qg g.orth.units s=z at F E
 obtain⟨w,a,e⟩:=z
 simp only at F E
 refine zp mixed Tryz.func215 rfl c_215 ?_
 simp+decide[Tryz.f215,zq,Lang.d,int,ints]
 refine zh F ?_
 by_cases K:e=0
 case neg=>simp+decide[int,ints,xN,K]
 subst K
 simp+decide[int,ints]
 refine zh E ?_
 simp+decide[int,ints,xN]
theorem zfa{g:Lang}(H:LightF g)(w:List Int):(yD g w).1.length<=200/\∀ q∈(yD g w).1,q.length<=4:=by
 obtain⟨G,F⟩:=zl9 H w
 by_cases E:(yD g w).2=0
 .exact⟨(F E).few,λq K=>((F E).form q K).2.2⟩
 .rw[G E]
  exact⟨Nat.zero_le _,λq K=>by cases K⟩
theorem IJ{g:Lang}(H:LightF g)(s:ByteArray):(uD g s).1.length<=200/\∀ q∈(uD g s).1,q.length<=4:=by
 unfold uD
 split
 .exact⟨Nat.zero_le _,λq G=>by cases G⟩
 .exact zfa H _
end Go.V

/- Contracts and plain laws of this seat: part ME. It needs no conditions. -/
import Derived.Test.YtknekjalbninmaaGreatMD
import Derived.Test.YtknekjalbninmaaGreatMA
import Derived.Test.YtknekjalbninmaaGreatB1
import Derived.Test.YtknekjalbninmaaGreatMB
import Derived.Test.YtknekjalbninmaaGreatW1
set_option maxHeartbeats 32000000
set_option linter.unusedVariables false
set_option linter.unusedSimpArgs false
set_option linter.unusedSectionVars false
set_option maxRecDepth 100000
namespace Go.V
open Go Go.Proofs
def St.jx(st:St):St:={st with moved:=st.moved.filter (λi=>decide (i<st.base))}
theorem Mods.jx{X:Nat->Prop}{w0:Base}{st:St}{β:Nat->Value}{a:Act}{w:World}(G:Mods X w0 st β a w):Mods X w0 st.jx β a w:=
 {G with still:=⟨G.still.1,λid hid hk=>G.still.2 id hid (λH=>hk (List.mem_filter.2 ⟨H,decide_eq_true hid⟩))⟩}
def kO(Q:St->Prop):St->Prop:=λst=>Q st.jx
theorem G5{P:Program}(F:P.follows .mixedOrders=true){f:Nat}{fn:Func}{c:Code}(E:P.funcs[f]?=some fn)(K:fn.body=some c)(H:callable P f=true)
  {args:List Sym} {own:List (Nat×Obj')} {n:Nat} {s:Sym} {nx:Nat} {own':List (Nat×Obj')} {mv:List Nat} (J:Sym.los n args)
  (h:ev P c (jG (kO (uE P fn.results.toList n s nx own' mv))) (initC fn.ntmps args own n)):zJ P f args own n s nx own' mv:=by
 refine⟨H,λX w0 β w vs hβ L hs=>?_⟩
 refine calls_of_wp E K ?_
 refine wp_mono (zL F h X w0 _ _ w (L.initC hs J)) ?_
 rintro e a' w' ⟨de,st',β',M,O,G⟩
 cases e <;> cases de <;> simp only[yr] at M
 .obtain⟨v,Q,T,V,Y⟩:=uF L.defers G.jx O
  exact⟨G.defers.trans L.defers.symm,v,Q,β',v,rfl,T,V,Y⟩
 .exact O.elim
 .obtain⟨v,Q,T,V,Y⟩:=uF L.defers G.jx O
  exact⟨G.defers.trans L.defers.symm,v,Q,β',v,rfl,T,V,Y⟩
abbrev yF:=List (List Prt)×Bool
def yX(x:yF)(a:List Prt):yF×Bool:=if x.1.length=200 then ((x.1,true),false) else ((insL (λo=>ya a o) a x.1,x.2),true)
def xo(x:yF):List (Nat×Obj'):=[(0,.box 241 [.ar 2]),(1,.box 4 [.d (.bool x.2)]),(2,.arr 39 1 (x.1.map λa=>[zl a]))]
theorem AP(x:yF)(Y:x.1.length<=200)(V:∀ b∈x.1,b.length<2^40)(a:List Prt)(Z:a.length<2^40):
  zJ Tryz.prog 269 [.d (zM a),.bp 0 0,.bp 1 0] (xo x) 3 (.d (.bool (yX x a).2)) 3 (xo (yX x a).1) [2]:=by
 obtain⟨out,full⟩:=x
 simp only at Y V
 refine G5 mixed Tryz.func269 rfl c_269 (by simp[Sym.los,Sym.lo]) ?_
 unfold yX
 by_cases E:out.length=200
 .have G:(out.length:Int)=200:=by omega
  simp+decide[Tryz.f269,xo,int,zM,zl,E,G,kO,St.jx];done
 have G:¬(out.length:Int)=200:=by omega
 simp+decide[Tryz.f269,xo,int,zM,zl,E,G,kO,St.jx]
 refine yU mixed (λk:Nat=>{n:=40,next:=4,slots:=[(1,.bp 0 0),(2,.bp 1 0),(3,.bp 3 0),(5,.d (int k))],own:=(3,.box 39 [.d (zl a)])::xo (out,full),base:=3})
  (λk=>k<=out.length/\qQ (λo=>ya a o) out k=qQ (λo=>ya a o) out out.length) (λk=>k) out.length ⟨Nat.le_refl _,rfl⟩ ?_ ?_
 .simp+decide[xo,int,zM,zl]
 intro k ⟨A,H⟩
 by_cases X:0<k
 case neg=>
  have B:qQ (λo=>ya a o) out out.length=k:=by
   rw[<-H];have:k=0:=by omega
   subst this;rfl
  have O:¬(0:Int)<k:=by omega
  refine zL mixed ?_
  simp+decide[xo,int,zM,zl,I64,X,O];unfold insL;rw[B];clear H;generalize k=p at *;refine⟨by omega,by unfold maxLen;omega,?_⟩
  refine Yr mixed 7 (by rfl) (by rfl) (by rfl) (by rfl) (by simp) ?_
  have K:¬(p:Int)=(out.length:Int)+1:=by omega
  by_cases Q:p=out.length
  .subst Q
   simp+decide[int,zl,u32,I64,kO,St.jx,K];exact⟨⟨by omega,by omega⟩,by omega,by omega,by omega⟩
  .have T:p<out.length:=by omega
   have F:¬(p:Int)=(out.length:Int):=by omega
   have C:p+(out.length+1-p)=out.length+1:=by omega
   obtain⟨a1,a2,a3⟩:=ET (R:=out.map (λa=>[zl a])) (by intro r I;obtain⟨y,_,rfl⟩:=List.mem_map.1 I;rfl) (nr:=[.sl []]) rfl (zl a) (p:=p) (L:=out.length) (by simp) T
   unfold Y1 at a2 a3;simp only[zl] at a1 a2 a3;simp+decide[int,zl,u32,I64,kO,St.jx,K,F,C];refine⟨⟨by omega,by omega⟩,⟨by omega,A⟩,by omega,a1,by omega,by omega,by omega,a2,a3⟩
 obtain⟨j,rfl⟩:∃ j,k=j+1:=⟨k-1,by omega⟩
 have M:j<out.length:=by omega
 have J:(j:Int)<out.length:=by omega
 obtain⟨o,eo⟩:∃ o,out[j]=o:=⟨_,rfl⟩
 have e1:out[j]?=some o:=by rw[List.getElem?_eq_getElem M,eo]
 have N:=AI a o (by omega) (by have:=V out[j] (List.getElem_mem M);rw[eo] at this;omega)
 rw[qQ,e1] at H
 simp only at H
 refine zL mixed ?_
 simp+decide[xo,int,zM,zl,I64,M,J,eo,e1]
 refine⟨by omega,?_⟩
 refine scp N ?_
 cases P:ya a o with
 |true=>
  rw[if_pos P] at H;simp+decide[xo,int,zM,zl,I64,P];exact⟨by omega,j,⟨by omega,H⟩,by omega,rfl⟩
 |false=>
  rw[if_neg (by rw[P];decide)] at H
  simp+decide[xo,int,zM,zl,I64,P];unfold insL;rw[<-H];rw[show(j:Int)+1=((j+1:Nat):Int) from by omega]
  clear H e1 eo M J X;generalize j+1=p at *;refine⟨by omega,by unfold maxLen;omega,?_⟩
  refine Yr mixed 7 (by rfl) (by rfl) (by rfl) (by rfl) (by simp) ?_
  have K:¬(p:Int)=(out.length:Int)+1:=by omega
  by_cases Q:p=out.length
  .subst Q
   simp+decide[int,zl,u32,I64,kO,St.jx,K];exact⟨⟨by omega,by omega⟩,by omega,by omega,by omega⟩
  .have T:p<out.length:=by omega
   have F:¬(p:Int)=(out.length:Int):=by omega
   have C:p+(out.length+1-p)=out.length+1:=by omega
   obtain⟨a1,a2,a3⟩:=ET (R:=out.map (λa=>[zl a])) (by intro r I;obtain⟨y,_,rfl⟩:=List.mem_map.1 I;rfl) (nr:=[.sl []]) rfl (zl a) (p:=p) (L:=out.length) (by simp) T
   unfold Y1 at a2 a3;simp only[zl] at a1 a2 a3;simp+decide[int,zl,u32,I64,kO,St.jx,K,F,C];refine⟨⟨by omega,by omega⟩,⟨by omega,A⟩,by omega,a1,by omega,by omega,by omega,a2,a3⟩
end Go.V
namespace Go.V
open Go Go.Proofs
section
variable {σ α:Type}
def xp(G:σ->α->σ×Bool):σ×Bool->List α->σ×Bool
 |z,[]=>z
 |z,a::r=>if z.2=false then z else xp G (G z.1 a) r
theorem YU(G:σ->α->σ×Bool)(z:σ×Bool)(a:α)(r:List α):xp G z (a::r)=if z.2=false then z else xp G (G z.1 a) r:=rfl
theorem QR{G:σ->α->σ×Bool}{z:σ×Bool}(h:z.2=false):∀ l,xp G z l=z
 | []=>rfl
 |a::r=>by rw[YU,if_pos h]
theorem JK{G:σ->α->σ×Bool}:∀ (z:σ×Bool) (l r:List α),xp G z (l++r)=xp G (xp G z l) r
 |z,[],r=>rfl
 |z,a::l,r=>by
  rw[List.cons_append,YU,YU];by_cases h:z.2=false
  .rw[if_pos h,if_pos h]
   exact(QR h r).symm
  .rw[if_neg h,if_neg h]
   exact JK _ l r
end
def qg(g:Lang):Nat->List Prt->Nat->List (List Prt)
 |0,p,_=>[p]
 |f+1,p,i=>(List.range (xM g.lex (p.getD i ⟨0,0,0⟩).entry).length).flatMap λ(k:Nat)=>qg g f (p.set i ⟨(p.getD i ⟨0,0,0⟩).entry,(p.getD i ⟨0,0,0⟩).alt,k⟩) (i+1)
def allI(x:yF):Prop:=x.1.length<=200/\∀ b∈x.1,b.length<=4
theorem AQ{x:yF}(h:allI x){a:List Prt}(H:a.length<=4):allI (yX x a).1:=by
 unfold yX
 split
 .exact h
 .rename_i hl
  refine⟨by simp only[QQ];have:=h.1;omega,λb G=>?_⟩
  rcases Zf.1 G with e | e
  .rw[e];exact H
  .exact h.2 b e
theorem G6:∀ (l:List (List Prt)) (z:yF×Bool),allI z.1->(∀ a∈l,a.length<=4)->allI (xp yX z l).1
 | [],z,h,_=>h
 |a::l,z,h,H=>by
  rw[YU];split
  .exact h
  .exact G6 l _ (AQ h (H a (List.mem_cons_self ..))) λb G=>H b (List.mem_cons_of_mem _ G)
theorem G7(g:Lang):∀ (f:Nat) (p:List Prt) (i:Nat),∀ q∈qg g f p i,q.length=p.length
 |0,p,i,q,h=>by rw[qg,List.mem_singleton] at h;rw[h]
 |f+1,p,i,q,h=>by
  rw[qg,List.mem_flatMap] at h;obtain⟨k,_,h⟩:=h;rw[G7 g f _ _ q h,List.length_set]
def vh(g:Lang)(f:Nat)(p:List Prt)(i k:Nat):List (List Prt):=(List.range k).flatMap λ(k:Nat)=>qg g f (p.set i ⟨(p.getD i ⟨0,0,0⟩).entry,(p.getD i ⟨0,0,0⟩).alt,k⟩) (i+1)
theorem EU(g:Lang)(f:Nat)(p:List Prt)(i k:Nat):vh g f p i (k+1)=vh g f p i k++qg g f (p.set i ⟨(p.getD i ⟨0,0,0⟩).entry,(p.getD i ⟨0,0,0⟩).alt,k⟩) (i+1):=by
 unfold vh;rw[List.range_succ,List.flatMap_append,List.flatMap_singleton]
theorem EV(g:Lang)(f:Nat)(p:List Prt)(i:Nat)(z:yF×Bool)(k:Nat)(h:(xp yX z (vh g f p i k)).2=false):∀ d,xp yX z (vh g f p i (k+d))=xp yX z (vh g f p i k)
 |0=>rfl
 |d+1=>by
  rw[<-Nat.add_assoc,EU,JK,EV g f p i z k h d];exact QR h _
theorem EW{l:List Ent}(h:∀ e∈l,e.senses.length<2^40):∀ ids,(jN l ids).length<2^40
 | []=>by simp[jN]
 |x::r=>by
  unfold jN;split
  .unfold zG
   cases H:l.find? (·.id=x) with
   |none=>simp[Ent.zero]
   |some e=>exact h e (List.mem_of_find?_eq_some H)
  .exact EW h r
def JL(g:Lang)(f:Nat):Prop:=∀ (x:yF) (p:List Prt) (i:Nat),allI x->p.length<=4->i+f=p.length ->
 zJ Tryz.prog 273 [.d g.d,.d (zl p),.d (int i),.fn 269 [.bp 0 0,.bp 1 0]] (xo x) 3 (.d (.bool (xp yX (x,true) (qg g f p i)).2)) 3 (xo (xp yX (x,true) (qg g f p i)).1) [2]
theorem AS(g:Lang):JL g 0:=by
 intro x p i F E hi
 have G:(i:Int)=p.length:=by omega
 have H:=AP x F.1 (λb K=>by have:=F.2 b K;omega) p (by omega)
 rw[show xp yX (x,true) (qg g 0 p i)=yX x p from by simp[qg,xp]]
 generalize yX x p=z at H
 obtain⟨zx,zb⟩:=z
 obtain⟨out,full⟩:=x
 obtain⟨zo,zf⟩:=zx
 refine G5 mixed Tryz.func273 rfl c_273 (by simp[Sym.los,Sym.lo]) ?_
 simp+decide[Tryz.f273,xo,int,zl,zq,Lang.d,G]
 refine⟨λa _=>rfl,by omega,by unfold maxLen;omega,?_⟩
 refine zF.MS [4] rfl [0,1,2] [.d (zM p),.bp 0 0,.bp 1 0] (xo (out,full)) (by rfl) (by simp[yp,ren,rho,zM,zl]) (by simp) ?_ H ?_
 .simp[Fits,kh,xo,St.look,zc,vS,yp,ren,rho,int,List.range,List.range.loop,zl]
 simp+decide[int,zl,xo,kO,St.jx]
theorem AT(g:Lang)(Z:LightF g)(A:LangC g)(f:Nat)(ih:JL g f):JL g (f+1):=by
 intro x p i B C hi
 have X:¬(i:Int)=p.length:=by omega
 have L:i<p.length:=by omega
 have K:(i:Int)<p.length:=by omega
 obtain⟨q,eq⟩:∃ q,p[i]=q:=⟨_,rfl⟩
 have e1:p[i]?=some q:=by rw[List.getElem?_eq_getElem L,eq]
 have eg:p.getD i ⟨0,0,0⟩=q:=by rw[List.getD_eq_getElem?_getD,e1];rfl
 have I:=Z.Z9 A
 have N:=J7 g.lex q.entry I.lex.len I.lex.senses
 refine G5 mixed Tryz.func273 rfl c_273 (by simp[Sym.los,Sym.lo]) ?_
 simp+decide[Tryz.f273,xo,int,zl,zq,Lang.d,X,Prt.row,L,K,e1,eq]
 refine scp N ?_
 simp+decide[xo,int,zl,zq,Lang.d,zZ]
 unfold qg
 rw[eg]
 obtain⟨ns,ens⟩:∃ ns,(xM g.lex q.entry).length=ns:=⟨_,rfl⟩
 have Y:ns<2^40:=by
  rw[<-ens];unfold xM;rw[Ja];exact EW I.lex.senses _
 rw[ens]
 refine yU mixed (λk:Nat=>{n:=49,next:=4,slots:=[(1,.d (zl p)),(2,.d (int i)),(3,.fn 269 [.bp 0 0,.bp 1 0]),(4,.bp 3 0),(29,.d (int ns)),(30,.d (int k))],own:=(3,.box 36 (zq g.d))::xo (xp yX (x,true) (vh g f p i k)).1,base:=3,moved:=[2,4]})
  (λk=>k<=ns/\(xp yX (x,true) (vh g f p i k)).2=true) (λk=>ns-k) 0 ⟨Nat.zero_le _,rfl⟩ ?_ ?_
 .simp+decide[xo,int,zl,zq,Lang.d,vh,xp]
 intro k ⟨P,E⟩
 have J:=G6 (vh g f p i k) (x,true) B (λa S=>by
  unfold vh at S;rw[List.mem_flatMap] at S;obtain⟨_,_,S⟩:=S;rw[G7 g f _ _ a S,List.length_set];exact C)
 have Q:=EU g f p i k
 rw[eg] at Q
 have H:xp yX (x,true) (vh g f p i (k+1))=xp yX (xp yX (x,true) (vh g f p i k)) (qg g f (p.set i ⟨q.entry,q.alt,k⟩) (i+1)):=by rw[Q,JK]
 by_cases T:k<ns
 case neg=>
  have:k=ns:=by omega
  subst this;have F:(List.range k).flatMap (λ(k:Nat)=>qg g f (p.set i ⟨q.entry,q.alt,k⟩) (i+1))=vh g f p i k:=by unfold vh;rw[eg]
  rw[F];generalize xp yX (x,true) (vh g f p i k)=z at E;obtain⟨zx,zb⟩:=z;simp only at E
  subst E;refine zL mixed ?_
  simp+decide[xo,int,zl,zq,Lang.d,kO,St.jx]
 have M:(k:Int)<ns:=by omega
 generalize xp yX (x,true) (vh g f p i k)=z at E H J
 obtain⟨⟨out,full⟩,zb⟩:=z
 simp only at E
 subst E
 have G:=ih (out,full) (p.set i ⟨q.entry,q.alt,k⟩) (i+1) J (by rw[List.length_set];exact C) (by rw[List.length_set];omega)
 have O:(p.map Prt.row).set i [.int .i64 q.entry,.int .i64 q.alt,.int .i64 k]=(p.set i ⟨q.entry,q.alt,(k:Int)⟩).map Prt.row:=by rw[List.map_set];rfl
 refine zL mixed ?_
 simp+decide[xo,int,zl,zq,Lang.d,T,M,I64,Prt.row,L,K]
 rw[eq,O]
 refine⟨by omega,by unfold maxLen;omega,⟨by omega,by omega⟩,?_⟩
 generalize xp yX ((out,full),true) (qg g f (p.set i ⟨q.entry,q.alt,(k:Int)⟩) (i+1))=z2 at G H
 obtain⟨⟨o2,f2⟩,b2⟩:=z2
 refine zF.MS [4] rfl [0,1,2] [.d g.d,.d (zl (p.set i ⟨q.entry,q.alt,(k:Int)⟩)),.d (int (i+1)),.fn 269 [.bp 0 0,.bp 1 0]] (xo (out,full)) (by rfl) (by simp[yp,ren,rho,zM,zl,Lang.d,int]) (by simp) ?_ (by simpa using G) ?_
 .simp[Fits,kh,xo,St.look,zc,vS,yp,ren,rho,int,List.range,List.range.loop,zl]
 cases b2 with
 |true=>
  simp+decide[int,zl,xo,kO,St.jx,zq,Lang.d,I64];exact⟨⟨by omega,by omega⟩,k+1,⟨T,by rw[H]⟩,by omega,by omega,by rw[H],by rw[H]⟩
 |false=>
  simp+decide[int,zl,xo,kO,St.jx,zq,Lang.d,I64];have V:=EV g f p i (x,true) (k+1) (by rw[H]) (ns-(k+1))
  rw[show k+1+(ns-(k+1))=ns by omega,H] at V
  have F:(List.range ns).flatMap (λ(k:Nat)=>qg g f (p.set i ⟨q.entry,q.alt,k⟩) (i+1))=vh g f p i ns:=by unfold vh;rw[eg]
  rw[F,V];exact⟨rfl,rfl,rfl⟩
theorem EX(g:Lang)(H:LightF g)(G:LangC g):∀ f,JL g f
 |0=>AS g
 |f+1=>AT g H G f (EX g H G f)
end Go.V
namespace Go.V
open Go Go.Proofs
def wX(g:Lang)(x:yF)(a:List Prt)(_:List Int):yF×Bool:=xp yX (x,true) (qg g a.length a 0)
def vv(g:Lang)(x:yF):List (Nat×Obj'):=[(2,.box 36 (zq g.d)),(3,.box 272 [.fn 269 [.bp 4 0,.bp 5 0]]),(4,.box 241 [.ar 6]),(5,.box 4 [.d (.bool x.2)]),(6,.arr 39 1 (x.1.map λa=>[zl a]))]
theorem AU(g:Lang)(H:LightF g)(G:LangC g)(w:List Int)(tr:List (List Int))(x:yF)(F:allI x)(a:List Prt)(E:a.length<=4)(base:List Int):
  zJ Tryz.prog 272 [.d (zl a),.d (ints base),.bp 2 0,.bp 3 0] (zC g w tr (.fn 272 [.bp 2 0,.bp 3 0]) (vv g x)) 7
   (.d (.bool (wX g x a base).2)) 7 (zC g w tr (.fn 272 [.bp 2 0,.bp 3 0]) (vv g (wX g x a base).1)) [6]:=by
 have K:=EX g H G a.length x a 0 F E (by omega)
 unfold wX
 generalize xp yX (x,true) (qg g a.length a 0)=z at K
 obtain⟨⟨o2,f2⟩,b2⟩:=z
 obtain⟨out,full⟩:=x
 refine xW mixed Tryz.func272 rfl c_272 (by simp[Sym.los,Sym.lo]) ?_
 simp+decide[Tryz.f272,zC,vv,zq,Lang.d,int,ints,u32,zl]
 refine zF.mut [4,5,6] [.d g.d,.d (zl a),.d (int 0),.fn 269 [.bp 0 0,.bp 1 0]] (xo (out,full)) (by rfl) (by simp[yp,ren,rho,Lang.d,int,ints,zl]) (by simp) ?_ K ?_
 .simp[Fits,kh,xo,St.look,zc,vS,yp,ren,rho,int,List.range,List.range.loop,zl]
 simp+decide[zC,vv,xo,zq,Lang.d,int,ints,u32,zl]
theorem AV(g:Lang)(x:yF):RestOk 7 (.fn 272 [.bp 2 0,.bp 3 0]) (vv g x) where
 two:=by omega
 keys:=by simp[vv]
 ids i o h:=by
  simp only[vv,List.mem_cons,List.not_mem_nil,or_false] at h;rcases h with h | h | h | h | h <;> (cases h;simp[Obj'.lo,Sym.los,Sym.lo,zq,Lang.d])
 range:=rfl
 thawed k x h:=by
  have H:¬(2=k):=by omega
  have G:¬(3=k):=by omega
  have F:¬(4=k):=by omega
  have E:¬(5=k):=by omega
  have K:¬(6=k):=by omega
  simp[vv,xZ,gi,xT,thaw,H,G,F,E,K,zq,Lang.d]
 thawC k x h:=by simp[thaw]
 fn:=by simp[Sym.lo,Sym.los]
theorem AW{g:Lang}{x:yF}{a:List Prt}{base:List Int}(h:allI x)(H:a.length<=4):allI (wX g x a base).1:=
 G6 _ _ h λq hq=>by rw[G7 g _ _ _ q hq];exact H
def JM(g:Lang)(hg:LightF g)(hc:LangC g)(w:List Int):Clo Tryz.prog g w yF where
 F:=wX g
 rest:=vv g
 fid:=272
 caps:=[.bp 2 0,.bp 3 0]
 n:=7
 mv:=[6]
 mvOk i h:=by rw[List.mem_singleton] at h;omega
 mvCaps:=by simp[qt,zS]
 Inv _ x:=allI x
 ok:=AV g
 mono _ _ h:=h
 call k x tr a base hI hk ha hb:=⟨AU g hg hc w tr x hI a ha base,AW hI ha⟩
theorem AX(g:Lang)(V:LightF g)(X:LangC g)(w:List Int)(Y:w.length<=30) :
  zJ Tryz.prog 271 [.d g.d,.d (ints w),.fn 272 [.bp 0 0,.bp 1 0]] ([(0,.box 36 (zq g.d)),(1,.box 272 [.fn 269 [.bp 2 0,.bp 3 0]]),(2,.box 241 [.ar 4]),(3,.box 4 [.d (.bool (([],false):yF).2)]),(4,.arr 39 1 ((([],false):yF).1.map λa=>[zl a]))]) 5
   (.tup []) 5 ([(0,.box 36 (zq g.d)),(1,.box 272 [.fn 269 [.bp 2 0,.bp 3 0]]),(2,.box 241 [.ar 4]),(3,.box 4 [.d (.bool (sF (wX g) (([],false),true) ((v7 g w).map λb=>(b,zP g.lex b))).1.2)]),(4,.arr 39 1 ((sF (wX g) (([],false),true) ((v7 g w).map λb=>(b,zP g.lex b))).1.1.map λa=>[zl a]))]) [4]:=by
 refine xW mixed Tryz.func271 rfl c_271 (by simp[Sym.los,Sym.lo]) ?_
 by_cases Z:w.length=0
 .have F:(w.length:Int)=0:=by omega
  simp+decide[Tryz.f271,zq,Lang.d,int,ints,u32,Z,F,v7,sF,vv];done
 have F:¬(w.length:Int)=0:=by omega
 by_cases A:24<w.length
 .have E:(24:Int)<w.length:=by omega
  simp+decide[Tryz.f271,zq,Lang.d,int,ints,u32,Z,F,A,E,v7,sF,vv];done
 have E:¬(24:Int)<w.length:=by omega
 simp+decide[Tryz.f271,zq,Lang.d,int,ints,u32,Z,F,A,E,vv]
 have B:=(V.Z9 X).rules
 have M:=Ox g.rules (by have:=B.2;omega) (λr C=>by have A:=(B.1 r C).dst;have I:=(B.1 r C).src;omega)
 refine zkt mixed 7 [] (by rfl) (by rfl) (by rfl) (by rfl) (by rfl) ?_
 simp+decide[zq,Lang.d,int,ints,u32]
 refine scp M ?_
 simp+decide[zq,Lang.d,int,ints,u32]
 refine⟨by rfl,?_⟩
 have N:=V.vJ.ok.2.1
 have T:g.net.final.length<2^40:=V.vJ.few2
 refine yU mixed (λk:Nat=>{n:=46,next:=8,slots:=[(6,.bp 7 0),(28,.d (ints g.net.final)),(29,.d (int g.net.final.length)),(30,.d (int k))],own:=((7,.box 327 (zq g.d++[.d (ints w),.d (.bool (Zz g.rules)),.d (u32 (yk (g.net.final.take k))),.mp 6,.fn 272 [.bp 0 0,.bp 1 0]]))::(6,.map 325 [])::[(0,.box 36 (zq g.d)),(1,.box 272 [.fn 269 [.bp 2 0,.bp 3 0]]),(2,.box 241 [.ar 4]),(3,.box 4 [.d (.bool (([],false):yF).2)]),(4,.arr 39 1 ((([],false):yF).1.map λa=>[zl a]))]),base:=5})
  (λk=>k<=g.net.final.length) (λk=>g.net.final.length-k) 0 (by simp) ?_ ?_
 .simp+decide[zq,Lang.d,int,ints,u32,yk,vv]
 intro k P
 by_cases H:k<g.net.final.length
 .have G:(k:Int)<g.net.final.length:=by omega
  have hsn:yk (g.net.final.take (k+1))=qk (yk (g.net.final.take k)) g.net.final[k]:=by unfold yk;rw[yu H,List.foldl_append];rfl
  have K:yk (g.net.final.take k)<8:=ZB _ 0 (λx S=>N x (List.mem_of_mem_take S)) (by omega)
  have W:=N g.net.final[k] (List.getElem_mem H);obtain⟨c,ec⟩:∃ c,g.net.final[k]=c:=⟨_,rfl⟩;have e1:g.net.final[k]?=some c:=by rw[List.getElem?_eq_getElem H,ec]
  rw[ec] at hsn W;generalize yk (g.net.final.take k)=mm at hsn K;have O:=KD K W.1 (show c<3 by omega)
  refine zL mixed ?_
  simp+decide[zq,Lang.d,int,ints,u32,H,G,e1,ec,I64,vv];refine XZ mixed 9 [7] (by rfl) (by rfl) (by rfl) (by rfl) (by simp) ?_
  simp+decide[zq,Lang.d,int,ints,u32,H,G,e1,ec,I64];exact⟨W.1,⟨by omega,by omega⟩,k+1,H,by omega,by omega,by rw[hsn];exact O⟩
 have:k=g.net.final.length:=by omega
 subst this
 rw[List.take_length]
 refine zL mixed ?_
 simp+decide[zq,Lang.d,int,ints,u32,vv]
 have J:=walk_nil ((EK g V X w (by omega) (JM g V X w) 4).call 0 (([],false):yF) [] [] 1 [] ⟨Nat.zero_le _,λb hb=>by cases hb⟩ (by decide) (λ_ h=>by cases h) rfl (by omega) (by simp) (λ_ h=>by cases h))
 have L:=AA V Z (by omega) (JM g V X w) (([],false):yF)
 generalize zY g w (JM g V X w) 4 ((([],false):yF),[]) [] 1 []=z at J L
 obtain⟨⟨zx,zt⟩,zb⟩:=z
 have Q:(sF (wX g) ((([],false):yF),true) ((v7 g w).map λb=>(b,zP g.lex b))).1=zx:=by
  have:=congrArg Prod.fst L;exact this.symm
 refine zF.mut [7,6,0,1,2,3,4] [.bp 0 0,.nils,.d (u32 1),.nils] (zC g w [] (.fn 272 [.bp 2 0,.bp 3 0]) (vv g (([],false):yF))) (by rfl) (by simp[yp,ren,rho,u32]) (by simp) ?_ J ?_
 .simp[Fits,kh,zC,vv,St.look,zc,vS,yp,ren,rho,zq,Lang.d,Za,int,ints,u32,List.range,List.range.loop]
 simp+decide[zC,zq,Lang.d,int,ints,u32,Q,JM,vv]
def QS(g:Lang)(w:List Int):yF:=(sF (wX g) (([],false),true) ((v7 g w).map λb=>(b,zP g.lex b))).1
def xf(g:Lang)(w:List Int):List (List Prt)×Int:=if vG g.inv w≠0 then ([],vG g.inv w) else if (QS g w).2=true then ([],11) else ((QS g w).1,0)
theorem AY(g:Lang)(G:LightF g)(F:LangC g)(w:List Int)(E:w.length<=30):zj Tryz.prog 239 [g.d,ints w] (.tup [xJ (xf g w).1,int (xf g w).2]):=by
 have K:=AX g G F w E
 have J:=AN g.inv w (by omega)
 unfold xf
 rw[show(sF (wX g) (([],false),true) ((v7 g w).map λb=>(b,zP g.lex b))).1=QS g w from rfl] at K
 generalize QS g w=z at K
 obtain⟨out,full⟩:=z
 refine FT Tryz.func239 rfl c_239 ?_
 by_cases H:vG g.inv w=0
 case neg=>
  refine zL mixed ?_
  simp+decide[Tryz.f239,zq,Lang.d,int,ints,H];refine zg J ?_
  simp+decide[int,ints,H,xJ]
 rw[H] at J
 refine jI mixed 5 {n:=24,next:=5,slots:=[(1,.d (ints w)),(2,.bp 0 0),(7,.bp 2 0),(8,.bp 3 0),(9,.bp 4 0)],own:=[(0,.box 36 (zq g.d)),(2,.box 241 [.nils]),(3,.box 4 [.d (.bool false)]),(4,.box 272 [.fn 269 [.bp 2 0,.bp 3 0]])]} rfl ?_ ?_
 .simp+decide[Tryz.f239,yn,qW,zq,Lang.d,int,ints]
  refine zg J ?_
  simp+decide[int,ints,H,xJ,yn,qW]
 simp only[yL]
 refine UI 2 0 39 1 (T:=241) (l:=[.nils]) rfl rfl ?_
 refine zL mixed ?_
 simp+decide[Tryz.f239,zq,Lang.d,int,ints,St.new,St.set,zV]
 refine zF.mut [0,4,2,3,5] [.d g.d,.d (ints w),.fn 272 [.bp 0 0,.bp 1 0]] ([(0,.box 36 (zq g.d)),(1,.box 272 [.fn 269 [.bp 2 0,.bp 3 0]]),(2,.box 241 [.ar 4]),(3,.box 4 [.d (.bool (([],false):yF).2)]),(4,.arr 39 1 ((([],false):yF).1.map λa=>[zl a]))]) (by rfl) (by simp[yp,ren,rho,Lang.d,int,ints]) (by simp) ?_ K ?_
 .simp[Fits,kh,St.look,zc,vS,yp,ren,rho,int,List.range,List.range.loop,zq,Lang.d,ints]
 cases full with
 |true=>
  simp+decide[int,ints,xJ,H]
 |false=>
  simp+decide[int,ints,xJ,H]
end Go.V
namespace Go.V
open Go Go.Proofs
def allT(g:Lang)(w:List Int):List (List Prt):=(v7 g w).flatMap λa=>qg g a.length a 0
theorem EY(g:Lang):∀ (l:List (List Prt)) (f:List Prt->List Int) (z:yF×Bool),sF (wX g) z (l.map λb=>(b,f b))=xp yX z (l.flatMap λa=>qg g a.length a 0)
 | [],f,z=>rfl
 |a::l,f,z=>by
  rw[List.map_cons,JH,List.flatMap_cons,JK];by_cases h:z.2=false
  .rw[if_pos h,QR h,QR h]
  .rw[if_neg h,EY g l f]
   have H:z.2=true:=by simpa using h
   unfold wX;obtain⟨x,b⟩:=z;simp only at H
   subst H;rfl
theorem EZ:∀ (l:List (List Prt)) (out:List (List Prt)) (b:Bool),out.length+l.length<=200->xp yX ((out,b),true) l=((l.foldl (λo a=>insL (λx=>ya a x) a o) out,b),true)
 | [],_,_,_=>rfl
 |a::l,out,b,h=>by
  rw[List.length_cons] at h;have e:yX (out,b) a=((insL (λx=>ya a x) a out,b),true):=by
   unfold yX;rw[if_neg (by show ¬out.length=200;omega)]
  rw[YU,if_neg (by simp),List.foldl_cons,e]
  exact EZ l _ b (by rw[QQ];omega)
theorem H2:∀ (l:List (List Prt)) (out:List (List Prt)) (b:Bool),out.length<=200->200<out.length+l.length->(xp yX ((out,b),true) l).1.2=true
 | [],out,b,h,h'=>by rw[List.length_nil] at h';omega
 |a::l,out,b,h,h'=>by
  rw[List.length_cons] at h';rw[YU,if_neg (by simp)]
  by_cases e:out.length=200
  .have e1:yX (out,b) a=((out,true),false):=by unfold yX;rw[if_pos e]
   rw[e1,QR rfl]
  .have e1:yX (out,b) a=((insL (λx=>ya a x) a out,b),true):=by unfold yX;rw[if_neg e]
   rw[e1];exact H2 l _ b (by rw[QQ];omega) (by rw[QQ];omega)
def Y2(l:List (List Prt)):List (List Prt):=l.foldl (λo a=>insL (λx=>ya a x) a o) []
theorem AZ(g:Lang)(w:List Int):xf g w=if vG g.inv w≠0 then ([],vG g.inv w) else if 200<(allT g w).length then ([],11) else (Y2 (allT g w),0):=by
 unfold xf QS
 rw[EY,show(v7 g w).flatMap (λa=>qg g a.length a 0)=allT g w from rfl]
 by_cases H:vG g.inv w≠0
 .rw[if_pos H,if_pos H]
 rw[if_neg H,if_neg H]
 by_cases h:200<(allT g w).length
 .rw[if_pos h,if_pos (H2 _ _ _ (by simp) (by simpa using h))]
 .rw[if_neg h,EZ _ _ _ (by simp;omega),if_neg (by simp)]
  rfl
theorem JO{a b:Prt}:qw a b=true↔a.entry<b.entry\/(a.entry=b.entry/\(a.alt<b.alt\/(a.alt=b.alt/\a.sense<b.sense))):=by
 unfold qw
 by_cases H:a.entry=b.entry
 .rw[if_pos H]
  by_cases G:a.alt=b.alt
  .rw[if_pos G,decide_eq_true_eq];omega
  .rw[if_neg G,decide_eq_true_eq];omega
 .rw[if_neg H,decide_eq_true_eq];omega
theorem Prt.ext'{a b:Prt}(H:a.entry=b.entry)(G:a.alt=b.alt)(F:a.sense=b.sense):a=b:=by
 cases a;cases b;simp only at H G F;rw[H,G,F]
theorem ze9(a:Prt):qw a a=false:=by
 cases h:qw a a with
 |false=>rfl
 |true=>rw[JO] at h;omega
theorem zcj{a b c:Prt}(H:qw a b=true)(G:qw b c=true):qw a c=true:=by
 rw[JO] at H G ⊢;omega
theorem zfa{a b:Prt}(h:a≠b):qw a b=true\/qw b a=true:=by
 rw[JO,JO]
 have:¬(a.entry=b.entry/\a.alt=b.alt/\a.sense=b.sense):=λ⟨H,G,F⟩=>h (Prt.ext' H G F)
 omega
theorem G8{a b:Prt}{l m:List Prt}:ya (a::l) (b::m)=if a=b then ya l m else qw a b:=rfl
theorem H3:∀ {a b c:List Prt},ya a b=true->ya b c=true->ya a c=true
 | [],[],_,h,_=>by simp[ya] at h
 | [],_::_,[],_,h=>by simp[ya] at h
 | [],_::_,_::_,_,_=>rfl
 |_::_,[],_,h,_=>by simp[ya] at h
 |_::_,_::_,[],_,h=>by simp[ya] at h
 |a::l,b::m,c::n,H,G=>by
  rw[G8] at H G ⊢;by_cases e1:a=b
  .subst e1
   rw[if_pos rfl] at H;by_cases e2:a=c
   .subst e2
    rw[if_pos rfl] at G ⊢;exact H3 H G
   .rw[if_neg e2] at G ⊢;exact G
  .rw[if_neg e1] at H
   by_cases e2:b=c
   .subst e2
    rw[if_neg e1];exact H
   .rw[if_neg e2] at G
    have F:=zcj H G;by_cases e3:a=c
    .subst e3;rw[ze9] at F;cases F
    .rw[if_neg e3];exact F
theorem H4:∀ {a b:List Prt},a≠b->ya a b=true\/ya b a=true
 | [],[],h=>absurd rfl h
 | [],_::_,_=>.inl rfl
 |_::_,[],_=>.inr rfl
 |a::l,b::m,h=>by
  rw[G8,G8];by_cases e:a=b
  .subst e
   rw[if_pos rfl,if_pos rfl];exact H4 λe=>h (by rw[e])
  .rw[if_neg e,if_neg (λe'=>e e'.symm)]
   exact zfa e
section
variable {α:Type}
theorem H5{lt:α->Bool}{l:List α}:∀ n,n<=l.length->(∀ i,qQ lt l n<=i->i<n->∀ h:i<l.length,lt l[i]=true)/\(∀ h:0<qQ lt l n,∃ H:qQ lt l n-1<l.length,lt l[qQ lt l n-1]=false)
 |0,_=>⟨λi _ h=>absurd h (by omega),λh=>absurd h (by simp[qQ])⟩
 |n+1,hn=>by
  have ih:=H5 (lt:=lt) (l:=l) n (by omega)
  have e1:l[n]?=some l[n]:=List.getElem?_eq_getElem (by omega)
  by_cases c:lt l[n]=true
  .have e2:qQ lt l (n+1)=qQ lt l n:=by rw[qQ,e1];simp only;rw[if_pos c]
   rw[e2];refine⟨λi G F h=>?_,ih.2⟩
   by_cases e:i=n
   .subst e;exact c
   .exact ih.1 i G (by omega) h
  .have e2:qQ lt l (n+1)=n+1:=by rw[qQ,e1];simp only;rw[if_neg c]
   rw[e2];refine⟨λi G F h=>by omega,λ_=>⟨by omega,?_⟩⟩
   show lt l[n+1-1]=false
   simpa using c
theorem zck{lt:α->α->Bool}(tr:∀ {a b c},lt a b=true->lt b c=true->lt a c=true)(tot:∀ {a b},a≠b->lt a b=true\/lt b a=true){x:α}{l:List α}
  (hs:l.Pairwise λa b=>lt a b=true) (L:x∉l):(insL (λo=>lt x o) x l).Pairwise λa b=>lt a b=true:=by
 have H:=H5 (lt:=λo=>lt x o) (l:=l) l.length (Nat.le_refl _)
 have E:=G4 (λo=>lt x o) l l.length
 unfold insL
 generalize qQ (λo=>lt x o) l l.length=p at H E
 have G:∀ b∈l.drop p,lt x b=true:=by
  intro b M;obtain⟨i,hi,e⟩:=List.mem_iff_getElem.1 M;rw[List.length_drop] at hi;rw[List.getElem_drop] at e;have:=H.1 (p+i) (by omega) (by omega) (by omega)
  rw[<-e];exact this
 have F:∀ a∈l.take p,lt a x=true:=by
  intro a O;obtain⟨i,hi,e⟩:=List.mem_take_iff_getElem.1 O;have Q:0<p:=by omega
  obtain⟨T,V⟩:=H.2 Q;have K:l[p-1]≠x:=λe=>L (e▸List.getElem_mem T)
  have X:lt l[p-1] x=true:=by
   rcases tot K with h | h
   .exact h
   .rw[h] at V;cases V
  rw[<-e];by_cases J:i=p-1
  .subst J;exact X
  .exact tr (List.pairwise_iff_getElem.1 hs i (p-1) (by omega) T (by omega)) X
 rw[List.pairwise_append]
 refine⟨hs.sublist (List.take_sublist _ _),List.pairwise_cons.2 ⟨G,hs.sublist (List.drop_sublist _ _)⟩,λa O b M=>?_⟩
 rcases List.mem_cons.1 M with e | e
 .rw[e];exact F a O
 .exact tr (F a O) (G b e)
end
theorem H6{a:List Prt}:∀ (l out:List (List Prt)),a∈l.foldl (λo a=>insL (λx=>ya a x) a o) out↔a∈l\/a∈out
 | [],out=>by simp
 |b::l,out=>by
  rw[List.foldl_cons,H6 l,Zf,List.mem_cons];constructor
  .rintro(h | h | h)
   .exact .inl (.inr h)
   .exact .inl (.inl h)
   .exact .inr h
  .rintro((h | h) | h)
   .exact .inr (.inl h)
   .exact .inl h
   .exact .inr (.inr h)
theorem G9{a:List Prt}{l:List (List Prt)}:a∈Y2 l↔a∈l:=by unfold Y2;rw[H6];simp
theorem H7:∀ (l out:List (List Prt)),(out.Pairwise λa b=>ya a b=true)->l.Nodup->(∀ a∈l,a∉out)->(l.foldl (λo a=>insL (λx=>ya a x) a o) out).Pairwise λa b=>ya a b=true
 | [],out,h,_,_=>h
 |b::l,out,h,H,G=>by
  rw[List.nodup_cons] at H;rw[List.foldl_cons];refine H7 l _ (zck (lt:=ya) H3 H4 h (G b (List.mem_cons_self ..))) H.2 λa F E=>?_
  rcases Zf.1 E with e | e
  .subst e;exact H.1 F
  .exact G a (List.mem_cons_of_mem _ F) e
theorem zcl{l:List (List Prt)}(h:l.Nodup):(Y2 l).Pairwise λa b=>ya a b=true:=H7 l [] List.Pairwise.nil h λ_ _ h=>by cases h
theorem H8:∀ (l out:List (List Prt)),(l.foldl (λo a=>insL (λx=>ya a x) a o) out).length=out.length+l.length
 | [],out=>rfl
 |b::l,out=>by rw[List.foldl_cons,H8 l,QQ,List.length_cons];omega
theorem zhd(l:List (List Prt)):(Y2 l).length=l.length:=by unfold Y2;rw[H8];simp
def wY(g:Lang):List Prt->List (List Prt)
 | []=>[[]]
 |p::ps=>(List.range (xM g.lex p.entry).length).flatMap λ(k:Nat)=>(wY g ps).map λt=>(⟨p.entry,p.alt,k⟩:Prt)::t
theorem H9(g:Lang):∀ (f:Nat) (p:List Prt) (i:Nat),i+f=p.length->qg g f p i=(wY g (p.drop i)).map λt=>p.take i++t
 |0,p,i,h=>by
  rw[qg,List.drop_eq_nil_of_le (by omega),List.take_of_length_le (by omega)]
  simp[wY]
 |f+1,p,i,h=>by
  have hi:i<p.length:=by omega
  have eg:p.getD i ⟨0,0,0⟩=p[i]:=by rw[List.getD_eq_getElem?_getD,List.getElem?_eq_getElem hi];rfl
  rw[qg,eg,List.drop_eq_getElem_cons hi,wY,List.map_flatMap];refine QL λk _=>?_
  rw[H9 g f _ (i+1) (by rw[List.length_set];omega),List.map_map]
  have e1:(p.set i ⟨p[i].entry,p[i].alt,(k:Int)⟩).drop (i+1)=p.drop (i+1):=by rw[List.drop_set];rw[if_pos (by omega)]
  have e2:(p.set i ⟨p[i].entry,p[i].alt,(k:Int)⟩).take (i+1)=p.take i++[⟨p[i].entry,p[i].alt,(k:Int)⟩]:=by
   rw[List.take_succ_eq_append_getElem (by rw[List.length_set];exact hi),List.getElem_set_self,List.take_set_of_le (by omega)]
  rw[e1,e2];congr 1
  funext t
  simp
theorem zhe(g:Lang)(a:List Prt):qg g a.length a 0=wY g a:=by
 rw[H9 g a.length a 0 (by omega)]
 simp
def Choice(g:Lang):List Prt->List Prt->Prop
 | [],[]=>True
 |p::ps,q::qs=>(q.entry=p.entry/\q.alt=p.alt/\0<=q.sense/\q.sense<(xM g.lex p.entry).length)/\Choice g ps qs
 |_,_=>False
theorem YW(g:Lang):∀ {a q:List Prt},q∈wY g a↔Choice g a q
 | [],q=>by
  rw[wY,List.mem_singleton];cases q with
  |nil=>simp[Choice]
  |cons _ _=>simp[Choice]
 |p::ps,q=>by
  rw[wY,List.mem_flatMap];constructor
  .rintro⟨k,H,h⟩
   obtain⟨t,G,rfl⟩:=List.mem_map.1 h;have:=List.mem_range.1 H
   exact⟨⟨rfl,rfl,by show(0:Int)<=(k:Int);omega,by show(k:Int)<_;omega⟩,(YW g).1 G⟩
  .intro h
   cases q with
   |nil=>simp[Choice] at h
   |cons x t=>
    obtain⟨⟨F,E,K,J⟩,L⟩:=h;refine⟨x.sense.toNat,List.mem_range.2 (by omega),List.mem_map.2 ⟨t,(YW g).2 L,?_⟩⟩
    congr 1
    exact Prt.ext' F.symm E.symm (by show((x.sense.toNat:Nat):Int)=x.sense;omega)
theorem Ha(g:Lang):∀ a:List Prt,(wY g a).Nodup
 | []=>by rw[wY];simp
 |p::ps=>by
  have ih:=Ha g ps;rw[wY];unfold List.Nodup at ih ⊢;rw[List.pairwise_flatMap];refine⟨λk _=>?_,?_⟩
  .rw[List.pairwise_map]
   exact ih.imp λh e=>h (List.cons.inj e).2
  .refine List.Pairwise.imp ?_ List.pairwise_lt_range
   intro i j H x G y F e;obtain⟨t,_,rfl⟩:=List.mem_map.1 G;obtain⟨u,_,rfl⟩:=List.mem_map.1 F;have:=(List.cons.inj e).1
   have:=congrArg Prt.sense this
   simp only at this
   omega
def bare(a:List Prt):List Prt:=a.map λp=>⟨p.entry,p.alt,0⟩
theorem QT{g:Lang}:∀ {a q:List Prt},Choice g a q->bare q=bare a
 | [],[],_=>rfl
 | [],_::_,h=>h.elim
 |_::_,[],h=>h.elim
 |p::ps,q::qs,h=>by
  obtain⟨⟨H,G,_⟩,F⟩:=h;have:=QT F
  unfold bare at this ⊢;rw[List.map_cons,List.map_cons,this,H,G]
theorem ziy{a:List Prt}(h:∀ p∈a,p.sense=0):bare a=a:=by
 unfold bare
 conv=>rhs;rw[<-List.map_id a]
 refine List.map_congr_left λp H=>?_
 exact Prt.ext' rfl rfl (h p H).symm
end Go.V
namespace Go.V
open Go Go.Proofs
def ul(g:Lang)(p:Prt):Prop:=∃ e∈g.lex,p.entry=e.id/\p.sense=0/\∃ alt:Nat,alt<e.forms.length/\p.alt=alt
theorem ul.ok{g:Lang}(H:LightF g){p:Prt}(h:ul g p):∃ e∈g.lex,∃ alt:Nat,alt<e.forms.length/\p=⟨e.id,alt,0⟩:=by
 obtain⟨e,G,F,E,alt,K,J⟩:=h
 exact⟨e,G,alt,K,Prt.ext' F J E⟩
theorem JP{g:Lang}{w:List Int}:∀ (f:Nat) (a b:List Prt),b∈kJ g w f a->∃ t,b=a++t/\t≠[]/\t.length<=f/\(∀ p∈t,ul g p)/\QK g w b=true
 |0,a,b,h=>by simp[kJ] at h
 |f+1,a,b,h=>by
  unfold kJ at h;rw[List.mem_flatMap] at h;obtain⟨e,G,h⟩:=h;split at h
  .rw[List.mem_flatMap] at h
   obtain⟨alt,F,h⟩:=h;have F:=List.mem_range.1 F;have E:ul g ⟨e.id,(alt:Int),0⟩:=⟨e,G,rfl,rfl,alt,F,rfl⟩
   split at h
   .cases h
   .rcases List.mem_append.1 h with h | h
    .split at h
     .rename_i K
      rw[List.mem_singleton] at h;subst h;exact⟨[⟨e.id,(alt:Int),0⟩],rfl,by simp,by simp,(by intro p H;rw[List.mem_singleton] at H;rw[H];exact E),K⟩
     .cases h
    .obtain⟨t,rfl,J,L,M,O⟩:=JP f _ b h
     exact⟨⟨e.id,(alt:Int),0⟩::t,by simp,by simp,by simp;omega,(λp Q=>(List.mem_cons.1 Q).elim (λe=>e▸E) (M p)),O⟩
  .cases h
theorem zfb{g:Lang}(G:LightF g):g.lex.Pairwise λe e'=>e.id<e'.id:=by
 rw[List.pairwise_iff_getElem]
 intro i j hi hj H
 have:=lex_lt G.lex.up (j-i-1) i (by omega)
 simpa[show i+(j-i-1)+1=j by omega] using this
theorem JQ{g:Lang}{w:List Int}{f:Nat}{a x:List Prt}{p:Prt}(h:x∈(if wW g w<(zP g.lex (a++[p])).length then [] else (if QK g w (a++[p])=true then [a++[p]] else [])++kJ g w f (a++[p]))):∃ t,x=a++p::t:=by
 split at h
 .cases h
 .rcases List.mem_append.1 h with h | h
  .split at h
   .rw[List.mem_singleton] at h;exact⟨[],h⟩
   .cases h
  .obtain⟨t,e,_⟩:=JP f _ x h
   exact⟨t,by rw[e];simp⟩
theorem Hb{g:Lang}(F:LightF g)(w:List Int):∀ (f:Nat) (a:List Prt),(kJ g w f a).Nodup
 |0,_=>by simp[kJ]
 |f+1,a=>by
  unfold kJ List.Nodup;rw[List.pairwise_flatMap];refine⟨λe he=>?_,?_⟩
  .split
   .rw[List.pairwise_flatMap]
    refine⟨λalt ha=>?_,?_⟩
    .split
     .exact List.Pairwise.nil
     .rw[List.pairwise_append]
      refine⟨by split <;> simp,Hb F w f _,λx E y K e=>?_⟩
      subst e;obtain⟨t,e,J,_⟩:=JP f _ x K;split at E
      .rw[List.mem_singleton] at E
       rw[E] at e;have:=congrArg List.length e
       simp only[List.length_append,List.length_cons,List.length_nil] at this;exact J (List.length_eq_zero_iff.1 (by omega))
      .cases E
    .refine List.Pairwise.imp ?_ List.pairwise_lt_range
     intro i j H x E y K e;obtain⟨t,rfl⟩:=JQ E;obtain⟨u,rfl⟩:=JQ K;have:=(List.cons.inj (List.append_cancel_left e)).1
     have:=congrArg Prt.alt this
     simp only at this
     omega
   .exact List.Pairwise.nil
  .refine List.Pairwise.imp ?_ (zfb F)
   intro e e' G x E y K heq;split at E
   .split at K
    .rw[List.mem_flatMap] at E K
     obtain⟨_,_,E⟩:=E;obtain⟨_,_,K⟩:=K;obtain⟨t,rfl⟩:=JQ E;obtain⟨u,rfl⟩:=JQ K;have:=(List.cons.inj (List.append_cancel_left heq)).1
     have:=congrArg Prt.entry this
     simp only at this
     omega
    .cases K
   .cases E
structure PlainF(g:Lang)(w:List Int)(b:List Prt):Prop where
 pos:b≠[]
 len:b.length<=4
 parts:∀ p∈b,ul g p
 lic:jq g w b=true
theorem YX{g:Lang}{w:List Int}{b:List Prt}(h:b∈v7 g w):PlainF g w b:=by
 unfold v7 at h
 split at h
 .cases h
 .obtain⟨t,rfl,H,G,F,E⟩:=JP 4 [] b h
  unfold QK at E;rw[Bool.and_eq_true] at E;exact⟨H,G,F,E.2⟩
theorem zcm{g:Lang}(H:LightF g)(w:List Int):(v7 g w).Nodup:=by
 unfold v7
 split
 .simp
 .exact Hb H w 4 []
theorem PlainF.bare{g:Lang}{w:List Int}{b:List Prt}(h:PlainF g w b):bare b=b:=ziy λp H=>by obtain⟨_,_,_,G,_⟩:=h.parts p H;exact G
theorem Hd(g:Lang)(w:List Int):allT g w=(v7 g w).flatMap (wY g):=by
 unfold allT
 refine QL λa _=>?_
 rw[zhe]
theorem Ga{g:Lang}{w:List Int}{q:List Prt}:q∈allT g w↔∃ a∈v7 g w,Choice g a q:=by
 rw[Hd,List.mem_flatMap]
 constructor
 .rintro⟨a,H,G⟩;exact⟨a,H,(YW g).1 G⟩
 .rintro⟨a,H,G⟩;exact⟨a,H,(YW g).2 G⟩
theorem zdu{g:Lang}(G:LightF g)(w:List Int):(allT g w).Nodup:=by
 rw[Hd]
 unfold List.Nodup
 rw[List.pairwise_flatMap]
 refine⟨λa _=>Ha g a,List.Pairwise.imp_of_mem ?_ (zcm G w)⟩
 intro a b F E H x K y J e
 subst e
 have L:=QT ((YW g).1 K)
 have M:=QT ((YW g).1 J)
 rw[(YX F).bare] at L
 rw[(YX E).bare] at M
 exact H (L.symm.trans M)
theorem Gb{g:Lang}:∀ {a q:List Prt},Choice g a q->q.length=a.length
 | [],[],_=>rfl
 | [],_::_,h=>h.elim
 |_::_,[],h=>h.elim
 |p::ps,q::qs,h=>by rw[List.length_cons,List.length_cons,Gb h.2]
theorem He(l:List Ent)(a:List Prt):yG l (bare a)=yG l a:=by
 unfold yG bare
 rw[List.flatMap_map]
 rfl
theorem Hf(l:List Ent)(a:List Prt):zP l (bare a)=zP l a:=by
 unfold zP bare
 rw[List.flatMap_map]
 rfl
theorem Hg{g:Lang}{a q:List Prt}(h:Choice g a q):zP g.lex q=zP g.lex a:=by rw[<-Hf,QT h,Hf]
theorem zam{g:Lang}{a q:List Prt}(h:Choice g a q):yG g.lex q=yG g.lex a:=by rw[<-He,QT h,He]
theorem Hh{g:Lang}(G:LightF g):∀ {a q:List Prt},Choice g a q->(∀ p∈a,ul g p)->∀ p∈q,qH g.lex p=0
 | [],[],_,_,p,hp=>by cases hp
 | [],_::_,h,_,_,_=>h.elim
 |_::_,[],h,_,_,_=>h.elim
 |p::ps,q::qs,h,F,x,E=>by
  rcases List.mem_cons.1 E with e | E
  .subst e
   obtain⟨⟨K,J,L,M⟩,_⟩:=h;obtain⟨e,O,alt,Q,rfl⟩:=(F p (List.mem_cons_self ..)).ok G;simp only at K J M
   have T:=QM G O Q;have H:qd g.lex x=(e,e.forms[alt]?.getD [],true):=by
    obtain⟨x1,x2,x3⟩:=x;simp only at K J
    subst K;subst J;exact T
   unfold qH;rw[H,K,JB G.lex.up O];simp only[Bool.true_eq_false,if_false];rw[if_neg (by omega)]
  .exact Hh G h.2 (λy V=>F y (List.mem_cons_of_mem _ V)) x E
theorem zcn{g:Lang}(H:LightF g){a:List Prt}(h:∀ p∈a,ul g p):∀ p∈a,qH g.lex p=0:=by
 intro p G
 obtain⟨e,F,alt,E,rfl⟩:=(h p G).ok H
 exact Ek H F E
theorem zco{g:Lang}(H:LightF g){a q:List Prt}(h:Choice g a q)(G:∀ p∈a,ul g p):xN g q=xN g a:=by
 have F:=JC (Hh H h G)
 have E:=JC (zcn H G)
 unfold xN ql
 rw[Gb h,Hg h,zam h,F,E]
theorem zfc{g:Lang}(H:LightF g){w:List Int}{q:List Prt}(h:q∈allT g w):(xN g q).2=0/\(xN g q).1=w/\q.length<=4:=by
 obtain⟨a,G,F⟩:=Ga.1 h
 have E:=YX G
 rw[zco H F E.parts,Gb F]
 have:=E.lic
 unfold jq at this
 rw[decide_eq_true_eq] at this
 exact⟨this.1,this.2,E.len⟩
theorem Hj{g:Lang}(H:LightF g):∀ {a:List Prt},(∀ p∈a,ul g p)->Choice g a a
 | [],_=>trivial
 |p::ps,h=>by
  refine⟨?_,Hj H λx G=>h x (List.mem_cons_of_mem _ G)⟩
  obtain⟨e,F,alt,E,rfl⟩:=(h p (List.mem_cons_self ..)).ok H;have hs:0<(xM g.lex e.id).length:=List.length_pos_iff.2 (H.senses F)
  exact⟨rfl,rfl,Int.le_refl _,by show(0:Int)<((xM g.lex e.id).length:Int);omega⟩
theorem Gc{g:Lang}(H:LightF g):∀ {a:List Prt},(∀ p∈a,ul g p)->yi (zP g.lex a)
 | [],_=>λx G=>by cases G
 |p::ps,h=>by
  have ih:=Gc H λx G=>h x (List.mem_cons_of_mem _ G)
  obtain⟨e,F,alt,E,rfl⟩:=(h p (List.mem_cons_self ..)).ok H;have:zP g.lex (⟨e.id,(alt:Int),0⟩::ps)=e.forms[alt]?.getD []++zP g.lex ps:=by
   unfold zP;rw[List.flatMap_cons,QM H F E];rfl
  rw[this];refine yi.app ?_ ih
  rw[List.getElem?_eq_getElem E];exact EB H F (List.getElem_mem E)
structure BasJ(x:JI):Prop where
 seen:∀ k∈x.1,∃ b∈x.2,keyS b=k
theorem Gd(f:List Prt->List Int):∀ (l:List (List Prt)) (x:JI),BasJ x->BasJ (sF kN (x,true) (l.map λb=>(b,f b))).1 /\
  (∀ b∈(sF kN (x,true) (l.map λb=>(b,f b))).1.2,b∈x.2\/∃ a∈l,f a=b)/\(∀ b∈x.2,b∈(sF kN (x,true) (l.map λb=>(b,f b))).1.2) /\
  ∀ a∈l,∃ b∈(sF kN (x,true) (l.map λb=>(b,f b))).1.2,keyS b=keyS (f a)
 | [],x,h=>⟨h,λb H=>.inl H,λb H=>H,λa G=>by cases G⟩
 |a::l,x,h=>by
  rw[List.map_cons,JH,if_neg (by simp)]
  have F:kN x a (f a)=((kN x a (f a)).1,true):=rfl
  rw[F];by_cases E:keyS (f a)∈x.1
  .have e:(kN x a (f a)).1=x:=by unfold kN;rw[if_pos E]
   rw[e];obtain⟨i1,i2,i3,i4⟩:=Gd f l x h;refine⟨i1,λb H=>(i2 b H).imp id λ⟨c,K,e⟩=>⟨c,List.mem_cons_of_mem _ K,e⟩,i3,λc K=>?_⟩
   rcases List.mem_cons.1 K with e2 | K
   .subst e2
    obtain⟨b,H,e3⟩:=h.seen _ E;exact⟨b,i3 b H,e3⟩
   .exact i4 c K
  .have e:(kN x a (f a)).1=(x.1++[keyS (f a)],insL (λo=>J1 (f a) o) (f a) x.2):=by unfold kN;rw[if_neg E]
   rw[e];obtain⟨i1,i2,i3,i4⟩:=Gd f l (x.1++[keyS (f a)],insL (λo=>J1 (f a) o) (f a) x.2) ⟨λk J=>by
    rcases List.mem_append.1 J with J | J
    .obtain⟨b,H,e⟩:=h.seen k J
     exact⟨b,Zf.2 (.inr H),e⟩
    .rw[List.mem_singleton] at J
     exact⟨f a,Zf.2 (.inl rfl),J.symm⟩⟩
   refine⟨i1,λb H=>?_,λb H=>i3 b (Zf.2 (.inr H)),λc K=>?_⟩
   .rcases i2 b H with H | ⟨c,K,e⟩
    .rcases Zf.1 H with e | H
     .exact .inr ⟨a,List.mem_cons_self ..,e.symm⟩
     .exact .inl H
    .exact .inr ⟨c,List.mem_cons_of_mem _ K,e⟩
   .rcases List.mem_cons.1 K with e2 | K
    .subst e2
     exact⟨f c,i3 _ (Zf.2 (.inl rfl)),rfl⟩
    .exact i4 c K
theorem Hk{g:Lang}(G:LightF g){w:List Int}{b:List Int}:b∈JJ g w↔∃ a∈v7 g w,zP g.lex a=b:=by
 obtain⟨_,i2,_,i4⟩:=Gd (zP g.lex) (v7 g w) ([],[]) ⟨λk F=>by cases F⟩
 unfold JJ
 constructor
 .intro h
  rcases i2 b h with h | h
  .cases h
  .exact h
 .rintro⟨a,E,rfl⟩
  obtain⟨c,K,e⟩:=i4 a E;rcases i2 c K with h | ⟨a2,H,e2⟩
  .cases h
  .have:=key_inj (by rw[<-e2];exact Gc G (YX H).parts) (Gc G (YX E).parts) e
   rw[<-this];exact K
def vi(n:Int):Prop:=(Lit.int .i64 n).wf=true
def Hl(l:List Int):Prop:=l.length<=maxLen/\∀ n∈l,vi n
theorem zcp{d:D}(h:yI d (.sl [.int .i64])):∃ l,d=ints l/\Hl l:=by
 obtain⟨xs,rfl,H,G⟩:=yI.Yy (row:=λn:Int=>[D.int .i64 n]) (good:=vi) (λr F=>by
  obtain⟨d,r,rfl,H,G⟩:=F.zW;obtain⟨n,rfl,E⟩:=H.xu;obtain rfl:=G.vY;exact⟨n,rfl,E⟩) h
 exact⟨xs,rfl,H,G⟩
def Prt.ok(p:Prt):Prop:=vi p.entry/\vi p.alt/\vi p.sense
abbrev Hm:List Sh:=[.int .i64,.int .i64,.int .i64]
def Hn(l:List Prt):Prop:=l.length<=maxLen/\∀ x∈l,x.ok
theorem zbi{d:D}(h:yI d (.sl Hm)):∃ l,d=zl l/\Hn l:=by
 obtain⟨xs,rfl,H,G⟩:=yI.Yy (row:=Prt.row) (good:=Prt.ok) (λr F=>by
  obtain⟨_,_,rfl,g1,r1⟩:=F.zW;obtain⟨_,_,rfl,g2,r2⟩:=r1.zW;obtain⟨_,_,rfl,g3,r3⟩:=r2.zW;obtain rfl:=r3.vY;obtain⟨a,rfl,wa⟩:=g1.xu;obtain⟨b,rfl,wb⟩:=g2.xu;obtain⟨c,rfl,wc⟩:=g3.xu;exact⟨⟨a,b,c⟩,rfl,wa,wb,wc⟩) h
 exact⟨xs,rfl,H,G⟩
theorem wZ{α:Type}{M:Nat}{row:α->List D}:∀ {l:List α},gK M (l.map row)->∀ x∈l,Caps M (row x)
 | [],_,x,H=>by cases H
 |a::l,h,x,H=>by
  simp only[List.map_cons,gK] at h;rcases List.mem_cons.1 H with e | e
  .rw[e];exact h.1
  .exact wZ h.2 x e
theorem wF{α:Type}{row:α->List D}{shs:List Sh}{d:D}(h:∀ r,y5 r shs->∃ x,r=row x)(H:yI d (.sl shs)):∃ xs:List α,d = .sl (xs.map row):=by
 obtain⟨xs,e,_,_⟩:=yI.Yy (row:=row) (good:=λ_=>True) (λr G=>by obtain⟨x,e⟩:=h r G;exact⟨x,e,trivial⟩) H
 exact⟨xs,e⟩
theorem ziz{r:List D}(h:y5 r [.int .i64]):∃ n:Int,r=[int n]:=by
 obtain⟨_,_,rfl,g1,r1⟩:=h.zW
 obtain rfl:=r1.vY
 obtain⟨a,rfl,_⟩:=g1.xu
 exact⟨a,rfl⟩
theorem YY{d:D}(h:yI d (.sl [.int .i64])):∃ l,d=ints l:=wF (row:=λn:Int=>[int n]) (λr H=>ziz H) h
theorem zhf{r:List D}(h:y5 r [.str,.int .i64]):∃ p:Phon,r=p.row:=by
 obtain⟨_,_,rfl,g1,r1⟩:=h.zW
 obtain⟨_,_,rfl,g2,r2⟩:=r1.zW
 obtain rfl:=r2.vY
 obtain⟨a,rfl,_⟩:=g1.gG
 obtain⟨b,rfl,_⟩:=g2.xu
 exact⟨⟨a,b⟩,rfl⟩
theorem zhg{r:List D}(h:y5 r [.str,.sl [.int .i64]]):∃ p:Grap,r=p.row:=by
 obtain⟨_,_,rfl,g1,r1⟩:=h.zW
 obtain⟨_,_,rfl,g2,r2⟩:=r1.zW
 obtain rfl:=r2.vY
 obtain⟨a,rfl,_⟩:=g1.gG
 obtain⟨b,rfl⟩:=YY g2
 exact⟨⟨a,b⟩,rfl⟩
theorem Ho{r:List D}(h:y5 r [.str]):∃ s:ByteArray,r=[.str s]:=by
 obtain⟨_,_,rfl,g1,r1⟩:=h.zW
 obtain rfl:=r1.vY
 obtain⟨a,rfl,_⟩:=g1.gG
 exact⟨a,rfl⟩
theorem zhh{r:List D}(h:y5 r [.sl [.str]]):∃ l:List ByteArray,r=[.sl (l.map λs=>[.str s])]:=by
 obtain⟨_,_,rfl,g1,r1⟩:=h.zW
 obtain rfl:=r1.vY
 obtain⟨l,rfl⟩:=wF (row:=λs:ByteArray=>[D.str s]) (λr H=>Ho H) g1
 exact⟨l,rfl⟩
theorem JR{r:List D}(h:y5 r [.int .i64,.int .i64]):∃ a b:Int,r=[int a,int b]:=by
 obtain⟨_,_,rfl,g1,r1⟩:=h.zW
 obtain⟨_,_,rfl,g2,r2⟩:=r1.zW
 obtain rfl:=r2.vY
 obtain⟨a,rfl,_⟩:=g1.xu
 obtain⟨b,rfl,_⟩:=g2.xu
 exact⟨a,b,rfl⟩
theorem Hp{d:D}(h:yI d (.sl [.int .i64,.int .i64])):∃ l,d=xc l:=wF (row:=Cls.row) (λr H=>by obtain⟨a,b,rfl⟩:=JR H;exact⟨⟨a,b⟩,rfl⟩) h
theorem zhi{r:List D}(h:y5 r [.sl [.int .i64],.sl [.int .i64],.sl [.int .i64,.int .i64],.sl [.int .i64,.int .i64],.bool,.bool]):∃ x:Rule,r=x.row:=by
 obtain⟨_,_,rfl,g1,r1⟩:=h.zW
 obtain⟨_,_,rfl,g2,r2⟩:=r1.zW
 obtain⟨_,_,rfl,g3,r3⟩:=r2.zW
 obtain⟨_,_,rfl,g4,r4⟩:=r3.zW
 obtain⟨_,_,rfl,g5,r5⟩:=r4.zW
 obtain⟨_,_,rfl,g6,r6⟩:=r5.zW
 obtain rfl:=r6.vY
 obtain⟨a,rfl⟩:=YY g1
 obtain⟨b,rfl⟩:=YY g2
 obtain⟨c,rfl⟩:=Hp g3
 obtain⟨d,rfl⟩:=Hp g4
 obtain⟨e,rfl⟩:=g5.Kz
 obtain⟨f,rfl⟩:=g6.Kz
 exact⟨⟨a,b,c,d,e,f⟩,rfl⟩
theorem zi0{r:List D}(h:y5 r [.int .i64,.int .i64,.int .i64]):∃ x:Stp,r=x.row:=by
 obtain⟨_,_,rfl,g1,r1⟩:=h.zW
 obtain⟨a,b,rfl⟩:=JR r1
 obtain⟨c,rfl,_⟩:=g1.xu
 exact⟨⟨c,a,b⟩,rfl⟩
theorem zhj{r:List D}(h:y5 r [.str,.str]):∃ x:Sens,r=x.row:=by
 obtain⟨_,_,rfl,g1,r1⟩:=h.zW
 obtain⟨b,rfl⟩:=Ho r1
 obtain⟨a,rfl,_⟩:=g1.gG
 exact⟨⟨a,b⟩,rfl⟩
theorem zfd{d:D}(h:yI d (.sl [.sl [.int .i64]])):∃ l,d=yl l:=wF (row:=λa:List Int=>[ints a]) (λr H=>by
 obtain⟨_,_,rfl,g1,r1⟩:=H.zW
 obtain rfl:=r1.vY
 obtain⟨a,rfl⟩:=YY g1
 exact⟨a,rfl⟩) h
abbrev Hq:List Sh:=[.int .i64,.sl [.int .i64],.int .i64,.sl [.sl [.int .i64]],.int .i64,.sl [.str,.str],.sl [.int .i64,.int .i64],.sl [.int .i64,.int .i64]]
theorem zi1{r:List D}(h:y5 r Hq):∃ x:Ent,r=x.row:=by
 obtain⟨_,_,rfl,g1,r1⟩:=h.zW
 obtain⟨_,_,rfl,g2,r2⟩:=r1.zW
 obtain⟨_,_,rfl,g3,r3⟩:=r2.zW
 obtain⟨_,_,rfl,g4,r4⟩:=r3.zW
 obtain⟨_,_,rfl,g5,r5⟩:=r4.zW
 obtain⟨_,_,rfl,g6,r6⟩:=r5.zW
 obtain⟨_,_,rfl,g7,r7⟩:=r6.zW
 obtain⟨_,_,rfl,g8,r8⟩:=r7.zW
 obtain rfl:=r8.vY
 obtain⟨a,rfl,_⟩:=g1.xu
 obtain⟨b,rfl⟩:=YY g2
 obtain⟨c,rfl,_⟩:=g3.xu
 obtain⟨d,rfl⟩:=zfd g4
 obtain⟨e,rfl,_⟩:=g5.xu
 obtain⟨f,rfl⟩:=wF (row:=Sens.row) (λr H=>zhj H) g6
 obtain⟨k,rfl⟩:=wF (row:=Lnk.row) (λr H=>by obtain⟨a,b,rfl⟩:=JR H;exact⟨⟨a,b⟩,rfl⟩) g7
 obtain⟨m,rfl⟩:=wF (row:=Rf.row) (λr H=>by obtain⟨a,b,rfl⟩:=JR H;exact⟨⟨a,b⟩,rfl⟩) g8
 exact⟨⟨a,b,c,d,e,f,k,m⟩,rfl⟩
abbrev Hr:List Sh:=[.sl [.str,.int .i64],.str,.sl [.str,.sl [.int .i64]],.sl [.sl [.str]],.sl [.sl [.int .i64],.sl [.int .i64],.sl [.int .i64,.int .i64],.sl [.int .i64,.int .i64],.bool,.bool],.int .i64,.sl [.int .i64,.int .i64,.int .i64],.sl [.int .i64],.sl Hq]
theorem zcq{l:List D}(h:y5 l Hr):∃ g:Lang,D.agg l=g.d:=by
 obtain⟨_,_,rfl,g1,r1⟩:=h.zW
 obtain⟨_,_,rfl,g2,r2⟩:=r1.zW
 obtain⟨_,_,rfl,g3,r3⟩:=r2.zW
 obtain⟨_,_,rfl,g4,r4⟩:=r3.zW
 obtain⟨_,_,rfl,g5,r5⟩:=r4.zW
 obtain⟨_,_,rfl,g6,r6⟩:=r5.zW
 obtain⟨_,_,rfl,g7,r7⟩:=r6.zW
 obtain⟨_,_,rfl,g8,r8⟩:=r7.zW
 obtain⟨_,_,rfl,g9,r9⟩:=r8.zW
 obtain rfl:=r9.vY
 obtain⟨a,rfl⟩:=wF (row:=Phon.row) (λr H=>zhf H) g1
 obtain⟨b,rfl,_⟩:=g2.gG
 obtain⟨c,rfl⟩:=wF (row:=Grap.row) (λr H=>zhg H) g3
 obtain⟨d,rfl⟩:=wF (row:=λr:List ByteArray=>[D.sl (r.map λs=>[.str s])]) (λr H=>zhh H) g4
 obtain⟨e,rfl⟩:=wF (row:=Rule.row) (λr H=>zhi H) g5
 obtain⟨f,rfl,_⟩:=g6.xu
 obtain⟨k,rfl⟩:=wF (row:=Stp.row) (λr H=>zi0 H) g7
 obtain⟨m,rfl⟩:=YY g8
 obtain⟨n,rfl⟩:=wF (row:=Ent.row) (λr H=>zi1 H) g9
 exact⟨⟨a,⟨b,c,d⟩,e,⟨f,k,m⟩,n⟩,rfl⟩
theorem zfe{g:Lang}(h:j4 1048576 g.d):LangC g:=by
 simp only[Lang.d,j4,Caps,Cap,zI,zN,wh,yO,stepsD,ints,zm,int,List.length_map,and_true] at h
 obtain⟨⟨a1,a2⟩,b1,⟨c1,c2⟩,⟨d1,d2⟩,⟨e1,e2⟩,_,⟨k1,_⟩,⟨m1,_⟩,n1,n2⟩:=h
 refine {inv:=⟨a1,λp hp=>?_⟩,orth:=⟨b1,λu hu=>?_,λL hL=>?_,c1,d1⟩,rules:=⟨e1,λr hr=>?_⟩,steps:=k1,final:=m1,lex:=⟨n1,λe he=>?_⟩}
 .have:=wZ a2 p hp
  simp only[Phon.row,Caps,Cap,int] at this;exact this.1
 .have:=wZ c2 u hu
  simp only[Grap.row,Caps,Cap,int,ints,List.length_map] at this;exact⟨this.1,this.2.1.1⟩
 .have:=wZ d2 L hL
  simp only[Caps,Cap,List.length_map] at this;refine⟨this.1.1,λs hs=>?_⟩
  have:=wZ this.1.2 s hs
  simp only[Caps,Cap] at this;exact this.1
 .have:=wZ e2 r hr
  simp only[Rule.row,Caps,Cap,int,ints,List.length_map] at this;exact⟨this.1.1,this.2.1.1⟩
 .have:=wZ n2 e he
  simp only[Ent.row,Caps,Cap,int,ints,yl,zZ,x4,jo,List.length_map] at this;obtain⟨_,⟨f1,_⟩,_,⟨g1,g2⟩,_,⟨s1,s2⟩,⟨l1,_⟩,⟨r1,_⟩,_⟩:=this;refine⟨f1,⟨g1,λw hw=>?_⟩,⟨s1,λs hs=>?_⟩,l1,r1⟩
  .have:=wZ g2 w hw
   simp only[Caps,Cap,List.length_map] at this;exact this.1.1
  .have:=wZ s2 s hs
   simp only[Sens.row,Caps,Cap] at this;exact⟨this.1,this.2.1⟩
theorem zi2{d:D}(h:yI d (.int .i64)):∃ n,d=int n:=by obtain⟨n,e,_⟩:=h.xu;exact⟨n,e⟩
structure AllOk(g:Lang)(w:List Int)(L:List (List Prt)):Prop where
 few:L.length<=200
 form:∀ q∈L,(xN g q).2=0/\(xN g q).1=w/\q.length<=4
 up:L.Pairwise λa b=>ya a b=true
 base:∀ q∈L,zP g.lex q∈JJ g w
 all:∀ b∈JJ g w,∃ q∈L,zP g.lex q=b
theorem zi3{g:Lang}(H:LightF g)(w:List Int):((xf g w).2≠0->(xf g w).1=[])/\((xf g w).2=0->AllOk g w (xf g w).1):=by
 rw[AZ]
 by_cases G:vG g.inv w≠0
 .rw[if_pos G]
  exact⟨λ_=>rfl,λh=>absurd h G⟩
 rw[if_neg G]
 by_cases h:200<(allT g w).length
 .rw[if_pos h]
  exact⟨λ_=>rfl,λh=>by cases h⟩
 rw[if_neg h]
 refine⟨λh=>absurd rfl h,λ_=>⟨?_,λq F=>zfc H (G9.1 F),zcl (zdu H w),λq F=>?_,λb hb=>?_⟩⟩
 .show(Y2 (allT g w)).length<=200
  rw[zhd];omega
 .obtain⟨a,E,K⟩:=Ga.1 (G9.1 F)
  rw[Hg K];exact(Hk H).2 ⟨a,E,rfl⟩
 .obtain⟨a,E,rfl⟩:=(Hk H).1 hb
  exact⟨a,G9.2 (Ga.2 ⟨a,E,Hj H (YX E).parts⟩),rfl⟩
end Go.V
namespace Go.V
open Go
section
variable {P:Program} {p q:List Nat} {l:List Oper}
variable {st:St}
end
end Go.V
namespace Go.V
open Go
section
variable {P:Program} {ops:Array Oper} {Q:Exit->Act->World->Prop}
end
section
variable {P:Program} {x y:Nat} {l:List Oper}
variable {p q:List Nat} {st:St}
end
end Go.V
namespace Go.V
open Go Go.Proofs
section
variable {P:Program} {st:St} {Q:DE->St->Prop}
end
end Go.V
namespace Go.V
open Go Go.Proofs
def vw(s t:ByteArray):Bool:=decide (t.size<=s.size)&&decide (s.extract 0 t.size=t)
theorem zcr(s t:ByteArray)(hs:s.size<2^40):zj Tryz.prog 195 [.str s,.str t] (.bool (vw s t)):=by
 refine zn mixed Tryz.func195 rfl c_195 ?_
 unfold vw
 by_cases h:t.size<=s.size
 .have H:(t.size:Int)<=s.size:=by omega
  have G:((s.extract 0 t.size).toList==t.toList)=decide (s.extract 0 t.size=t):=by
   by_cases e:s.extract 0 t.size=t
   .rw[e];simp
   .rw[decide_eq_false e,beq_eq_false_iff_ne];exact λe'=>e (bytes_inj e')
  simp+decide[Tryz.f195,int,h,H,G]
 .have H:¬(t.size:Int)<=s.size:=by omega
  simp+decide[Tryz.f195,int,h,H]
def xX(us:List Grap)(t:ByteArray):Nat->Option Nat
 |0=>none
 |k+1=>match us[k]? with
  |none=>xX us t k
  |some u=>if vw t u.graph=true then (match xX us t k with
    |none=>some k
    |some b=>if ((us[b]?.map λv=>v.graph.size).getD 0)<u.graph.size then some k else some b)
   else xX us t k
def jb:Option Nat->Int
 |none=>-1
 |some b=>b
theorem uX{us:List Grap}{t:ByteArray}:∀ {k b:Nat},xX us t k=some b->b<k/\b<us.length
 |0,b,h=>by cases h
 |k+1,b,h=>by
  unfold xX at h;split at h
  .exact⟨by have:=(uX h).1;omega,(uX h).2⟩
  .rename_i u F
   have H:k<us.length:=(List.getElem?_eq_some_iff.1 F).1
   split at h
   .split at h
    .obtain rfl:=Option.some.inj h;exact⟨by omega,H⟩
    .rename_i b' G
     split at h
     .obtain rfl:=Option.some.inj h;exact⟨by omega,H⟩
     .obtain rfl:=Option.some.inj h
      exact⟨by have:=(uX G).1;omega,(uX G).2⟩
   .exact⟨by have:=(uX h).1;omega,(uX h).2⟩
theorem zbj(o:Orth)(T:OrthC o)(s:ByteArray)(hs:s.size<2^40):zj Tryz.prog 140 [.agg o.cells,.str s] (int (jb (xX o.units s o.units.length))):=by
 have O:=T.few.1
 refine zn mixed Tryz.func140 rfl c_140 ?_
 simp+decide[Tryz.f140,int,Orth.cells]
 refine yU mixed (λk:Nat=>{n:=42,next:=1,slots:=[(1,.d (.str s)),(2,.bp 0 0),(5,.d (int (jb (xX o.units s k)))),(6,.d (int k))],own:=[(0,.box 28 (o.cells.map .d))]})
  (λk=>k<=o.units.length) (λk=>o.units.length-k) 0 (Nat.zero_le _) ?_ ?_
 .simp+decide[int,zN,Orth.cells,xX,jb]
 intro k V
 refine zL mixed ?_
 by_cases G:k<o.units.length
 case neg=>
  have:k=o.units.length:=by omega
  subst this;simp+decide[int,zN,Orth.cells]
 have F:(k:Int)<o.units.length:=by omega
 obtain⟨u,eu⟩:∃ u,o.units[k]=u:=⟨_,rfl⟩
 have eu1:o.units[k]?=some u:=by rw[List.getElem?_eq_getElem G,eu]
 have Q:=(T.units o.units[k] (List.getElem_mem G)).1
 rw[eu] at Q
 have X:=zcr s u.graph hs
 have H:xX o.units s (k+1)=if vw s u.graph=true then (match xX o.units s k with
    |none=>some k
    |some b=>if ((o.units[b]?.map λv=>v.graph.size).getD 0)<u.graph.size then some k else some b)
   else xX o.units s k:=by rw[xX,eu1]
 simp+decide[int,zN,Orth.cells,G,F,eu,eu1,Grap.row]
 refine zg X ?_
 cases Y:vw s u.graph with
 |false=>
  rw[Y,if_neg (by decide)] at H
  simp+decide[int,zN,Orth.cells,G,F,eu,eu1,Grap.row,I64];exact⟨⟨by omega,by omega⟩,k+1,G,by omega,by rw[H],by omega⟩
 |true=>
  rw[Y,if_pos rfl] at H;cases K:xX o.units s k with
  |none=>
   rw[K] at H;simp only at H
   simp+decide[int,zN,Orth.cells,G,F,eu,eu1,Grap.row,I64,jb];exact⟨⟨by omega,by omega⟩,k+1,G,by omega,by rw[H],by omega⟩
  |some b=>
   have J:=(uX K).2;have E:(b:Int)<o.units.length:=by omega
   rw[K] at H;simp only at H
   obtain⟨v,ev⟩:∃ v,o.units[b]=v:=⟨_,rfl⟩;have ev1:o.units[b]?=some v:=by rw[List.getElem?_eq_getElem J,ev]
   rw[ev1] at H;simp only[Option.map_some,Option.getD_some] at H;have M:¬(b:Int)<0:=by omega
   by_cases Z:v.graph.size<u.graph.size
   .have L:(v.graph.size:Int)<u.graph.size:=by omega
    rw[if_pos Z] at H;simp+decide[int,zN,Orth.cells,G,F,eu,eu1,Grap.row,I64,jb,J,E,ev,ev1,Z,L,M];exact⟨⟨by omega,by omega⟩,k+1,G,by omega,by rw[H],by omega⟩
   .have L:¬(v.graph.size:Int)<u.graph.size:=by omega
    rw[if_neg Z] at H;simp+decide[int,zN,Orth.cells,G,F,eu,eu1,Grap.row,I64,jb,J,E,ev,ev1,Z,L,M];exact⟨⟨by omega,by omega⟩,k+1,G,by omega,by rw[H],by omega⟩
def xE(us:List Grap)(s:ByteArray):Nat->Nat->List Nat×Nat
 |0,at_=>([],at_)
 |f+1,at_=>if at_<s.size then (match xX us (s.extract at_ s.size) us.length with
   |none=>([],at_)
   |some b=>(b::(xE us s f (at_+((us[b]?.map λv=>v.graph.size).getD 0))).1,(xE us s f (at_+((us[b]?.map λv=>v.graph.size).getD 0))).2))
  else ([],at_)
theorem JS{us:List Grap}{t:ByteArray}:∀ {k b:Nat},xX us t k=some b->∃ v,us[b]?=some v/\vw t v.graph=true
 |0,b,h=>by cases h
 |k+1,b,h=>by
  unfold xX at h;split at h
  .exact JS h
  .rename_i u H
   split at h
   .rename_i G
    split at h
    .obtain rfl:=Option.some.inj h;exact⟨u,H,G⟩
    .rename_i b' hb'
     split at h
     .obtain rfl:=Option.some.inj h;exact⟨u,H,G⟩
     .obtain rfl:=Option.some.inj h;exact JS hb'
   .exact JS h
def qR(l:List Nat):D:=.sl (l.map λ(n:Nat)=>[int (n:Int)])
theorem zdv(o:Orth)(X:OrthC o)(Y:∀ u∈o.units,0<u.graph.size)(s:ByteArray)(hs:s.size<2^30):zj Tryz.prog 82 [.agg o.cells,.str s] (.tup [qR (xE o.units s s.size 0).1,int (xE o.units s s.size 0).2]):=by
 refine zn mixed Tryz.func82 rfl c_82 ?_
 obtain⟨T,eT⟩:∃ T,xE o.units s s.size 0=T:=⟨_,rfl⟩
 rw[eT]
 simp+decide[Tryz.f82,int,Orth.cells]
 refine yU mixed (λx:List Nat×Nat=>{n:=37,next:=3,slots:=[(1,.d (.str s)),(2,.bp 0 0),(6,.ar 2),(7,.d (int x.2))],own:=[(0,.box 28 (o.cells.map .d)),(2,.arr 3 1 (x.1.map λ(n:Nat)=>[int (n:Int)]))],moved:=[2]})
  (λx=>x.2<=s.size/\x.1.length<=x.2/\∃ f,s.size-x.2<=f/\T=(x.1++(xE o.units s f x.2).1,(xE o.units s f x.2).2)) (λx=>s.size-x.2) ([],0) ⟨Nat.zero_le _,Nat.zero_le _,s.size,by omega,by rw[<-eT];rfl⟩ ?_ ?_
 .simp+decide[int,ints,Orth.cells]
 rintro⟨out,at_⟩ ⟨J,L,f,Z,A⟩
 simp only at J L Z A
 refine zL mixed ?_
 by_cases G:at_<s.size
 case neg=>
  have B:xE o.units s f at_=([],at_):=by
   cases f with
   |zero=>rfl
   |succ f=>rw[xE,if_neg G]
  rw[B,List.append_nil] at A;subst A;have H:¬(at_:Int)<s.size:=by omega
  simp+decide[int,ints,Orth.cells,G,H,qR]
 have H:(at_:Int)<s.size:=by omega
 obtain⟨f,rfl⟩:∃ f',f=f'+1:=⟨f-1,by omega⟩
 rw[xE,if_pos G] at A
 have C:=zbj o X (s.extract at_ s.size) (by simp;omega)
 simp+decide[int,ints,Orth.cells,G,H]
 refine⟨by omega,?_⟩
 refine scp C ?_
 cases I:xX o.units (s.extract at_ s.size) o.units.length with
 |none=>
  rw[I] at A;simp only[List.append_nil] at A;subst A;simp+decide[int,ints,Orth.cells,G,H,jb,qR]
 |some b=>
  rw[I] at A;simp only at A
  obtain⟨v,N,F⟩:=JS I;have K:=(uX I).2;have E:(b:Int)<o.units.length:=by omega
  have M:o.units[b]=v:=by rw[List.getElem?_eq_getElem K] at N;exact Option.some.inj N
  have V:=Y v (List.mem_of_getElem? N);have O:at_+v.graph.size<=s.size:=by
   unfold vw at F;rw[Bool.and_eq_true,decide_eq_true_eq] at F;have:=F.1
   simp at this
   omega
  rw[N] at A;simp only[Option.map_some,Option.getD_some] at A;have Q:¬(b:Int)<0:=by omega
  simp+decide[int,ints,Orth.cells,zN,G,H,jb,K,E,N,M,Q,Grap.row,I64];exact⟨by omega,by unfold maxLen;omega,⟨by omega,by omega⟩,out++[b],at_+v.graph.size,⟨O,by simp;omega,f,by omega,by rw[A,List.append_assoc];rfl⟩,by omega,by omega,by simp⟩
theorem Ge{us:List Grap}{s:ByteArray}:∀ {f at_:Nat},∀ b∈(xE us s f at_).1,b<us.length
 |0,_,b,h=>by cases h
 |f+1,at_,b,h=>by
  unfold xE at h;split at h
  .split at h
   .cases h
   .rename_i c H
    rcases List.mem_cons.1 h with e | h
    .rw[e];exact(uX H).2
    .exact Ge b h
  .cases h
theorem Gf{us:List Grap}{s:ByteArray}:∀ {f at_:Nat},(xE us s f at_).1.length<=f
 |0,_=>Nat.le_refl _
 |f+1,at_=>by
  unfold xE;split
  .split
   .exact Nat.zero_le _
   .rw[List.length_cons];exact Nat.succ_le_succ Gf
  .exact Nat.zero_le _
def vx(us:List Grap)(l:List Nat):List Int:=l.flatMap λb=>(us[b]?.map λv=>v.segs).getD []
def yY(us:List Grap)(s:ByteArray):List Int×Int×Int:=
 if s.size=0 then ([],0,4) else if (xE us s s.size 0).2<s.size then ([],(xE us s s.size 0).2,20) else if 24<(vx us (xE us s s.size 0).1).length then ([],0,5) else (vx us (xE us s s.size 0).1,0,0)
theorem Ht{us:List Grap}{l:List Nat}{k b:Nat}{v:Grap}(h:k<l.length)(H:l[k]=b)(G:us[b]?=some v):vx us (l.take (k+1))=vx us (l.take k)++v.segs:=by
 unfold vx
 rw[yu h,List.flatMap_append,List.flatMap_singleton,H,G]
 rfl
theorem Gg{us:List Grap}(hs:∀ u∈us,u.segs.length<=1048576):∀ l:List Nat,(vx us l).length<=l.length*1048576
 | []=>by simp[vx]
 |b::l=>by
  have ih:=Gg hs l;unfold vx at ih ⊢;rw[List.flatMap_cons,List.length_append,List.length_cons];have:((us[b]?.map λv=>v.segs).getD []).length<=1048576:=by
   cases h:us[b]? with
   |none=>simp
   |some v=>exact hs v (List.mem_of_getElem? h)
  omega
theorem zff(o:Orth)(Y:OrthC o)(Z:∀ u∈o.units,0<u.graph.size)(s:ByteArray)(hs:s.size<=1024):zj Tryz.prog 34 [.agg o.cells,.str s] (.tup [ints (yY o.units s).1,int (yY o.units s).2.1,int (yY o.units s).2.2]):=by
 have A:=zdv o Y Z s (by omega)
 have H:=λb=>Ge (us:=o.units) (s:=s) (f:=s.size) (at_:=0) b
 have O:=Gf (us:=o.units) (s:=s) (f:=s.size) (at_:=0)
 refine zn mixed Tryz.func34 rfl c_34 ?_
 unfold yY
 generalize xE o.units s s.size 0=T at A H O
 obtain⟨l,e⟩:=T
 simp only at A H O
 by_cases B:s.size=0
 .have C:s=ByteArray.empty:=ByteArray.ext (Array.eq_empty_of_size_eq_zero (by simpa using B))
  subst C;simp+decide[Tryz.f34,int,ints,Orth.cells]
 rw[if_neg B]
 have C:(s.toList==[] )=false:=by
  rw[beq_eq_false_iff_ne];intro e;have:s=ByteArray.empty:=bytes_inj (e.trans (by first | simp | (unfold ByteArray.toList;rw[ByteArray.toList.loop];rfl)))
  exact B (by rw[this];rfl)
 simp+decide[Tryz.f34,int,ints,Orth.cells,C]
 refine zg A ?_
 by_cases I:e<s.size
 .have M:(e:Int)<s.size:=by omega
  simp+decide[int,ints,Orth.cells,I,M,qR]
 have M:¬(e:Int)<s.size:=by omega
 rw[if_neg I]
 simp+decide[int,ints,Orth.cells,I,M,qR]
 refine yU mixed (λk:Nat=>{n:=45,next:=3,slots:=[(2,.bp 0 0),(7,.d (qR l)),(9,.ar 2),(10,.d (int k))],own:=[(0,.box 28 (o.cells.map .d)),(2,.arr 3 1 ((vx o.units (l.take k)).map λn=>[int n]))],moved:=[2]})
  (λk=>k<=l.length) (λk=>l.length-k) 0 (Nat.zero_le _) ?_ ?_
 .simp+decide[int,ints,Orth.cells,vx,qR]
 intro k N
 refine zL mixed ?_
 by_cases F:k<l.length
 case neg=>
  have:k=l.length:=by omega
  subst this;rw[List.take_length];generalize vx o.units l=W;by_cases Q:24<W.length
  .have G:(24:Int)<W.length:=by omega
   simp+decide[int,ints,Orth.cells,qR,Q,G]
  .have G:¬(24:Int)<W.length:=by omega
   simp+decide[int,ints,Orth.cells,qR,Q,G]
 have E:(k:Int)<l.length:=by omega
 obtain⟨b,eb⟩:∃ b,l[k]=b:=⟨_,rfl⟩
 have eb1:l[k]?=some b:=by rw[List.getElem?_eq_getElem F,eb]
 have J:b<o.units.length:=by rw[<-eb];exact H _ (List.getElem_mem F)
 have K:(b:Int)<o.units.length:=by omega
 obtain⟨v,ev⟩:∃ v,o.units[b]=v:=⟨_,rfl⟩
 have ev1:o.units[b]?=some v:=by rw[List.getElem?_eq_getElem J,ev]
 have X:=(Y.units o.units[b] (List.getElem_mem J)).2
 rw[ev] at X
 have V:=Ht (us:=o.units) F eb ev1
 have L:=Gg (us:=o.units) (λu P=>(Y.units u P).2) (l.take k)
 rw[List.length_take] at L
 have L:(vx o.units (l.take k)).length<=1024*1048576:=Nat.le_trans L (Nat.mul_le_mul_right _ (by omega))
 generalize vx o.units (l.take k)=W at V L
 simp+decide[int,ints,Orth.cells,qR,zN,Grap.row,F,E,eb,eb1,J,K,ev,ev1,I64]
 refine Yr mixed 10 (by rfl) (by rfl) (by rfl) (by rfl) (by simp) ?_
 simp+decide[int,ints,Orth.cells,qR,zN,Grap.row,F,E,eb,eb1,J,K,ev,ev1,I64]
 exact⟨by omega,by unfold maxLen;omega,⟨by omega,by omega⟩,k+1,F,by omega,by omega,by rw[V,List.map_append]⟩
def Zg(us:List Grap):Nat:=us.foldl (λm u=>max m u.graph.size) 0
theorem zdw{us:List Grap}{k:Nat}{u:Grap}(h:k<us.length)(H:us[k]=u):Zg (us.take (k+1))=max (Zg (us.take k)) u.graph.size:=by
 unfold Zg
 rw[yu h,List.foldl_append,H];rfl
theorem zdx(us:List Grap):∀ m,m<=us.foldl (λm u=>max m u.graph.size) m/\∀ u∈us,u.graph.size<=us.foldl (λm u=>max m u.graph.size) m:=by
 induction us with
 |nil=>intro m;exact⟨Nat.le_refl _,λu h=>by cases h⟩
 |cons v us ih=>
  intro m;obtain⟨H,G⟩:=ih (max m v.graph.size);rw[List.foldl_cons];refine⟨by omega,λu F=>?_⟩
  rcases List.mem_cons.1 F with e | F
  .rw[e];omega
  .exact G u F
theorem zhk{us:List Grap}{u:Grap}(h:u∈us):u.graph.size<=Zg us:=(zdx us 0).2 u h
theorem zfg{us:List Grap}{c:Nat}(h:∀ u∈us,u.graph.size<=c):∀ m,m<=c->us.foldl (λm u=>max m u.graph.size) m<=c:=by
 induction us with
 |nil=>intro m H;exact H
 |cons v us ih=>
  intro m H;rw[List.foldl_cons];exact ih (λu G=>h u (List.mem_cons_of_mem _ G)) _ (by have:=h v (List.mem_cons_self ..);omega)
theorem zfh{s t:ByteArray}{at_:Nat}(h:vw (s.extract at_ s.size) t=true):t.size<=s.size-at_:=by
 unfold vw at h
 rw[Bool.and_eq_true,decide_eq_true_eq] at h
 have:=h.1
 simp at this
 omega
theorem zi4{s:ByteArray}{at_ n:Nat}(h:at_+n<=s.size):(s.extract at_ s.size).extract 0 n=s.extract at_ (at_+n):=by
 rw[ByteArray.extract_extract]
 congr 1
 omega
theorem Gh{s t:ByteArray}{at_ n:Nat}(H:t.size=n)(h:at_+n<=s.size):vw (s.extract at_ s.size) t=true↔t=s.extract at_ (at_+n):=by
 unfold vw
 rw[Bool.and_eq_true,decide_eq_true_eq,decide_eq_true_eq,H,zi4 h]
 constructor
 .rintro⟨_,e⟩;exact e.symm
 .intro e;exact⟨by rw[ByteArray.size_extract];omega,e.symm⟩
theorem Gi{us:List Grap}{t:ByteArray}(h:∀ u∈us,vw t u.graph=false):∀ {k:Nat},xX us t k=none
 |0=>rfl
 |k+1=>by
  rw[xX];cases H:us[k]? with
  |none=>exact Gi h
  |some u=>
   simp only
   rw[if_neg (by rw[h u (List.mem_of_getElem? H)];decide)]
   exact Gi h
theorem Hu{us:List Grap}{t:ByteArray}{i:Nat}{v:Grap}(Q:us[i]?=some v)(T:vw t v.graph=true)(H:∀ u∈us,vw t u.graph=true->u.graph.size<=v.graph.size)
  (G:∀ u∈us.take i,vw t u.graph=true->u.graph.size<v.graph.size):∀ {k:Nat},(k<=i->∀ b,xX us t k=some b->∃ w∈us.take i,us[b]?=some w/\vw t w.graph=true)/\(i<k->xX us t k=some i)
 |0=>⟨(by intro _ b h;cases h),(by intro h;omega)⟩
 |k+1=>by
  obtain⟨V,X⟩:=Hu Q T H G (k:=k);have O:i<us.length:=(List.getElem?_eq_some_iff.1 Q).1
  constructor
  .intro Y b h
   have K:k<us.length:=by omega
   have ek:us[k]?=some us[k]:=List.getElem?_eq_getElem K
   have E:us[k]∈us.take i:=List.mem_iff_getElem.2 ⟨k,by rw[List.length_take];omega,by rw[List.getElem_take]⟩
   rw[xX,ek] at h;simp only at h
   split at h
   .rename_i F
    split at h
    .obtain rfl:=Option.some.inj h;exact⟨_,E,ek,F⟩
    .rename_i b' hb'
     split at h
     .obtain rfl:=Option.some.inj h;exact⟨_,E,ek,F⟩
     .obtain rfl:=Option.some.inj h;exact V (by omega) _ hb'
   .exact V (by omega) b h
  .intro Y
   rw[xX];by_cases J:k=i
   .subst J
    rw[Q];simp only
    rw[if_pos T];cases F:xX us t k with
    |none=>rfl
    |some b=>
     simp only
     obtain⟨w,Z,ew,L⟩:=V (Nat.le_refl _) b F;rw[ew,Option.map_some,Option.getD_some,if_pos (G w Z L)]
   .rw[X (by omega)]
    cases A:us[k]? with
    |none=>rfl
    |some u=>
     simp only
     split
     .rename_i M
      rw[Q,if_neg (by have:=H u (List.mem_of_getElem? A) M;simp;omega)]
     .rfl
theorem zdy(o:Orth)(P:OrthC o)(S:∀ u∈o.units,0<u.graph.size)(s:ByteArray)(hs:s.size<2^30):zj Tryz.prog 169 [.agg o.cells,.str s] (.tup [qR (xE o.units s s.size 0).1,int (xE o.units s s.size 0).2]):=by
 refine zn mixed Tryz.func169 rfl c_169 ?_
 have X:=P.few.1
 obtain⟨T,eT⟩:∃ T,xE o.units s s.size 0=T:=⟨_,rfl⟩
 rw[eT]
 simp+decide[Tryz.f169,int,Orth.cells,zN]
 refine yU mixed (λk:Nat=>{n:=68,next:=2,slots:=[(1,.d (.str s)),(2,.bp 0 0),(6,.d (int (Zg (o.units.take k)))),(15,.d (zN o.units)),(16,.d (int o.units.length)),(17,.d (int k))],own:=[(0,.box 28 (o.cells.map .d))]})
  (λk=>k<=o.units.length) (λk=>o.units.length-k) 0 (Nat.zero_le _) ?_ ?_
 .simp+decide[int,zN,Orth.cells,Zg]
 intro k W
 refine zL mixed ?_
 by_cases G:k<o.units.length
 case pos=>
  have H:(k:Int)<o.units.length:=by omega
  obtain⟨u,eu⟩:∃ u,o.units[k]=u:=⟨_,rfl⟩;have eu1:o.units[k]?=some u:=by rw[List.getElem?_eq_getElem G,eu]
  have Y:=(P.units o.units[k] (List.getElem_mem G)).1;rw[eu] at Y;have hm:=zdw G eu;simp+decide[int,zN,Orth.cells,G,H,eu,eu1,Grap.row,I64];refine⟨⟨by omega,by omega⟩,k+1,G,by omega,?_,by omega⟩
  rw[hm];split <;> omega
 have:k=o.units.length:=by omega
 subst this
 rw[List.take_length]
 simp+decide[int,zN,Orth.cells]
 have Z:Zg o.units<=1048576:=zfg (λu hu=>(P.units u hu).1) 0 (by omega)
 have V:=λu=>zhk (us:=o.units) (u:=u)
 generalize Zg o.units=most at Z V
 refine yU mixed (λx:List Nat×Nat=>{n:=68,next:=3,slots:=[(1,.d (.str s)),(2,.bp 0 0),(6,.d (int most)),(9,.ar 2),(10,.d (int x.2))],own:=[(0,.box 28 (o.cells.map .d)),(2,.arr 3 1 (x.1.map λ(n:Nat)=>[int (n:Int)]))],moved:=[2]})
  (λx=>x.2<=s.size/\x.1.length<=x.2/\∃ f,s.size-x.2<=f/\T=(x.1++(xE o.units s f x.2).1,(xE o.units s f x.2).2)) (λx=>s.size-x.2) ([],0) ⟨Nat.zero_le _,Nat.zero_le _,s.size,by omega,by rw[<-eT];rfl⟩ ?_ ?_
 .simp+decide[int,ints,Orth.cells,zN]
 rintro⟨out,at_⟩ ⟨A,B,f,hf,hT⟩
 simp only at A B hf hT
 refine zL mixed ?_
 by_cases G:at_<s.size
 case neg=>
  have hu:xE o.units s f at_=([],at_):=by
   cases f with
   |zero=>rfl
   |succ f=>rw[xE,if_neg G]
  rw[hu,List.append_nil] at hT;subst hT;have H:¬(at_:Int)<s.size:=by omega
  simp+decide[int,ints,Orth.cells,G,H,qR]
 have H:(at_:Int)<s.size:=by omega
 obtain⟨f,rfl⟩:∃ f',f=f'+1:=⟨f-1,by omega⟩
 rw[xE,if_pos G] at hT
 simp+decide[int,ints,Orth.cells,zN,G,H,I64]
 refine⟨by omega,?_⟩
 refine yU mixed (λn:Nat=>{n:=68,next:=3,slots:=[(1,.d (.str s)),(2,.bp 0 0),(6,.d (int most)),(9,.ar 2),(10,.d (int at_)),(11,.d (int n))],own:=[(0,.box 28 (o.cells.map .d)),(2,.arr 3 1 (out.map λ(n:Nat)=>[int (n:Int)]))],moved:=[2]})
  (λn=>n<=s.size-at_/\∀ u∈o.units,vw (s.extract at_ s.size) u.graph=true->u.graph.size<=n) (λn=>n) (min most (s.size-at_)) ⟨by omega,λu hu hb=>?_⟩ ?_ ?_
 .have h1:=V u hu
  have h2:=(zfh hb);omega
 .simp+decide[int,ints,Orth.cells,zN]
  split <;> omega
 intro n ⟨hn,F⟩
 refine zL mixed ?_
 by_cases C:n=0
 .subst C
  have I:xX o.units (s.extract at_ s.size) o.units.length=none:=Gi λu hu=>by
   cases hb:vw (s.extract at_ s.size) u.graph with
   |false=>rfl
   |true=>have:=F u hu hb;have:=S u hu;omega
  rw[I] at hT;simp only[List.append_nil] at hT;subst hT;simp+decide[int,ints,Orth.cells,zN,qR]
 have L:(0:Int)<n:=by omega
 have E:0<n:=by omega
 simp+decide[int,ints,Orth.cells,zN,L,E]
 refine yU mixed (λi:Nat=>{n:=68,next:=3,slots:=[(1,.d (.str s)),(2,.bp 0 0),(6,.d (int most)),(9,.ar 2),(10,.d (int at_)),(11,.d (int n)),(42,.d (zN o.units)),(43,.d (int o.units.length)),(44,.d (int i))],own:=[(0,.box 28 (o.cells.map .d)),(2,.arr 3 1 (out.map λ(n:Nat)=>[int (n:Int)]))],moved:=[2]})
  (λi=>i<=o.units.length/\∀ u∈o.units.take i,u.graph≠s.extract at_ (at_+n)) (λi=>o.units.length-i) 0 ⟨Nat.zero_le _,λu hu=>by simp at hu⟩ ?_ ?_
 .simp+decide[int,ints,Orth.cells,zN]
 intro i ⟨hi,J⟩
 refine zL mixed ?_
 by_cases K:i<o.units.length
 case neg=>
  have:i=o.units.length:=by omega
  subst this;rw[List.take_length] at J;simp+decide[int,ints,Orth.cells,zN,I64];refine⟨by omega,n-1,⟨by omega,λu hu hb=>?_⟩,by omega,by omega⟩
  have h1:=F u hu hb;have h2:u.graph.size≠n:=λe=>J u hu ((Gh e (by omega)).1 hb)
  omega
 have M:(i:Int)<o.units.length:=by omega
 obtain⟨u,eu⟩:∃ u,o.units[i]=u:=⟨_,rfl⟩
 have eu1:o.units[i]?=some u:=by rw[List.getElem?_eq_getElem K,eu]
 simp+decide[int,ints,Orth.cells,zN,I64,K,M,eu,eu1,Grap.row]
 have O:((at_:Int)+(n:Int)).toNat=at_+n:=by omega
 rw[O]
 refine⟨by omega,⟨by omega,by omega⟩,λhe=>?_,λhe=>?_⟩
 .have he:u.graph=s.extract at_ (at_+n):=by first | exact bytes_inj he | exact he
  have Q:u.graph.size=n:=by rw[he,ByteArray.size_extract];omega
  have N:=(Gh Q (by omega)).2 he
  have hF:=(Hu (k:=o.units.length) eu1 N (λv hv hb=>by rw[Q];exact F v hv hb) (λv hv hb=>by
   have h1:=F v (List.mem_of_mem_take hv) hb;have h2:v.graph.size≠n:=λe=>J v hv ((Gh e (by omega)).1 hb)
   omega)).2 K
  rw[hF] at hT;simp only at hT
  rw[eu1,Option.map_some,Option.getD_some,Q] at hT;exact⟨by omega,by unfold maxLen;omega,by omega,out++[i],at_+n,⟨by omega,by simp;omega,f,by omega,by rw[hT,List.append_assoc];rfl⟩,by omega,by omega,by simp⟩
 .refine⟨by omega,i+1,⟨K,λv hv=>?_⟩,by omega,by omega⟩
  rw[yu K,eu] at hv;rcases List.mem_append.1 hv with h | h
  .exact J v h
  .rw[List.mem_singleton] at h
   rw[h];exact λe=>he (by rw[e])
theorem Gj(o:Orth)(Y:OrthC o)(Z:∀ u∈o.units,0<u.graph.size)(s:ByteArray)(hs:s.size<=1024):zj Tryz.prog 119 [.agg o.cells,.str s] (.tup [ints (yY o.units s).1,int (yY o.units s).2.1,int (yY o.units s).2.2]):=by
 have A:=zdy o Y Z s (by omega)
 have H:=λb=>Ge (us:=o.units) (s:=s) (f:=s.size) (at_:=0) b
 have O:=Gf (us:=o.units) (s:=s) (f:=s.size) (at_:=0)
 refine zn mixed Tryz.func119 rfl c_119 ?_
 unfold yY
 generalize xE o.units s s.size 0=T at A H O
 obtain⟨l,e⟩:=T
 simp only at A H O
 by_cases B:s.size=0
 .have C:s=ByteArray.empty:=ByteArray.ext (Array.eq_empty_of_size_eq_zero (by simpa using B))
  subst C;simp+decide[Tryz.f119,int,ints,Orth.cells]
 rw[if_neg B]
 have C:(s.toList==[] )=false:=by
  rw[beq_eq_false_iff_ne];intro e;have:s=ByteArray.empty:=bytes_inj (e.trans (by first | simp | (unfold ByteArray.toList;rw[ByteArray.toList.loop];rfl)))
  exact B (by rw[this];rfl)
 simp+decide[Tryz.f119,int,ints,Orth.cells,C]
 refine zg A ?_
 by_cases I:e<s.size
 .have K:(e:Int)<s.size:=by omega
  simp+decide[int,ints,Orth.cells,I,K,qR]
 have K:¬(e:Int)<s.size:=by omega
 rw[if_neg I]
 simp+decide[int,ints,Orth.cells,I,K,qR]
 refine yU mixed (λk:Nat=>{n:=44,next:=3,slots:=[(2,.bp 0 0),(9,.ar 2),(25,.d (qR l)),(26,.d (int l.length)),(27,.d (int k))],own:=[(0,.box 28 (o.cells.map .d)),(2,.arr 3 1 ((vx o.units (l.take k)).map λn=>[int n]))],moved:=[2]})
  (λk=>k<=l.length) (λk=>l.length-k) 0 (Nat.zero_le _) ?_ ?_
 .simp+decide[int,ints,Orth.cells,vx,qR]
 intro k N
 refine zL mixed ?_
 by_cases F:k<l.length
 case neg=>
  have:k=l.length:=by omega
  subst this;rw[List.take_length];generalize vx o.units l=W;by_cases Q:24<W.length
  .have G:(24:Int)<W.length:=by omega
   simp+decide[int,ints,Orth.cells,qR,Q,G]
  .have G:¬(24:Int)<W.length:=by omega
   simp+decide[int,ints,Orth.cells,qR,Q,G]
 have J:(k:Int)<l.length:=by omega
 obtain⟨b,eb⟩:∃ b,l[k]=b:=⟨_,rfl⟩
 have eb1:l[k]?=some b:=by rw[List.getElem?_eq_getElem F,eb]
 have L:b<o.units.length:=by rw[<-eb];exact H _ (List.getElem_mem F)
 have M:(b:Int)<o.units.length:=by omega
 obtain⟨v,ev⟩:∃ v,o.units[b]=v:=⟨_,rfl⟩
 have ev1:o.units[b]?=some v:=by rw[List.getElem?_eq_getElem L,ev]
 have X:=(Y.units o.units[b] (List.getElem_mem L)).2
 rw[ev] at X
 have V:=Ht (us:=o.units) F eb ev1
 have E:=Gg (us:=o.units) (λu P=>(Y.units u P).2) (l.take k)
 rw[List.length_take] at E
 have E:(vx o.units (l.take k)).length<=1024*1048576:=Nat.le_trans E (Nat.mul_le_mul_right _ (by omega))
 generalize vx o.units (l.take k)=W at V E
 simp+decide[int,ints,Orth.cells,qR,zN,Grap.row,F,J,eb,eb1,L,M,ev,ev1,I64]
 exact⟨by omega,by unfold maxLen;omega,⟨by omega,by omega⟩,k+1,F,by omega,by omega,by rw[V,List.map_append]⟩
theorem JU(us:List Grap)(s:ByteArray):(yY us s).1.length<=24:=by
 unfold yY
 split
 .exact Nat.zero_le _
 .split
  .exact Nat.zero_le _
  .split
   .exact Nat.zero_le _
   .rename_i h;exact Nat.le_of_not_lt h
def um(g:Lang)(s:ByteArray):List (List Prt)×Int:=if (yY g.orth.units s).2.2≠0 then ([],(yY g.orth.units s).2.2) else xf g (yY g.orth.units s).1
theorem zi5(g:Lang)(H:LightF g)(G:LangC g)(s:ByteArray)(hs:s.size<=1024):zj Tryz.prog 215 [g.d,.str s] (.tup [xJ (um g s).1,int (um g s).2]):=by
 have F:=Gj g.orth G.orth H.graphs s hs
 have E:=AY g H G (yY g.orth.units s).1 (by have:=JU g.orth.units s;omega)
 unfold um
 generalize yY g.orth.units s=z at F E
 obtain⟨w,a,e⟩:=z
 simp only at F E
 refine zn mixed Tryz.func215 rfl c_215 ?_
 simp+decide[Tryz.f215,zq,Lang.d,int,ints]
 refine zg F ?_
 by_cases K:e=0
 case neg=>simp+decide[int,ints,xJ,K]
 subst K
 simp+decide[int,ints]
 refine zg E ?_
 simp+decide[int,ints,xJ]
theorem zdz{g:Lang}(H:LightF g)(w:List Int):(xf g w).1.length<=200/\∀ q∈(xf g w).1,q.length<=4:=by
 obtain⟨G,F⟩:=zi3 H w
 by_cases E:(xf g w).2=0
 .exact⟨(F E).few,λq K=>((F E).form q K).2.2⟩
 .rw[G E]
  exact⟨Nat.zero_le _,λq K=>by cases K⟩
theorem Hv{g:Lang}(H:LightF g)(s:ByteArray):(um g s).1.length<=200/\∀ q∈(um g s).1,q.length<=4:=by
 unfold um
 split
 .exact⟨Nat.zero_le _,λq G=>by cases G⟩
 .exact zdz H _
end Go.V

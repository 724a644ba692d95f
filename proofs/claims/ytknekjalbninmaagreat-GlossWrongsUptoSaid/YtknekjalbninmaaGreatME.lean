/- Contracts and plain laws of this seat: part ME. It needs no conditions. -/
import Derived.Test.YtknekjalbninmaaGreatMD
import Derived.Test.YtknekjalbninmaaGreatMA
import Derived.Test.YtknekjalbninmaaGreatB1
import Derived.Test.YtknekjalbninmaaGreatMB
import Derived.Test.YtknekjalbninmaaGreatW1
set_option maxHeartbeats 32000000
set_option linter.unusedVariables false
set_option linter.unusedSimpArgs false
set_option linter.unusedSectionVars false
set_option maxRecDepth 100000
namespace Go.V
open Go Go.Proofs
def St.qO(st:St):St:={st with moved:=st.moved.filter (λi=>decide (i<st.base))}
theorem Mods.qO{X:Nat->Prop}{w0:Base}{st:St}{β:Nat->Value}{a:Act}{w:World}(G:Mods X w0 st β a w):Mods X w0 st.qO β a w:=
 {G with still:=⟨G.still.1,λid hid hk=>G.still.2 id hid (λH=>hk (List.mem_filter.2 ⟨H,decide_eq_true hid⟩))⟩}
def j8(Q:St->Prop):St->Prop:=λst=>Q st.qO
theorem Ja{P:Program}(F:P.follows .mixedOrders=true){f:Nat}{fn:Func}{c:Code}(E:P.funcs[f]?=some fn)(K:fn.body=some c)(H:callable P f=true)
  {args:List Sym} {own:List (Nat×Obj')} {n:Nat} {s:Sym} {nx:Nat} {own':List (Nat×Obj')} {mv:List Nat} (J:Sym.los n args)
  (h:ev P c (jh (j8 (u0 P fn.results.toList n s nx own' mv))) (initC fn.ntmps args own n)):zJ P f args own n s nx own' mv:=by
 refine⟨H,λX w0 β w vs hβ L hs=>?_⟩
 refine calls_of_wp E K ?_
 refine wp_mono (zM F h X w0 _ _ w (L.initC hs J)) ?_
 rintro e a' w' ⟨de,st',β',M,O,G⟩
 cases e <;> cases de <;> simp only[yw] at M
 .obtain⟨v,Q,T,V,Y⟩:=kD L.defers G.qO O
  exact⟨G.defers.trans L.defers.symm,v,Q,β',v,rfl,T,V,Y⟩
 .exact O.elim
 .obtain⟨v,Q,T,V,Y⟩:=kD L.defers G.qO O
  exact⟨G.defers.trans L.defers.symm,v,Q,β',v,rfl,T,V,Y⟩
abbrev x9:=List (List Prt)×Bool
def yK(x:x9)(a:List Prt):x9×Bool:=if x.1.length=200 then ((x.1,true),false) else ((insL (λo=>zN a o) a x.1,x.2),true)
def xa(x:x9):List (Nat×Obj'):=[(0,.box 241 [.ar 2]),(1,.box 4 [.d (.bool x.2)]),(2,.arr 39 1 (x.1.map λa=>[zg a]))]
theorem A1(x:x9)(Y:x.1.length<=200)(V:∀ b∈x.1,b.length<2^40)(a:List Prt)(Z:a.length<2^40):
  zJ Tryz.prog 269 [.d (zu a),.bp 0 0,.bp 1 0] (xa x) 3 (.d (.bool (yK x a).2)) 3 (xa (yK x a).1) [2]:=by
 obtain⟨out,full⟩:=x
 simp only at Y V
 refine Ja mixed Tryz.func269 rfl c_269 (by simp[Sym.los,Sym.lo]) ?_
 unfold yK
 by_cases E:out.length=200
 .have G:(out.length:Int)=200:=by omega
  simp+decide[Tryz.f269,xa,int,zu,zg,E,G,j8,St.qO];done
 have G:¬(out.length:Int)=200:=by omega
 simp+decide[Tryz.f269,xa,int,zu,zg,E,G,j8,St.qO]
 refine yg mixed (λk:Nat=>{n:=40,next:=4,slots:=[(1,.bp 0 0),(2,.bp 1 0),(3,.bp 3 0),(5,.d (int k))],own:=(3,.box 39 [.d (zg a)])::xa (out,full),base:=3})
  (λk=>k<=out.length/\xC (λo=>zN a o) out k=xC (λo=>zN a o) out out.length) (λk=>k) out.length ⟨Nat.le_refl _,rfl⟩ ?_ ?_
 .simp+decide[xa,int,zu,zg]
 intro k ⟨A,H⟩
 by_cases X:0<k
 case neg=>
  have B:xC (λo=>zN a o) out out.length=k:=by
   rw[<-H];have:k=0:=by omega
   subst this;rfl
  have O:¬(0:Int)<k:=by omega
  refine zM mixed ?_
  simp+decide[xa,int,zu,zg,I64,X,O];unfold insL;rw[B];clear H;generalize k=p at *;refine⟨by omega,by unfold maxLen;omega,?_⟩
  refine uc mixed 7 (by rfl) (by rfl) (by rfl) (by rfl) (by simp) ?_
  have K:¬(p:Int)=(out.length:Int)+1:=by omega
  by_cases Q:p=out.length
  .subst Q
   simp+decide[int,zg,u32,I64,j8,St.qO,K];exact⟨⟨by omega,by omega⟩,by omega,by omega,by omega⟩
  .have T:p<out.length:=by omega
   have F:¬(p:Int)=(out.length:Int):=by omega
   have C:p+(out.length+1-p)=out.length+1:=by omega
   obtain⟨a1,a2,a3⟩:=Ed (R:=out.map (λa=>[zg a])) (by intro r I;obtain⟨y,_,rfl⟩:=List.mem_map.1 I;rfl) (nr:=[.sl []]) rfl (zg a) (p:=p) (L:=out.length) (by simp) T
   unfold ZM at a2 a3;simp only[zg] at a1 a2 a3;simp+decide[int,zg,u32,I64,j8,St.qO,K,F,C];refine⟨⟨by omega,by omega⟩,⟨by omega,A⟩,by omega,a1,by omega,by omega,by omega,a2,a3⟩
 obtain⟨j,rfl⟩:∃ j,k=j+1:=⟨k-1,by omega⟩
 have M:j<out.length:=by omega
 have J:(j:Int)<out.length:=by omega
 obtain⟨o,eo⟩:∃ o,out[j]=o:=⟨_,rfl⟩
 have e1:out[j]?=some o:=by rw[List.getElem?_eq_getElem M,eo]
 have N:=TV a o (by omega) (by have:=V out[j] (List.getElem_mem M);rw[eo] at this;omega)
 rw[xC,e1] at H
 simp only at H
 refine zM mixed ?_
 simp+decide[xa,int,zu,zg,I64,M,J,eo,e1]
 refine⟨by omega,?_⟩
 refine zq (by rfl) (by rfl) N (by simp[D.scalar]) ?_
 cases P:zN a o with
 |true=>
  rw[if_pos P] at H;simp+decide[xa,int,zu,zg,I64,P];exact⟨by omega,j,⟨by omega,H⟩,by omega,rfl⟩
 |false=>
  rw[if_neg (by rw[P];decide)] at H
  simp+decide[xa,int,zu,zg,I64,P];unfold insL;rw[<-H];rw[show(j:Int)+1=((j+1:Nat):Int) from by omega]
  clear H e1 eo M J X;generalize j+1=p at *;refine⟨by omega,by unfold maxLen;omega,?_⟩
  refine uc mixed 7 (by rfl) (by rfl) (by rfl) (by rfl) (by simp) ?_
  have K:¬(p:Int)=(out.length:Int)+1:=by omega
  by_cases Q:p=out.length
  .subst Q
   simp+decide[int,zg,u32,I64,j8,St.qO,K];exact⟨⟨by omega,by omega⟩,by omega,by omega,by omega⟩
  .have T:p<out.length:=by omega
   have F:¬(p:Int)=(out.length:Int):=by omega
   have C:p+(out.length+1-p)=out.length+1:=by omega
   obtain⟨a1,a2,a3⟩:=Ed (R:=out.map (λa=>[zg a])) (by intro r I;obtain⟨y,_,rfl⟩:=List.mem_map.1 I;rfl) (nr:=[.sl []]) rfl (zg a) (p:=p) (L:=out.length) (by simp) T
   unfold ZM at a2 a3;simp only[zg] at a1 a2 a3;simp+decide[int,zg,u32,I64,j8,St.qO,K,F,C];refine⟨⟨by omega,by omega⟩,⟨by omega,A⟩,by omega,a1,by omega,by omega,by omega,a2,a3⟩
end Go.V
namespace Go.V
open Go Go.Proofs
section
variable {σ α:Type}
def xb(G:σ->α->σ×Bool):σ×Bool->List α->σ×Bool
 |z,[]=>z
 |z,a::r=>if z.2=false then z else xb G (G z.1 a) r
theorem Yy(G:σ->α->σ×Bool)(z:σ×Bool)(a:α)(r:List α):xb G z (a::r)=if z.2=false then z else xb G (G z.1 a) r:=rfl
theorem Qi{G:σ->α->σ×Bool}{z:σ×Bool}(h:z.2=false):∀ l,xb G z l=z
 | []=>rfl
 |a::r=>by rw[Yy,if_pos h]
theorem Jb{G:σ->α->σ×Bool}:∀ (z:σ×Bool) (l r:List α),xb G z (l++r)=xb G (xb G z l) r
 |z,[],r=>rfl
 |z,a::l,r=>by
  rw[List.cons_append,Yy,Yy];by_cases h:z.2=false
  .rw[if_pos h,if_pos h]
   exact(Qi h r).symm
  .rw[if_neg h,if_neg h]
   exact Jb _ l r
end
def xP(g:Lang):Nat->List Prt->Nat->List (List Prt)
 |0,p,_=>[p]
 |f+1,p,i=>(List.range (yW g.lex (p.getD i ⟨0,0,0⟩).entry).length).flatMap λ(k:Nat)=>xP g f (p.set i ⟨(p.getD i ⟨0,0,0⟩).entry,(p.getD i ⟨0,0,0⟩).alt,k⟩) (i+1)
def allI(x:x9):Prop:=x.1.length<=200/\∀ b∈x.1,b.length<=4
theorem A2{x:x9}(h:allI x){a:List Prt}(H:a.length<=4):allI (yK x a).1:=by
 unfold yK
 split
 .exact h
 .rename_i hl
  refine⟨by simp only[Qh];have:=h.1;omega,λb G=>?_⟩
  rcases gW.1 G with e | e
  .rw[e];exact H
  .exact h.2 b e
theorem UJ:∀ (l:List (List Prt)) (z:x9×Bool),allI z.1->(∀ a∈l,a.length<=4)->allI (xb yK z l).1
 | [],z,h,_=>h
 |a::l,z,h,H=>by
  rw[Yy];split
  .exact h
  .exact UJ l _ (A2 h (H a (List.mem_cons_self ..))) λb G=>H b (List.mem_cons_of_mem _ G)
theorem UK(g:Lang):∀ (f:Nat) (p:List Prt) (i:Nat),∀ q∈xP g f p i,q.length=p.length
 |0,p,i,q,h=>by rw[xP,List.mem_singleton] at h;rw[h]
 |f+1,p,i,q,h=>by
  rw[xP,List.mem_flatMap] at h;obtain⟨k,_,h⟩:=h;rw[UK g f _ _ q h,List.length_set]
def qP(g:Lang)(f:Nat)(p:List Prt)(i k:Nat):List (List Prt):=(List.range k).flatMap λ(k:Nat)=>xP g f (p.set i ⟨(p.getD i ⟨0,0,0⟩).entry,(p.getD i ⟨0,0,0⟩).alt,k⟩) (i+1)
theorem Ee(g:Lang)(f:Nat)(p:List Prt)(i k:Nat):qP g f p i (k+1)=qP g f p i k++xP g f (p.set i ⟨(p.getD i ⟨0,0,0⟩).entry,(p.getD i ⟨0,0,0⟩).alt,k⟩) (i+1):=by
 unfold qP;rw[List.range_succ,List.flatMap_append,List.flatMap_singleton]
theorem Ef(g:Lang)(f:Nat)(p:List Prt)(i:Nat)(z:x9×Bool)(k:Nat)(h:(xb yK z (qP g f p i k)).2=false):∀ d,xb yK z (qP g f p i (k+d))=xb yK z (qP g f p i k)
 |0=>rfl
 |d+1=>by
  rw[<-Nat.add_assoc,Ee,Jb,Ef g f p i z k h d];exact Qi h _
theorem Eg{l:List Ent}(h:∀ e∈l,e.senses.length<2^40):∀ ids,(vp l ids).length<2^40
 | []=>by simp[vp]
 |x::r=>by
  unfold vp;split
  .unfold zD
   cases H:l.find? (·.id=x) with
   |none=>simp[Ent.zero]
   |some e=>exact h e (List.mem_of_find?_eq_some H)
  .exact Eg h r
def Jc(g:Lang)(f:Nat):Prop:=∀ (x:x9) (p:List Prt) (i:Nat),allI x->p.length<=4->i+f=p.length ->
 zJ Tryz.prog 273 [.d g.d,.d (zg p),.d (int i),.fn 269 [.bp 0 0,.bp 1 0]] (xa x) 3 (.d (.bool (xb yK (x,true) (xP g f p i)).2)) 3 (xa (xb yK (x,true) (xP g f p i)).1) [2]
theorem A3(g:Lang):Jc g 0:=by
 intro x p i F E hi
 have G:(i:Int)=p.length:=by omega
 have H:=A1 x F.1 (λb K=>by have:=F.2 b K;omega) p (by omega)
 rw[show xb yK (x,true) (xP g 0 p i)=yK x p from by simp[xP,xb]]
 generalize yK x p=z at H
 obtain⟨zx,zb⟩:=z
 obtain⟨out,full⟩:=x
 obtain⟨zo,zf⟩:=zx
 refine Ja mixed Tryz.func273 rfl c_273 (by simp[Sym.los,Sym.lo]) ?_
 simp+decide[Tryz.f273,xa,int,zg,zj,Lang.d,G]
 refine⟨λa _=>rfl,by omega,by unfold maxLen;omega,?_⟩
 refine zc.Mk [4] rfl [0,1,2] [.d (zu p),.bp 0 0,.bp 1 0] (xa (out,full)) (by rfl) (by simp[y8,ren,rho,zu,zg]) (by simp) ?_ H ?_
 .simp[Fits,vG,xa,St.look,zh,qI,y8,ren,rho,int,List.range,List.range.loop,zg]
 simp+decide[int,zg,xa,j8,St.qO]
theorem A4(g:Lang)(Z:LightF g)(A:LangC g)(f:Nat)(ih:Jc g f):Jc g (f+1):=by
 intro x p i B C hi
 have X:¬(i:Int)=p.length:=by omega
 have L:i<p.length:=by omega
 have K:(i:Int)<p.length:=by omega
 obtain⟨q,eq⟩:∃ q,p[i]=q:=⟨_,rfl⟩
 have e1:p[i]?=some q:=by rw[List.getElem?_eq_getElem L,eq]
 have eg:p.getD i ⟨0,0,0⟩=q:=by rw[List.getD_eq_getElem?_getD,e1];rfl
 have I:=Z.wA A
 have N:=Vu g.lex q.entry I.lex.len I.lex.senses
 refine Ja mixed Tryz.func273 rfl c_273 (by simp[Sym.los,Sym.lo]) ?_
 simp+decide[Tryz.f273,xa,int,zg,zj,Lang.d,X,Prt.row,L,K,e1,eq]
 refine zq (by rfl) (by rfl) N (by simp[D.scalar,zT,int]) ?_
 simp+decide[xa,int,zg,zj,Lang.d,zT]
 unfold xP
 rw[eg]
 obtain⟨ns,ens⟩:∃ ns,(yW g.lex q.entry).length=ns:=⟨_,rfl⟩
 have Y:ns<2^40:=by
  rw[<-ens];unfold yW;rw[XH];exact Eg I.lex.senses _
 rw[ens]
 refine yg mixed (λk:Nat=>{n:=49,next:=4,slots:=[(1,.d (zg p)),(2,.d (int i)),(3,.fn 269 [.bp 0 0,.bp 1 0]),(4,.bp 3 0),(29,.d (int ns)),(30,.d (int k))],own:=(3,.box 36 (zj g.d))::xa (xb yK (x,true) (qP g f p i k)).1,base:=3,moved:=[2,4]})
  (λk=>k<=ns/\(xb yK (x,true) (qP g f p i k)).2=true) (λk=>ns-k) 0 ⟨Nat.zero_le _,rfl⟩ ?_ ?_
 .simp+decide[xa,int,zg,zj,Lang.d,qP,xb]
 intro k ⟨P,E⟩
 have J:=UJ (qP g f p i k) (x,true) B (λa S=>by
  unfold qP at S;rw[List.mem_flatMap] at S;obtain⟨_,_,S⟩:=S;rw[UK g f _ _ a S,List.length_set];exact C)
 have Q:=Ee g f p i k
 rw[eg] at Q
 have H:xb yK (x,true) (qP g f p i (k+1))=xb yK (xb yK (x,true) (qP g f p i k)) (xP g f (p.set i ⟨q.entry,q.alt,k⟩) (i+1)):=by rw[Q,Jb]
 by_cases T:k<ns
 case neg=>
  have:k=ns:=by omega
  subst this;have F:(List.range k).flatMap (λ(k:Nat)=>xP g f (p.set i ⟨q.entry,q.alt,k⟩) (i+1))=qP g f p i k:=by unfold qP;rw[eg]
  rw[F];generalize xb yK (x,true) (qP g f p i k)=z at E;obtain⟨zx,zb⟩:=z;simp only at E
  subst E;refine zM mixed ?_
  simp+decide[xa,int,zg,zj,Lang.d,j8,St.qO]
 have M:(k:Int)<ns:=by omega
 generalize xb yK (x,true) (qP g f p i k)=z at E H J
 obtain⟨⟨out,full⟩,zb⟩:=z
 simp only at E
 subst E
 have G:=ih (out,full) (p.set i ⟨q.entry,q.alt,k⟩) (i+1) J (by rw[List.length_set];exact C) (by rw[List.length_set];omega)
 have O:(p.map Prt.row).set i [.int .i64 q.entry,.int .i64 q.alt,.int .i64 k]=(p.set i ⟨q.entry,q.alt,(k:Int)⟩).map Prt.row:=by rw[List.map_set];rfl
 refine zM mixed ?_
 simp+decide[xa,int,zg,zj,Lang.d,T,M,I64,Prt.row,L,K]
 rw[eq,O]
 refine⟨by omega,by unfold maxLen;omega,⟨by omega,by omega⟩,?_⟩
 generalize xb yK ((out,full),true) (xP g f (p.set i ⟨q.entry,q.alt,(k:Int)⟩) (i+1))=z2 at G H
 obtain⟨⟨o2,f2⟩,b2⟩:=z2
 refine zc.Mk [4] rfl [0,1,2] [.d g.d,.d (zg (p.set i ⟨q.entry,q.alt,(k:Int)⟩)),.d (int (i+1)),.fn 269 [.bp 0 0,.bp 1 0]] (xa (out,full)) (by rfl) (by simp[y8,ren,rho,zu,zg,Lang.d,int]) (by simp) ?_ (by simpa using G) ?_
 .simp[Fits,vG,xa,St.look,zh,qI,y8,ren,rho,int,List.range,List.range.loop,zg]
 cases b2 with
 |true=>
  simp+decide[int,zg,xa,j8,St.qO,zj,Lang.d,I64];exact⟨⟨by omega,by omega⟩,k+1,⟨T,by rw[H]⟩,by omega,by omega,by rw[H],by rw[H]⟩
 |false=>
  simp+decide[int,zg,xa,j8,St.qO,zj,Lang.d,I64];have V:=Ef g f p i (x,true) (k+1) (by rw[H]) (ns-(k+1))
  rw[show k+1+(ns-(k+1))=ns by omega,H] at V
  have F:(List.range ns).flatMap (λ(k:Nat)=>xP g f (p.set i ⟨q.entry,q.alt,k⟩) (i+1))=qP g f p i ns:=by unfold qP;rw[eg]
  rw[F,V];exact⟨rfl,rfl,rfl⟩
theorem Eh(g:Lang)(H:LightF g)(G:LangC g):∀ f,Jc g f
 |0=>A3 g
 |f+1=>A4 g H G f (Eh g H G f)
end Go.V
namespace Go.V
open Go Go.Proofs
def wB(g:Lang)(x:x9)(a:List Prt)(_:List Int):x9×Bool:=xb yK (x,true) (xP g a.length a 0)
def v8(g:Lang)(x:x9):List (Nat×Obj'):=[(2,.box 36 (zj g.d)),(3,.box 272 [.fn 269 [.bp 4 0,.bp 5 0]]),(4,.box 241 [.ar 6]),(5,.box 4 [.d (.bool x.2)]),(6,.arr 39 1 (x.1.map λa=>[zg a]))]
theorem A5(g:Lang)(H:LightF g)(G:LangC g)(w:List Int)(tr:List (List Int))(x:x9)(F:allI x)(a:List Prt)(E:a.length<=4)(base:List Int):
  zJ Tryz.prog 272 [.d (zg a),.d (ints base),.bp 2 0,.bp 3 0] (zC g w tr (.fn 272 [.bp 2 0,.bp 3 0]) (v8 g x)) 7
   (.d (.bool (wB g x a base).2)) 7 (zC g w tr (.fn 272 [.bp 2 0,.bp 3 0]) (v8 g (wB g x a base).1)) [6]:=by
 have K:=Eh g H G a.length x a 0 F E (by omega)
 unfold wB
 generalize xb yK (x,true) (xP g a.length a 0)=z at K
 obtain⟨⟨o2,f2⟩,b2⟩:=z
 obtain⟨out,full⟩:=x
 refine xH mixed Tryz.func272 rfl c_272 (by simp[Sym.los,Sym.lo]) ?_
 simp+decide[Tryz.f272,zC,v8,zj,Lang.d,int,ints,u32,zg]
 refine zc.mut [4,5,6] [.d g.d,.d (zg a),.d (int 0),.fn 269 [.bp 0 0,.bp 1 0]] (xa (out,full)) (by rfl) (by simp[y8,ren,rho,Lang.d,int,ints,zg]) (by simp) ?_ K ?_
 .simp[Fits,vG,xa,St.look,zh,qI,y8,ren,rho,int,List.range,List.range.loop,zg]
 simp+decide[zC,v8,xa,zj,Lang.d,int,ints,u32,zg]
theorem A6(g:Lang)(x:x9):RestOk 7 (.fn 272 [.bp 2 0,.bp 3 0]) (v8 g x) where
 two:=by omega
 keys:=by simp[v8]
 ids i o h:=by
  simp only[v8,List.mem_cons,List.not_mem_nil,or_false] at h;rcases h with h | h | h | h | h <;> (cases h;simp[Obj'.lo,Sym.los,Sym.lo,zj,Lang.d])
 range:=rfl
 thawed k x h:=by
  have H:¬(2=k):=by omega
  have G:¬(3=k):=by omega
  have F:¬(4=k):=by omega
  have E:¬(5=k):=by omega
  have K:¬(6=k):=by omega
  simp[v8,qG,JV,jX,thaw,H,G,F,E,K,zj,Lang.d]
 thawC k x h:=by simp[thaw]
 fn:=by simp[Sym.lo,Sym.los]
theorem A7{g:Lang}{x:x9}{a:List Prt}{base:List Int}(h:allI x)(H:a.length<=4):allI (wB g x a base).1:=
 UJ _ _ h λq hq=>by rw[UK g _ _ _ q hq];exact H
def Jd(g:Lang)(hg:LightF g)(hc:LangC g)(w:List Int):Clo Tryz.prog g w x9 where
 F:=wB g
 rest:=v8 g
 fid:=272
 caps:=[.bp 2 0,.bp 3 0]
 n:=7
 mv:=[6]
 mvOk i h:=by rw[List.mem_singleton] at h;omega
 mvCaps:=by simp[qa,zP]
 Inv _ x:=allI x
 ok:=A6 g
 mono _ _ h:=h
 call k x tr a base hI hk ha hb:=⟨A5 g hg hc w tr x hI a ha base,A7 hI ha⟩
theorem A8(g:Lang)(V:LightF g)(X:LangC g)(w:List Int)(Y:w.length<=30) :
  zJ Tryz.prog 271 [.d g.d,.d (ints w),.fn 272 [.bp 0 0,.bp 1 0]] ([(0,.box 36 (zj g.d)),(1,.box 272 [.fn 269 [.bp 2 0,.bp 3 0]]),(2,.box 241 [.ar 4]),(3,.box 4 [.d (.bool (([],false):x9).2)]),(4,.arr 39 1 ((([],false):x9).1.map λa=>[zg a]))]) 5
   (.tup []) 5 ([(0,.box 36 (zj g.d)),(1,.box 272 [.fn 269 [.bp 2 0,.bp 3 0]]),(2,.box 241 [.ar 4]),(3,.box 4 [.d (.bool (sF (wB g) (([],false),true) ((yF g w).map λb=>(b,zL g.lex b))).1.2)]),(4,.arr 39 1 ((sF (wB g) (([],false),true) ((yF g w).map λb=>(b,zL g.lex b))).1.1.map λa=>[zg a]))]) [4]:=by
 refine xH mixed Tryz.func271 rfl c_271 (by simp[Sym.los,Sym.lo]) ?_
 by_cases Z:w.length=0
 .have F:(w.length:Int)=0:=by omega
  simp+decide[Tryz.f271,zj,Lang.d,int,ints,u32,Z,F,yF,sF,v8];done
 have F:¬(w.length:Int)=0:=by omega
 by_cases A:24<w.length
 .have E:(24:Int)<w.length:=by omega
  simp+decide[Tryz.f271,zj,Lang.d,int,ints,u32,Z,F,A,E,yF,sF,v8];done
 have E:¬(24:Int)<w.length:=by omega
 simp+decide[Tryz.f271,zj,Lang.d,int,ints,u32,Z,F,A,E,v8]
 have B:=(V.wA X).rules
 have M:=NF g.rules (by have:=B.2;omega) (λr C=>by have A:=(B.1 r C).dst;have I:=(B.1 r C).src;omega)
 refine zjk mixed 7 [] (by rfl) (by rfl) (by rfl) (by rfl) (by rfl) ?_
 simp+decide[zj,Lang.d,int,ints,u32]
 refine zq (by rfl) (by rfl) M (by simp[D.scalar]) ?_
 simp+decide[zj,Lang.d,int,ints,u32]
 refine⟨by rfl,?_⟩
 have N:=V.v6.ok.2.1
 have T:g.net.final.length<2^40:=V.v6.few2
 refine yg mixed (λk:Nat=>{n:=46,next:=8,slots:=[(6,.bp 7 0),(28,.d (ints g.net.final)),(29,.d (int g.net.final.length)),(30,.d (int k))],own:=((7,.box 327 (zj g.d++[.d (ints w),.d (.bool (kG g.rules)),.d (u32 (y6 (g.net.final.take k))),.mp 6,.fn 272 [.bp 0 0,.bp 1 0]]))::(6,.map 325 [])::[(0,.box 36 (zj g.d)),(1,.box 272 [.fn 269 [.bp 2 0,.bp 3 0]]),(2,.box 241 [.ar 4]),(3,.box 4 [.d (.bool (([],false):x9).2)]),(4,.arr 39 1 ((([],false):x9).1.map λa=>[zg a]))]),base:=5})
  (λk=>k<=g.net.final.length) (λk=>g.net.final.length-k) 0 (by simp) ?_ ?_
 .simp+decide[zj,Lang.d,int,ints,u32,y6,v8]
 intro k P
 by_cases H:k<g.net.final.length
 .have G:(k:Int)<g.net.final.length:=by omega
  have hsn:y6 (g.net.final.take (k+1))=xJ (y6 (g.net.final.take k)) g.net.final[k]:=by unfold y6;rw[y9 H,List.foldl_append];rfl
  have K:y6 (g.net.final.take k)<8:=Zn _ 0 (λx S=>N x (List.mem_of_mem_take S)) (by omega)
  have W:=N g.net.final[k] (List.getElem_mem H);obtain⟨c,ec⟩:∃ c,g.net.final[k]=c:=⟨_,rfl⟩;have e1:g.net.final[k]?=some c:=by rw[List.getElem?_eq_getElem H,ec]
  rw[ec] at hsn W;generalize y6 (g.net.final.take k)=mm at hsn K;have O:=K2 K W.1 (show c<3 by omega)
  refine zM mixed ?_
  simp+decide[zj,Lang.d,int,ints,u32,H,G,e1,ec,I64,v8];refine Zf mixed 9 [7] (by rfl) (by rfl) (by rfl) (by rfl) (by simp) ?_
  simp+decide[zj,Lang.d,int,ints,u32,H,G,e1,ec,I64];exact⟨W.1,⟨by omega,by omega⟩,k+1,H,by omega,by omega,by rw[hsn];exact O⟩
 have:k=g.net.final.length:=by omega
 subst this
 rw[List.take_length]
 refine zM mixed ?_
 simp+decide[zj,Lang.d,int,ints,u32,v8]
 have J:=walk_nil ((E6 g V X w (by omega) (Jd g V X w) 4).call 0 (([],false):x9) [] [] 1 [] ⟨Nat.zero_le _,λb hb=>by cases hb⟩ (by decide) (λ_ h=>by cases h) rfl (by omega) (by simp) (λ_ h=>by cases h))
 have L:=TM V Z (by omega) (Jd g V X w) (([],false):x9)
 generalize zY g w (Jd g V X w) 4 ((([],false):x9),[]) [] 1 []=z at J L
 obtain⟨⟨zx,zt⟩,zb⟩:=z
 have Q:(sF (wB g) ((([],false):x9),true) ((yF g w).map λb=>(b,zL g.lex b))).1=zx:=by
  have:=congrArg Prod.fst L;exact this.symm
 refine zc.mut [7,6,0,1,2,3,4] [.bp 0 0,.nils,.d (u32 1),.nils] (zC g w [] (.fn 272 [.bp 2 0,.bp 3 0]) (v8 g (([],false):x9))) (by rfl) (by simp[y8,ren,rho,u32]) (by simp) ?_ J ?_
 .simp[Fits,vG,zC,v8,St.look,zh,qI,y8,ren,rho,zj,Lang.d,gK,int,ints,u32,List.range,List.range.loop]
 simp+decide[zC,zj,Lang.d,int,ints,u32,Q,Jd,v8]
def Qj(g:Lang)(w:List Int):x9:=(sF (wB g) (([],false),true) ((yF g w).map λb=>(b,zL g.lex b))).1
def vR(g:Lang)(w:List Int):List (List Prt)×Int:=if qB g.inv w≠0 then ([],qB g.inv w) else if (Qj g w).2=true then ([],11) else ((Qj g w).1,0)
theorem Aa(g:Lang)(G:LightF g)(F:LangC g)(w:List Int)(E:w.length<=30):zi Tryz.prog 239 [g.d,ints w] (.tup [zG (vR g w).1,int (vR g w).2]):=by
 have K:=A8 g G F w E
 have J:=TY g.inv w (by omega)
 unfold vR
 rw[show(sF (wB g) (([],false),true) ((yF g w).map λb=>(b,zL g.lex b))).1=Qj g w from rfl] at K
 generalize Qj g w=z at K
 obtain⟨out,full⟩:=z
 refine Fq Tryz.func239 rfl c_239 ?_
 by_cases H:qB g.inv w=0
 case neg=>
  refine zM mixed ?_
  simp+decide[Tryz.f239,zj,Lang.d,int,ints,H];refine zc.pure (by rfl) J (by simp[int,D.scalar]) ?_
  simp+decide[int,ints,H,zG]
 rw[H] at J
 refine wh mixed 5 {n:=24,next:=5,slots:=[(1,.d (ints w)),(2,.bp 0 0),(7,.bp 2 0),(8,.bp 3 0),(9,.bp 4 0)],own:=[(0,.box 36 (zj g.d)),(2,.box 241 [.nils]),(3,.box 4 [.d (.bool false)]),(4,.box 272 [.fn 269 [.bp 2 0,.bp 3 0]])]} rfl ?_ ?_
 .simp+decide[Tryz.f239,yq,xW,zj,Lang.d,int,ints]
  refine zc.pure (by rfl) J (by simp[int,D.scalar]) ?_
  simp+decide[int,ints,H,zG,yq,xW]
 simp only[yO]
 refine TN 2 0 39 1 (T:=241) (l:=[.nils]) rfl rfl ?_
 refine zM mixed ?_
 simp+decide[Tryz.f239,zj,Lang.d,int,ints,St.new,St.set,y7]
 refine zc.mut [0,4,2,3,5] [.d g.d,.d (ints w),.fn 272 [.bp 0 0,.bp 1 0]] ([(0,.box 36 (zj g.d)),(1,.box 272 [.fn 269 [.bp 2 0,.bp 3 0]]),(2,.box 241 [.ar 4]),(3,.box 4 [.d (.bool (([],false):x9).2)]),(4,.arr 39 1 ((([],false):x9).1.map λa=>[zg a]))]) (by rfl) (by simp[y8,ren,rho,Lang.d,int,ints]) (by simp) ?_ K ?_
 .simp[Fits,vG,St.look,zh,qI,y8,ren,rho,int,List.range,List.range.loop,zj,Lang.d,ints]
 cases full with
 |true=>
  simp+decide[int,ints,zG,H]
 |false=>
  simp+decide[int,ints,zG,H]
end Go.V
namespace Go.V
open Go Go.Proofs
def allT(g:Lang)(w:List Int):List (List Prt):=(yF g w).flatMap λa=>xP g a.length a 0
theorem Ei(g:Lang):∀ (l:List (List Prt)) (f:List Prt->List Int) (z:x9×Bool),sF (wB g) z (l.map λb=>(b,f b))=xb yK z (l.flatMap λa=>xP g a.length a 0)
 | [],f,z=>rfl
 |a::l,f,z=>by
  rw[List.map_cons,J7,List.flatMap_cons,Jb];by_cases h:z.2=false
  .rw[if_pos h,Qi h,Qi h]
  .rw[if_neg h,Ei g l f]
   have H:z.2=true:=by simpa using h
   unfold wB;obtain⟨x,b⟩:=z;simp only at H
   subst H;rfl
theorem Ej:∀ (l:List (List Prt)) (out:List (List Prt)) (b:Bool),out.length+l.length<=200->xb yK ((out,b),true) l=((l.foldl (λo a=>insL (λx=>zN a x) a o) out,b),true)
 | [],_,_,_=>rfl
 |a::l,out,b,h=>by
  rw[List.length_cons] at h;have e:yK (out,b) a=((insL (λx=>zN a x) a out,b),true):=by
   unfold yK;rw[if_neg (by show ¬out.length=200;omega)]
  rw[Yy,if_neg (by simp),List.foldl_cons,e]
  exact Ej l _ b (by rw[Qh];omega)
theorem Ek:∀ (l:List (List Prt)) (out:List (List Prt)) (b:Bool),out.length<=200->200<out.length+l.length->(xb yK ((out,b),true) l).1.2=true
 | [],out,b,h,h'=>by rw[List.length_nil] at h';omega
 |a::l,out,b,h,h'=>by
  rw[List.length_cons] at h';rw[Yy,if_neg (by simp)]
  by_cases e:out.length=200
  .have e1:yK (out,b) a=((out,true),false):=by unfold yK;rw[if_pos e]
   rw[e1,Qi rfl]
  .have e1:yK (out,b) a=((insL (λx=>zN a x) a out,b),true):=by unfold yK;rw[if_neg e]
   rw[e1];exact Ek l _ b (by rw[Qh];omega) (by rw[Qh];omega)
def vx(l:List (List Prt)):List (List Prt):=l.foldl (λo a=>insL (λx=>zN a x) a o) []
theorem El(g:Lang)(w:List Int):vR g w=if qB g.inv w≠0 then ([],qB g.inv w) else if 200<(allT g w).length then ([],11) else (vx (allT g w),0):=by
 unfold vR Qj
 rw[Ei,show(yF g w).flatMap (λa=>xP g a.length a 0)=allT g w from rfl]
 by_cases H:qB g.inv w≠0
 .rw[if_pos H,if_pos H]
 rw[if_neg H,if_neg H]
 by_cases h:200<(allT g w).length
 .rw[if_pos h,if_pos (Ek _ _ _ (by simp) (by simpa using h))]
 .rw[if_neg h,Ej _ _ _ (by simp;omega),if_neg (by simp)]
  rfl
theorem Je{a b:Prt}:xB a b=true↔a.entry<b.entry\/(a.entry=b.entry/\(a.alt<b.alt\/(a.alt=b.alt/\a.sense<b.sense))):=by
 unfold xB
 by_cases H:a.entry=b.entry
 .rw[if_pos H]
  by_cases G:a.alt=b.alt
  .rw[if_pos G,decide_eq_true_eq];omega
  .rw[if_neg G,decide_eq_true_eq];omega
 .rw[if_neg H,decide_eq_true_eq];omega
theorem Prt.ext'{a b:Prt}(H:a.entry=b.entry)(G:a.alt=b.alt)(F:a.sense=b.sense):a=b:=by
 cases a;cases b;simp only at H G F;rw[H,G,F]
theorem Ab(a:Prt):xB a a=false:=by
 cases h:xB a a with
 |false=>rfl
 |true=>rw[Je] at h;omega
theorem Ac{a b c:Prt}(H:xB a b=true)(G:xB b c=true):xB a c=true:=by
 rw[Je] at H G ⊢;omega
theorem Ad{a b:Prt}(h:a≠b):xB a b=true\/xB b a=true:=by
 rw[Je,Je]
 have:¬(a.entry=b.entry/\a.alt=b.alt/\a.sense=b.sense):=λ⟨H,G,F⟩=>h (Prt.ext' H G F)
 omega
theorem Jf{a b:Prt}{l m:List Prt}:zN (a::l) (b::m)=if a=b then zN l m else xB a b:=rfl
theorem Em:∀ l:List Prt,zN l l=false
 | []=>rfl
 |a::l=>by rw[Jf,if_pos rfl];exact Em l
theorem UL:∀ {a b c:List Prt},zN a b=true->zN b c=true->zN a c=true
 | [],[],_,h,_=>by simp[zN] at h
 | [],_::_,[],_,h=>by simp[zN] at h
 | [],_::_,_::_,_,_=>rfl
 |_::_,[],_,h,_=>by simp[zN] at h
 |_::_,_::_,[],_,h=>by simp[zN] at h
 |a::l,b::m,c::n,H,G=>by
  rw[Jf] at H G ⊢;by_cases e1:a=b
  .subst e1
   rw[if_pos rfl] at H;by_cases e2:a=c
   .subst e2
    rw[if_pos rfl] at G ⊢;exact UL H G
   .rw[if_neg e2] at G ⊢;exact G
  .rw[if_neg e1] at H
   by_cases e2:b=c
   .subst e2
    rw[if_neg e1];exact H
   .rw[if_neg e2] at G
    have F:=Ac H G;by_cases e3:a=c
    .subst e3;rw[Ab] at F;cases F
    .rw[if_neg e3];exact F
theorem En:∀ {a b:List Prt},a≠b->zN a b=true\/zN b a=true
 | [],[],h=>absurd rfl h
 | [],_::_,_=>.inl rfl
 |_::_,[],_=>.inr rfl
 |a::l,b::m,h=>by
  rw[Jf,Jf];by_cases e:a=b
  .subst e
   rw[if_pos rfl,if_pos rfl];exact En λe=>h (by rw[e])
  .rw[if_neg e,if_neg (λe'=>e e'.symm)]
   exact Ad e
section
variable {α:Type}
theorem Eo{lt:α->Bool}{l:List α}:∀ n,n<=l.length->(∀ i,xC lt l n<=i->i<n->∀ h:i<l.length,lt l[i]=true)/\(∀ h:0<xC lt l n,∃ H:xC lt l n-1<l.length,lt l[xC lt l n-1]=false)
 |0,_=>⟨λi _ h=>absurd h (by omega),λh=>absurd h (by simp[xC])⟩
 |n+1,hn=>by
  have ih:=Eo (lt:=lt) (l:=l) n (by omega)
  have e1:l[n]?=some l[n]:=List.getElem?_eq_getElem (by omega)
  by_cases c:lt l[n]=true
  .have e2:xC lt l (n+1)=xC lt l n:=by rw[xC,e1];simp only;rw[if_pos c]
   rw[e2];refine⟨λi G F h=>?_,ih.2⟩
   by_cases e:i=n
   .subst e;exact c
   .exact ih.1 i G (by omega) h
  .have e2:xC lt l (n+1)=n+1:=by rw[xC,e1];simp only;rw[if_neg c]
   rw[e2];refine⟨λi G F h=>by omega,λ_=>⟨by omega,?_⟩⟩
   show lt l[n+1-1]=false
   simpa using c
theorem Ae{lt:α->α->Bool}(tr:∀ {a b c},lt a b=true->lt b c=true->lt a c=true)(tot:∀ {a b},a≠b->lt a b=true\/lt b a=true){x:α}{l:List α}
  (hs:l.Pairwise λa b=>lt a b=true) (L:x∉l):(insL (λo=>lt x o) x l).Pairwise λa b=>lt a b=true:=by
 have H:=Eo (lt:=λo=>lt x o) (l:=l) l.length (Nat.le_refl _)
 have E:=UI (λo=>lt x o) l l.length
 unfold insL
 generalize xC (λo=>lt x o) l l.length=p at H E
 have G:∀ b∈l.drop p,lt x b=true:=by
  intro b M;obtain⟨i,hi,e⟩:=List.mem_iff_getElem.1 M;rw[List.length_drop] at hi;rw[List.getElem_drop] at e;have:=H.1 (p+i) (by omega) (by omega) (by omega)
  rw[<-e];exact this
 have F:∀ a∈l.take p,lt a x=true:=by
  intro a O;obtain⟨i,hi,e⟩:=List.mem_take_iff_getElem.1 O;have Q:0<p:=by omega
  obtain⟨T,V⟩:=H.2 Q;have K:l[p-1]≠x:=λe=>L (e▸List.getElem_mem T)
  have X:lt l[p-1] x=true:=by
   rcases tot K with h | h
   .exact h
   .rw[h] at V;cases V
  rw[<-e];by_cases J:i=p-1
  .subst J;exact X
  .exact tr (List.pairwise_iff_getElem.1 hs i (p-1) (by omega) T (by omega)) X
 rw[List.pairwise_append]
 refine⟨hs.sublist (List.take_sublist _ _),List.pairwise_cons.2 ⟨G,hs.sublist (List.drop_sublist _ _)⟩,λa O b M=>?_⟩
 rcases List.mem_cons.1 M with e | e
 .rw[e];exact F a O
 .exact tr (F a O) (G b e)
end
theorem Ep{a:List Prt}:∀ (l out:List (List Prt)),a∈l.foldl (λo a=>insL (λx=>zN a x) a o) out↔a∈l\/a∈out
 | [],out=>by simp
 |b::l,out=>by
  rw[List.foldl_cons,Ep l,gW,List.mem_cons];constructor
  .rintro(h | h | h)
   .exact .inl (.inr h)
   .exact .inl (.inl h)
   .exact .inr h
  .rintro((h | h) | h)
   .exact .inr (.inl h)
   .exact .inl h
   .exact .inr (.inr h)
theorem Yz{a:List Prt}{l:List (List Prt)}:a∈vx l↔a∈l:=by unfold vx;rw[Ep];simp
theorem Er:∀ (l out:List (List Prt)),(out.Pairwise λa b=>zN a b=true)->l.Nodup->(∀ a∈l,a∉out)->(l.foldl (λo a=>insL (λx=>zN a x) a o) out).Pairwise λa b=>zN a b=true
 | [],out,h,_,_=>h
 |b::l,out,h,H,G=>by
  rw[List.nodup_cons] at H;rw[List.foldl_cons];refine Er l _ (Ae (lt:=zN) UL En h (G b (List.mem_cons_self ..))) H.2 λa F E=>?_
  rcases gW.1 E with e | e
  .subst e;exact H.1 F
  .exact G a (List.mem_cons_of_mem _ F) e
theorem UM{l:List (List Prt)}(h:l.Nodup):(vx l).Pairwise λa b=>zN a b=true:=Er l [] List.Pairwise.nil h λ_ _ h=>by cases h
theorem Es:∀ (l out:List (List Prt)),(l.foldl (λo a=>insL (λx=>zN a x) a o) out).length=out.length+l.length
 | [],out=>rfl
 |b::l,out=>by rw[List.foldl_cons,Es l,Qh,List.length_cons];omega
theorem Et(l:List (List Prt)):(vx l).length=l.length:=by unfold vx;rw[Es];simp
def j9(g:Lang):List Prt->List (List Prt)
 | []=>[[]]
 |p::ps=>(List.range (yW g.lex p.entry).length).flatMap λ(k:Nat)=>(j9 g ps).map λt=>(⟨p.entry,p.alt,k⟩:Prt)::t
theorem Eu(g:Lang):∀ (f:Nat) (p:List Prt) (i:Nat),i+f=p.length->xP g f p i=(j9 g (p.drop i)).map λt=>p.take i++t
 |0,p,i,h=>by
  rw[xP,List.drop_eq_nil_of_le (by omega),List.take_of_length_le (by omega)]
  simp[j9]
 |f+1,p,i,h=>by
  have hi:i<p.length:=by omega
  have eg:p.getD i ⟨0,0,0⟩=p[i]:=by rw[List.getD_eq_getElem?_getD,List.getElem?_eq_getElem hi];rfl
  rw[xP,eg,List.drop_eq_getElem_cons hi,j9,List.map_flatMap];refine Qc λk _=>?_
  rw[Eu g f _ (i+1) (by rw[List.length_set];omega),List.map_map]
  have e1:(p.set i ⟨p[i].entry,p[i].alt,(k:Int)⟩).drop (i+1)=p.drop (i+1):=by rw[List.drop_set];rw[if_pos (by omega)]
  have e2:(p.set i ⟨p[i].entry,p[i].alt,(k:Int)⟩).take (i+1)=p.take i++[⟨p[i].entry,p[i].alt,(k:Int)⟩]:=by
   rw[List.take_succ_eq_append_getElem (by rw[List.length_set];exact hi),List.getElem_set_self,List.take_set_of_le (by omega)]
  rw[e1,e2];congr 1
  funext t
  simp
theorem Af(g:Lang)(a:List Prt):xP g a.length a 0=j9 g a:=by
 rw[Eu g a.length a 0 (by omega)]
 simp
def Choice(g:Lang):List Prt->List Prt->Prop
 | [],[]=>True
 |p::ps,q::qs=>(q.entry=p.entry/\q.alt=p.alt/\0<=q.sense/\q.sense<(yW g.lex p.entry).length)/\Choice g ps qs
 |_,_=>False
theorem YA(g:Lang):∀ {a q:List Prt},q∈j9 g a↔Choice g a q
 | [],q=>by
  rw[j9,List.mem_singleton];cases q with
  |nil=>simp[Choice]
  |cons _ _=>simp[Choice]
 |p::ps,q=>by
  rw[j9,List.mem_flatMap];constructor
  .rintro⟨k,H,h⟩
   obtain⟨t,G,rfl⟩:=List.mem_map.1 h;have:=List.mem_range.1 H
   exact⟨⟨rfl,rfl,by show(0:Int)<=(k:Int);omega,by show(k:Int)<_;omega⟩,(YA g).1 G⟩
  .intro h
   cases q with
   |nil=>simp[Choice] at h
   |cons x t=>
    obtain⟨⟨F,E,K,J⟩,L⟩:=h;refine⟨x.sense.toNat,List.mem_range.2 (by omega),List.mem_map.2 ⟨t,(YA g).2 L,?_⟩⟩
    congr 1
    exact Prt.ext' F.symm E.symm (by show((x.sense.toNat:Nat):Int)=x.sense;omega)
theorem Ev(g:Lang):∀ a:List Prt,(j9 g a).Nodup
 | []=>by rw[j9];simp
 |p::ps=>by
  have ih:=Ev g ps;rw[j9];unfold List.Nodup at ih ⊢;rw[List.pairwise_flatMap];refine⟨λk _=>?_,?_⟩
  .rw[List.pairwise_map]
   exact ih.imp λh e=>h (List.cons.inj e).2
  .refine List.Pairwise.imp ?_ List.pairwise_lt_range
   intro i j H x G y F e;obtain⟨t,_,rfl⟩:=List.mem_map.1 G;obtain⟨u,_,rfl⟩:=List.mem_map.1 F;have:=(List.cons.inj e).1
   have:=congrArg Prt.sense this
   simp only at this
   omega
def bare(a:List Prt):List Prt:=a.map λp=>⟨p.entry,p.alt,0⟩
theorem ZN{g:Lang}:∀ {a q:List Prt},Choice g a q->bare q=bare a
 | [],[],_=>rfl
 | [],_::_,h=>h.elim
 |_::_,[],h=>h.elim
 |p::ps,q::qs,h=>by
  obtain⟨⟨H,G,_⟩,F⟩:=h;have:=ZN F
  unfold bare at this ⊢;rw[List.map_cons,List.map_cons,this,H,G]
theorem Ah{a:List Prt}(h:∀ p∈a,p.sense=0):bare a=a:=by
 unfold bare
 conv=>rhs;rw[<-List.map_id a]
 refine List.map_congr_left λp H=>?_
 exact Prt.ext' rfl rfl (h p H).symm
end Go.V
namespace Go.V
open Go Go.Proofs
def kU(g:Lang)(p:Prt):Prop:=∃ e∈g.lex,p.entry=e.id/\p.sense=0/\∃ alt:Nat,alt<e.forms.length/\p.alt=alt
theorem kU.ok{g:Lang}(H:LightF g){p:Prt}(h:kU g p):∃ e∈g.lex,∃ alt:Nat,alt<e.forms.length/\p=⟨e.id,alt,0⟩:=by
 obtain⟨e,G,F,E,alt,K,J⟩:=h
 exact⟨e,G,alt,K,Prt.ext' F J E⟩
theorem Jg{g:Lang}{w:List Int}:∀ (f:Nat) (a b:List Prt),b∈xy g w f a->∃ t,b=a++t/\t≠[]/\t.length<=f/\(∀ p∈t,kU g p)/\kT g w b=true
 |0,a,b,h=>by simp[xy] at h
 |f+1,a,b,h=>by
  unfold xy at h;rw[List.mem_flatMap] at h;obtain⟨e,G,h⟩:=h;split at h
  .rw[List.mem_flatMap] at h
   obtain⟨alt,F,h⟩:=h;have F:=List.mem_range.1 F;have E:kU g ⟨e.id,(alt:Int),0⟩:=⟨e,G,rfl,rfl,alt,F,rfl⟩
   split at h
   .cases h
   .rcases List.mem_append.1 h with h | h
    .split at h
     .rename_i K
      rw[List.mem_singleton] at h;subst h;exact⟨[⟨e.id,(alt:Int),0⟩],rfl,by simp,by simp,(by intro p H;rw[List.mem_singleton] at H;rw[H];exact E),K⟩
     .cases h
    .obtain⟨t,rfl,J,L,M,O⟩:=Jg f _ b h
     exact⟨⟨e.id,(alt:Int),0⟩::t,by simp,by simp,by simp;omega,(λp Q=>(List.mem_cons.1 Q).elim (λe=>e▸E) (M p)),O⟩
  .cases h
theorem Ai{g:Lang}(G:LightF g):g.lex.Pairwise λe e'=>e.id<e'.id:=by
 rw[List.pairwise_iff_getElem]
 intro i j hi hj H
 have:=lex_lt G.lex.up (j-i-1) i (by omega)
 simpa[show i+(j-i-1)+1=j by omega] using this
theorem Jh{g:Lang}{w:List Int}{f:Nat}{a x:List Prt}{p:Prt}(h:x∈(if yY g w<(zL g.lex (a++[p])).length then [] else (if kT g w (a++[p])=true then [a++[p]] else [])++xy g w f (a++[p]))):∃ t,x=a++p::t:=by
 split at h
 .cases h
 .rcases List.mem_append.1 h with h | h
  .split at h
   .rw[List.mem_singleton] at h;exact⟨[],h⟩
   .cases h
  .obtain⟨t,e,_⟩:=Jg f _ x h
   exact⟨t,by rw[e];simp⟩
theorem Ew{g:Lang}(F:LightF g)(w:List Int):∀ (f:Nat) (a:List Prt),(xy g w f a).Nodup
 |0,_=>by simp[xy]
 |f+1,a=>by
  unfold xy List.Nodup;rw[List.pairwise_flatMap];refine⟨λe he=>?_,?_⟩
  .split
   .rw[List.pairwise_flatMap]
    refine⟨λalt ha=>?_,?_⟩
    .split
     .exact List.Pairwise.nil
     .rw[List.pairwise_append]
      refine⟨by split <;> simp,Ew F w f _,λx E y K e=>?_⟩
      subst e;obtain⟨t,e,J,_⟩:=Jg f _ x K;split at E
      .rw[List.mem_singleton] at E
       rw[E] at e;have:=congrArg List.length e
       simp only[List.length_append,List.length_cons,List.length_nil] at this;exact J (List.length_eq_zero_iff.1 (by omega))
      .cases E
    .refine List.Pairwise.imp ?_ List.pairwise_lt_range
     intro i j H x E y K e;obtain⟨t,rfl⟩:=Jh E;obtain⟨u,rfl⟩:=Jh K;have:=(List.cons.inj (List.append_cancel_left e)).1
     have:=congrArg Prt.alt this
     simp only at this
     omega
   .exact List.Pairwise.nil
  .refine List.Pairwise.imp ?_ (Ai F)
   intro e e' G x E y K heq;split at E
   .split at K
    .rw[List.mem_flatMap] at E K
     obtain⟨_,_,E⟩:=E;obtain⟨_,_,K⟩:=K;obtain⟨t,rfl⟩:=Jh E;obtain⟨u,rfl⟩:=Jh K;have:=(List.cons.inj (List.append_cancel_left heq)).1
     have:=congrArg Prt.entry this
     simp only at this
     omega
    .cases K
   .cases E
structure PlainF(g:Lang)(w:List Int)(b:List Prt):Prop where
 pos:b≠[]
 len:b.length<=4
 parts:∀ p∈b,kU g p
 lic:vq g w b=true
theorem jy{g:Lang}{w:List Int}{b:List Prt}(h:b∈yF g w):PlainF g w b:=by
 unfold yF at h
 split at h
 .cases h
 .obtain⟨t,rfl,H,G,F,E⟩:=Jg 4 [] b h
  unfold kT at E;rw[Bool.and_eq_true] at E;exact⟨H,G,F,E.2⟩
theorem Ey{g:Lang}(H:LightF g)(w:List Int):(yF g w).Nodup:=by
 unfold yF
 split
 .simp
 .exact Ew H w 4 []
theorem PlainF.bare{g:Lang}{w:List Int}{b:List Prt}(h:PlainF g w b):bare b=b:=Ah λp H=>by obtain⟨_,_,_,G,_⟩:=h.parts p H;exact G
theorem UN(g:Lang)(w:List Int):allT g w=(yF g w).flatMap (j9 g):=by
 unfold allT
 refine Qc λa _=>?_
 rw[Af]
theorem Ji{g:Lang}{w:List Int}{q:List Prt}:q∈allT g w↔∃ a∈yF g w,Choice g a q:=by
 rw[UN,List.mem_flatMap]
 constructor
 .rintro⟨a,H,G⟩;exact⟨a,H,(YA g).1 G⟩
 .rintro⟨a,H,G⟩;exact⟨a,H,(YA g).2 G⟩
theorem EA{g:Lang}(G:LightF g)(w:List Int):(allT g w).Nodup:=by
 rw[UN]
 unfold List.Nodup
 rw[List.pairwise_flatMap]
 refine⟨λa _=>Ev g a,List.Pairwise.imp_of_mem ?_ (Ey G w)⟩
 intro a b F E H x K y J e
 subst e
 have L:=ZN ((YA g).1 K)
 have M:=ZN ((YA g).1 J)
 rw[(jy F).bare] at L
 rw[(jy E).bare] at M
 exact H (L.symm.trans M)
theorem UO{g:Lang}:∀ {a q:List Prt},Choice g a q->q.length=a.length
 | [],[],_=>rfl
 | [],_::_,h=>h.elim
 |_::_,[],h=>h.elim
 |p::ps,q::qs,h=>by rw[List.length_cons,List.length_cons,UO h.2]
theorem EB(l:List Ent)(a:List Prt):yi l (bare a)=yi l a:=by
 unfold yi bare
 rw[List.flatMap_map]
 rfl
theorem EC(l:List Ent)(a:List Prt):zL l (bare a)=zL l a:=by
 unfold zL bare
 rw[List.flatMap_map]
 rfl
theorem ED{g:Lang}{a q:List Prt}(h:Choice g a q):zL g.lex q=zL g.lex a:=by rw[<-EC,ZN h,EC]
theorem Aj{g:Lang}{a q:List Prt}(h:Choice g a q):yi g.lex q=yi g.lex a:=by rw[<-EB,ZN h,EB]
theorem EE{g:Lang}(G:LightF g):∀ {a q:List Prt},Choice g a q->(∀ p∈a,kU g p)->∀ p∈q,xM g.lex p=0
 | [],[],_,_,p,hp=>by cases hp
 | [],_::_,h,_,_,_=>h.elim
 |_::_,[],h,_,_,_=>h.elim
 |p::ps,q::qs,h,F,x,E=>by
  rcases List.mem_cons.1 E with e | E
  .subst e
   obtain⟨⟨K,J,L,M⟩,_⟩:=h;obtain⟨e,O,alt,Q,rfl⟩:=(F p (List.mem_cons_self ..)).ok G;simp only at K J M
   have T:=Qd G O Q;have H:xK g.lex x=(e,e.forms[alt]?.getD [],true):=by
    obtain⟨x1,x2,x3⟩:=x;simp only at K J
    subst K;subst J;exact T
   unfold xM;rw[H,K,J1 G.lex.up O];simp only[Bool.true_eq_false,if_false];rw[if_neg (by omega)]
  .exact EE G h.2 (λy V=>F y (List.mem_cons_of_mem _ V)) x E
theorem Ak{g:Lang}(H:LightF g){a:List Prt}(h:∀ p∈a,kU g p):∀ p∈a,xM g.lex p=0:=by
 intro p G
 obtain⟨e,F,alt,E,rfl⟩:=(h p G).ok H
 exact Ux H F E
theorem Al{g:Lang}(H:LightF g){a q:List Prt}(h:Choice g a q)(G:∀ p∈a,kU g p):xr g q=xr g a:=by
 have F:=J2 (EE H h G)
 have E:=J2 (Ak H G)
 unfold xr xX
 rw[UO h,ED h,Aj h,F,E]
theorem Am{g:Lang}(H:LightF g){w:List Int}{q:List Prt}(h:q∈allT g w):(xr g q).2=0/\(xr g q).1=w/\q.length<=4:=by
 obtain⟨a,G,F⟩:=Ji.1 h
 have E:=jy G
 rw[Al H F E.parts,UO F]
 have:=E.lic
 unfold vq at this
 rw[decide_eq_true_eq] at this
 exact⟨this.1,this.2,E.len⟩
theorem EF{g:Lang}(H:LightF g):∀ {a:List Prt},(∀ p∈a,kU g p)->Choice g a a
 | [],_=>trivial
 |p::ps,h=>by
  refine⟨?_,EF H λx G=>h x (List.mem_cons_of_mem _ G)⟩
  obtain⟨e,F,alt,E,rfl⟩:=(h p (List.mem_cons_self ..)).ok H;have hs:0<(yW g.lex e.id).length:=List.length_pos_iff.2 (H.senses F)
  exact⟨rfl,rfl,Int.le_refl _,by show(0:Int)<((yW g.lex e.id).length:Int);omega⟩
theorem UP{g:Lang}(H:LightF g):∀ {a:List Prt},(∀ p∈a,kU g p)->ye (zL g.lex a)
 | [],_=>λx G=>by cases G
 |p::ps,h=>by
  have ih:=UP H λx G=>h x (List.mem_cons_of_mem _ G)
  obtain⟨e,F,alt,E,rfl⟩:=(h p (List.mem_cons_self ..)).ok H;have:zL g.lex (⟨e.id,(alt:Int),0⟩::ps)=e.forms[alt]?.getD []++zL g.lex ps:=by
   unfold zL;rw[List.flatMap_cons,Qd H F E];rfl
  rw[this];refine ye.app ?_ ih
  rw[List.getElem?_eq_getElem E];exact BX H F (List.getElem_mem E)
structure BasJ(x:J8):Prop where
 seen:∀ k∈x.1,∃ b∈x.2,keyS b=k
theorem UQ(f:List Prt->List Int):∀ (l:List (List Prt)) (x:J8),BasJ x->BasJ (sF ke (x,true) (l.map λb=>(b,f b))).1 /\
  (∀ b∈(sF ke (x,true) (l.map λb=>(b,f b))).1.2,b∈x.2\/∃ a∈l,f a=b)/\(∀ b∈x.2,b∈(sF ke (x,true) (l.map λb=>(b,f b))).1.2) /\
  ∀ a∈l,∃ b∈(sF ke (x,true) (l.map λb=>(b,f b))).1.2,keyS b=keyS (f a)
 | [],x,h=>⟨h,λb H=>.inl H,λb H=>H,λa G=>by cases G⟩
 |a::l,x,h=>by
  rw[List.map_cons,J7,if_neg (by simp)]
  have F:ke x a (f a)=((ke x a (f a)).1,true):=rfl
  rw[F];by_cases E:keyS (f a)∈x.1
  .have e:(ke x a (f a)).1=x:=by unfold ke;rw[if_pos E]
   rw[e];obtain⟨i1,i2,i3,i4⟩:=UQ f l x h;refine⟨i1,λb H=>(i2 b H).imp id λ⟨c,K,e⟩=>⟨c,List.mem_cons_of_mem _ K,e⟩,i3,λc K=>?_⟩
   rcases List.mem_cons.1 K with e2 | K
   .subst e2
    obtain⟨b,H,e3⟩:=h.seen _ E;exact⟨b,i3 b H,e3⟩
   .exact i4 c K
  .have e:(ke x a (f a)).1=(x.1++[keyS (f a)],insL (λo=>Vo (f a) o) (f a) x.2):=by unfold ke;rw[if_neg E]
   rw[e];obtain⟨i1,i2,i3,i4⟩:=UQ f l (x.1++[keyS (f a)],insL (λo=>Vo (f a) o) (f a) x.2) ⟨λk J=>by
    rcases List.mem_append.1 J with J | J
    .obtain⟨b,H,e⟩:=h.seen k J
     exact⟨b,gW.2 (.inr H),e⟩
    .rw[List.mem_singleton] at J
     exact⟨f a,gW.2 (.inl rfl),J.symm⟩⟩
   refine⟨i1,λb H=>?_,λb H=>i3 b (gW.2 (.inr H)),λc K=>?_⟩
   .rcases i2 b H with H | ⟨c,K,e⟩
    .rcases gW.1 H with e | H
     .exact .inr ⟨a,List.mem_cons_self ..,e.symm⟩
     .exact .inl H
    .exact .inr ⟨c,List.mem_cons_of_mem _ K,e⟩
   .rcases List.mem_cons.1 K with e2 | K
    .subst e2
     exact⟨f c,i3 _ (gW.2 (.inl rfl)),rfl⟩
    .exact i4 c K
theorem EG{g:Lang}(G:LightF g){w:List Int}{b:List Int}:b∈J9 g w↔∃ a∈yF g w,zL g.lex a=b:=by
 obtain⟨_,i2,_,i4⟩:=UQ (zL g.lex) (yF g w) ([],[]) ⟨λk F=>by cases F⟩
 unfold J9
 constructor
 .intro h
  rcases i2 b h with h | h
  .cases h
  .exact h
 .rintro⟨a,E,rfl⟩
  obtain⟨c,K,e⟩:=i4 a E;rcases i2 c K with h | ⟨a2,H,e2⟩
  .cases h
  .have:=key_inj (by rw[<-e2];exact UP G (jy H).parts) (UP G (jy E).parts) e
   rw[<-this];exact K
def qQ(n:Int):Prop:=(Lit.int .i64 n).wf=true
def EH(l:List Int):Prop:=l.length<=maxLen/\∀ n∈l,qQ n
theorem An{d:D}(h:yC d (.sl [.int .i64])):∃ l,d=ints l/\EH l:=by
 obtain⟨xs,rfl,H,G⟩:=yC.Yf (row:=λn:Int=>[D.int .i64 n]) (good:=qQ) (λr F=>by
  obtain⟨d,r,rfl,H,G⟩:=F.zW;obtain⟨n,rfl,E⟩:=H.xl;obtain rfl:=G.vJ;exact⟨n,rfl,E⟩) h
 exact⟨xs,rfl,H,G⟩
def Prt.ok(p:Prt):Prop:=qQ p.entry/\qQ p.alt/\qQ p.sense
abbrev EI:List Sh:=[.int .i64,.int .i64,.int .i64]
def EJ(l:List Prt):Prop:=l.length<=maxLen/\∀ x∈l,x.ok
theorem Ao{d:D}(h:yC d (.sl EI)):∃ l,d=zg l/\EJ l:=by
 obtain⟨xs,rfl,H,G⟩:=yC.Yf (row:=Prt.row) (good:=Prt.ok) (λr F=>by
  obtain⟨_,_,rfl,g1,r1⟩:=F.zW;obtain⟨_,_,rfl,g2,r2⟩:=r1.zW;obtain⟨_,_,rfl,g3,r3⟩:=r2.zW;obtain rfl:=r3.vJ;obtain⟨a,rfl,wa⟩:=g1.xl;obtain⟨b,rfl,wb⟩:=g2.xl;obtain⟨c,rfl,wc⟩:=g3.xl;exact⟨⟨a,b,c⟩,rfl,wa,wb,wc⟩) h
 exact⟨xs,rfl,H,G⟩
theorem wC{α:Type}{M:Nat}{row:α->List D}:∀ {l:List α},gg M (l.map row)->∀ x∈l,Caps M (row x)
 | [],_,x,H=>by cases H
 |a::l,h,x,H=>by
  simp only[List.map_cons,gg] at h;rcases List.mem_cons.1 H with e | e
  .rw[e];exact h.1
  .exact wC h.2 x e
theorem jR{α:Type}{row:α->List D}{shs:List Sh}{d:D}(h:∀ r,y4 r shs->∃ x,r=row x)(H:yC d (.sl shs)):∃ xs:List α,d = .sl (xs.map row):=by
 obtain⟨xs,e,_,_⟩:=yC.Yf (row:=row) (good:=λ_=>True) (λr G=>by obtain⟨x,e⟩:=h r G;exact⟨x,e,trivial⟩) H
 exact⟨xs,e⟩
theorem Ap{r:List D}(h:y4 r [.int .i64]):∃ n:Int,r=[int n]:=by
 obtain⟨_,_,rfl,g1,r1⟩:=h.zW
 obtain rfl:=r1.vJ
 obtain⟨a,rfl,_⟩:=g1.xl
 exact⟨a,rfl⟩
theorem YB{d:D}(h:yC d (.sl [.int .i64])):∃ l,d=ints l:=jR (row:=λn:Int=>[int n]) (λr H=>Ap H) h
theorem Aq{r:List D}(h:y4 r [.str,.int .i64]):∃ p:Phon,r=p.row:=by
 obtain⟨_,_,rfl,g1,r1⟩:=h.zW
 obtain⟨_,_,rfl,g2,r2⟩:=r1.zW
 obtain rfl:=r2.vJ
 obtain⟨a,rfl,_⟩:=g1.uY
 obtain⟨b,rfl,_⟩:=g2.xl
 exact⟨⟨a,b⟩,rfl⟩
theorem Ar{r:List D}(h:y4 r [.str,.sl [.int .i64]]):∃ p:Grap,r=p.row:=by
 obtain⟨_,_,rfl,g1,r1⟩:=h.zW
 obtain⟨_,_,rfl,g2,r2⟩:=r1.zW
 obtain rfl:=r2.vJ
 obtain⟨a,rfl,_⟩:=g1.uY
 obtain⟨b,rfl⟩:=YB g2
 exact⟨⟨a,b⟩,rfl⟩
theorem EK{r:List D}(h:y4 r [.str]):∃ s:ByteArray,r=[.str s]:=by
 obtain⟨_,_,rfl,g1,r1⟩:=h.zW
 obtain rfl:=r1.vJ
 obtain⟨a,rfl,_⟩:=g1.uY
 exact⟨a,rfl⟩
theorem As{r:List D}(h:y4 r [.sl [.str]]):∃ l:List ByteArray,r=[.sl (l.map λs=>[.str s])]:=by
 obtain⟨_,_,rfl,g1,r1⟩:=h.zW
 obtain rfl:=r1.vJ
 obtain⟨l,rfl⟩:=jR (row:=λs:ByteArray=>[D.str s]) (λr H=>EK H) g1
 exact⟨l,rfl⟩
theorem Jj{r:List D}(h:y4 r [.int .i64,.int .i64]):∃ a b:Int,r=[int a,int b]:=by
 obtain⟨_,_,rfl,g1,r1⟩:=h.zW
 obtain⟨_,_,rfl,g2,r2⟩:=r1.zW
 obtain rfl:=r2.vJ
 obtain⟨a,rfl,_⟩:=g1.xl
 obtain⟨b,rfl,_⟩:=g2.xl
 exact⟨a,b,rfl⟩
theorem EL{d:D}(h:yC d (.sl [.int .i64,.int .i64])):∃ l,d=yZ l:=jR (row:=Cls.row) (λr H=>by obtain⟨a,b,rfl⟩:=Jj H;exact⟨⟨a,b⟩,rfl⟩) h
theorem Au{r:List D}(h:y4 r [.sl [.int .i64],.sl [.int .i64],.sl [.int .i64,.int .i64],.sl [.int .i64,.int .i64],.bool,.bool]):∃ x:Rule,r=x.row:=by
 obtain⟨_,_,rfl,g1,r1⟩:=h.zW
 obtain⟨_,_,rfl,g2,r2⟩:=r1.zW
 obtain⟨_,_,rfl,g3,r3⟩:=r2.zW
 obtain⟨_,_,rfl,g4,r4⟩:=r3.zW
 obtain⟨_,_,rfl,g5,r5⟩:=r4.zW
 obtain⟨_,_,rfl,g6,r6⟩:=r5.zW
 obtain rfl:=r6.vJ
 obtain⟨a,rfl⟩:=YB g1
 obtain⟨b,rfl⟩:=YB g2
 obtain⟨c,rfl⟩:=EL g3
 obtain⟨d,rfl⟩:=EL g4
 obtain⟨e,rfl⟩:=g5.WU
 obtain⟨f,rfl⟩:=g6.WU
 exact⟨⟨a,b,c,d,e,f⟩,rfl⟩
theorem Av{r:List D}(h:y4 r [.int .i64,.int .i64,.int .i64]):∃ x:Stp,r=x.row:=by
 obtain⟨_,_,rfl,g1,r1⟩:=h.zW
 obtain⟨a,b,rfl⟩:=Jj r1
 obtain⟨c,rfl,_⟩:=g1.xl
 exact⟨⟨c,a,b⟩,rfl⟩
theorem Aw{r:List D}(h:y4 r [.str,.str]):∃ x:Sens,r=x.row:=by
 obtain⟨_,_,rfl,g1,r1⟩:=h.zW
 obtain⟨b,rfl⟩:=EK r1
 obtain⟨a,rfl,_⟩:=g1.uY
 exact⟨⟨a,b⟩,rfl⟩
theorem Ax{d:D}(h:yC d (.sl [.sl [.int .i64]])):∃ l,d=yc l:=jR (row:=λa:List Int=>[ints a]) (λr H=>by
 obtain⟨_,_,rfl,g1,r1⟩:=H.zW
 obtain rfl:=r1.vJ
 obtain⟨a,rfl⟩:=YB g1
 exact⟨a,rfl⟩) h
abbrev EM:List Sh:=[.int .i64,.sl [.int .i64],.int .i64,.sl [.sl [.int .i64]],.int .i64,.sl [.str,.str],.sl [.int .i64,.int .i64],.sl [.int .i64,.int .i64]]
theorem Ay{r:List D}(h:y4 r EM):∃ x:Ent,r=x.row:=by
 obtain⟨_,_,rfl,g1,r1⟩:=h.zW
 obtain⟨_,_,rfl,g2,r2⟩:=r1.zW
 obtain⟨_,_,rfl,g3,r3⟩:=r2.zW
 obtain⟨_,_,rfl,g4,r4⟩:=r3.zW
 obtain⟨_,_,rfl,g5,r5⟩:=r4.zW
 obtain⟨_,_,rfl,g6,r6⟩:=r5.zW
 obtain⟨_,_,rfl,g7,r7⟩:=r6.zW
 obtain⟨_,_,rfl,g8,r8⟩:=r7.zW
 obtain rfl:=r8.vJ
 obtain⟨a,rfl,_⟩:=g1.xl
 obtain⟨b,rfl⟩:=YB g2
 obtain⟨c,rfl,_⟩:=g3.xl
 obtain⟨d,rfl⟩:=Ax g4
 obtain⟨e,rfl,_⟩:=g5.xl
 obtain⟨f,rfl⟩:=jR (row:=Sens.row) (λr H=>Aw H) g6
 obtain⟨k,rfl⟩:=jR (row:=Lnk.row) (λr H=>by obtain⟨a,b,rfl⟩:=Jj H;exact⟨⟨a,b⟩,rfl⟩) g7
 obtain⟨m,rfl⟩:=jR (row:=Rf.row) (λr H=>by obtain⟨a,b,rfl⟩:=Jj H;exact⟨⟨a,b⟩,rfl⟩) g8
 exact⟨⟨a,b,c,d,e,f,k,m⟩,rfl⟩
abbrev EN:List Sh:=[.sl [.str,.int .i64],.str,.sl [.str,.sl [.int .i64]],.sl [.sl [.str]],.sl [.sl [.int .i64],.sl [.int .i64],.sl [.int .i64,.int .i64],.sl [.int .i64,.int .i64],.bool,.bool],.int .i64,.sl [.int .i64,.int .i64,.int .i64],.sl [.int .i64],.sl EM]
theorem Az{l:List D}(h:y4 l EN):∃ g:Lang,D.agg l=g.d:=by
 obtain⟨_,_,rfl,g1,r1⟩:=h.zW
 obtain⟨_,_,rfl,g2,r2⟩:=r1.zW
 obtain⟨_,_,rfl,g3,r3⟩:=r2.zW
 obtain⟨_,_,rfl,g4,r4⟩:=r3.zW
 obtain⟨_,_,rfl,g5,r5⟩:=r4.zW
 obtain⟨_,_,rfl,g6,r6⟩:=r5.zW
 obtain⟨_,_,rfl,g7,r7⟩:=r6.zW
 obtain⟨_,_,rfl,g8,r8⟩:=r7.zW
 obtain⟨_,_,rfl,g9,r9⟩:=r8.zW
 obtain rfl:=r9.vJ
 obtain⟨a,rfl⟩:=jR (row:=Phon.row) (λr H=>Aq H) g1
 obtain⟨b,rfl,_⟩:=g2.uY
 obtain⟨c,rfl⟩:=jR (row:=Grap.row) (λr H=>Ar H) g3
 obtain⟨d,rfl⟩:=jR (row:=λr:List ByteArray=>[D.sl (r.map λs=>[.str s])]) (λr H=>As H) g4
 obtain⟨e,rfl⟩:=jR (row:=Rule.row) (λr H=>Au H) g5
 obtain⟨f,rfl,_⟩:=g6.xl
 obtain⟨k,rfl⟩:=jR (row:=Stp.row) (λr H=>Av H) g7
 obtain⟨m,rfl⟩:=YB g8
 obtain⟨n,rfl⟩:=jR (row:=Ent.row) (λr H=>Ay H) g9
 exact⟨⟨a,⟨b,c,d⟩,e,⟨f,k,m⟩,n⟩,rfl⟩
theorem AA{g:Lang}(h:j5 1048576 g.d):LangC g:=by
 simp only[Lang.d,j5,Caps,Cap,zH,zI,jq,yr,stepsD,ints,zn,int,List.length_map,and_true] at h
 obtain⟨⟨a1,a2⟩,b1,⟨c1,c2⟩,⟨d1,d2⟩,⟨e1,e2⟩,_,⟨k1,_⟩,⟨m1,_⟩,n1,n2⟩:=h
 refine {inv:=⟨a1,λp hp=>?_⟩,orth:=⟨b1,λu hu=>?_,λL hL=>?_,c1,d1⟩,rules:=⟨e1,λr hr=>?_⟩,steps:=k1,final:=m1,lex:=⟨n1,λe he=>?_⟩}
 .have:=wC a2 p hp
  simp only[Phon.row,Caps,Cap,int] at this;exact this.1
 .have:=wC c2 u hu
  simp only[Grap.row,Caps,Cap,int,ints,List.length_map] at this;exact⟨this.1,this.2.1.1⟩
 .have:=wC d2 L hL
  simp only[Caps,Cap,List.length_map] at this;refine⟨this.1.1,λs hs=>?_⟩
  have:=wC this.1.2 s hs
  simp only[Caps,Cap] at this;exact this.1
 .have:=wC e2 r hr
  simp only[Rule.row,Caps,Cap,int,ints,List.length_map] at this;exact⟨this.1.1,this.2.1.1⟩
 .have:=wC n2 e he
  simp only[Ent.row,Caps,Cap,int,ints,yc,zT,yP,j4,List.length_map] at this;obtain⟨_,⟨f1,_⟩,_,⟨g1,g2⟩,_,⟨s1,s2⟩,⟨l1,_⟩,⟨r1,_⟩,_⟩:=this;refine⟨f1,⟨g1,λw hw=>?_⟩,⟨s1,λs hs=>?_⟩,l1,r1⟩
  .have:=wC g2 w hw
   simp only[Caps,Cap,List.length_map] at this;exact this.1.1
  .have:=wC s2 s hs
   simp only[Sens.row,Caps,Cap] at this;exact⟨this.1,this.2.1⟩
theorem UR{α β:Type}{f:α->List β}{n:Nat}:∀ {l:List α},(∀ x∈l,(f x).length<=n)->(l.flatMap f).length<=l.length*n
 | [],_=>by simp
 |a::l,h=>by
  have H:=h a (List.mem_cons_self ..);have G:=UR (l:=l) λx F=>h x (List.mem_cons_of_mem _ F)
  rw[List.flatMap_cons,List.length_append,List.length_cons,Nat.add_mul,Nat.one_mul];omega
def cntF:Nat->Nat
 |0=>0
 |f+1=>5*(2*(1+cntF f))
theorem US{g:Lang}(H:LightF g)(w:List Int):∀ (f:Nat) (a:List Prt),(xy g w f a).length<=cntF f
 |0,_=>by simp[xy,cntF]
 |f+1,a=>by
  unfold xy cntF;refine Nat.le_trans (UR (n:=2*(1+cntF f)) λe G=>?_) (Nat.mul_le_mul_right _ H.small.few)
  split
  .refine Nat.le_trans (UR (n:=1+cntF f) λalt _=>?_) (Nat.mul_le_mul_right _ ?_)
   .split
    .simp
    .rw[List.length_append]
     have:=US H w f (a++[⟨e.id,(alt:Int),0⟩])
     split <;> simp <;> omega
   .rw[List.length_range]
    have:=(H.small.forms e G).2.1
    simp[Ent.forms];omega
  .simp
theorem AB{g:Lang}(H:LightF g)(w:List Int):(yF g w).length<=11110:=by
 unfold yF
 split
 .simp
 .exact US H w 4 []
structure AllOk(g:Lang)(w:List Int)(L:List (List Prt)):Prop where
 few:L.length<=200
 form:∀ q∈L,(xr g q).2=0/\(xr g q).1=w/\q.length<=4
 up:L.Pairwise λa b=>zN a b=true
 base:∀ q∈L,zL g.lex q∈J9 g w
 all:∀ b∈J9 g w,∃ q∈L,zL g.lex q=b
theorem AC{g:Lang}(H:LightF g)(w:List Int):((vR g w).2≠0->(vR g w).1=[])/\((vR g w).2=0->AllOk g w (vR g w).1):=by
 rw[El]
 by_cases G:qB g.inv w≠0
 .rw[if_pos G]
  exact⟨λ_=>rfl,λh=>absurd h G⟩
 rw[if_neg G]
 by_cases h:200<(allT g w).length
 .rw[if_pos h]
  exact⟨λ_=>rfl,λh=>by cases h⟩
 rw[if_neg h]
 refine⟨λh=>absurd rfl h,λ_=>⟨?_,λq F=>Am H (Yz.1 F),UM (EA H w),λq F=>?_,λb hb=>?_⟩⟩
 .show(vx (allT g w)).length<=200
  rw[Et];omega
 .obtain⟨a,E,K⟩:=Ji.1 (Yz.1 F)
  rw[ED K];exact(EG H).2 ⟨a,E,rfl⟩
 .obtain⟨a,E,rfl⟩:=(EG H).1 hb
  exact⟨a,Yz.2 (Ji.2 ⟨a,E,EF H (jy E).parts⟩),rfl⟩
end Go.V
namespace Go.V
open Go
def YC(q:List Nat)(e:Edge):Edge:={e with on:=q.getD e.on 0}
def gX(q:List Nat)(o:Oper):Oper:={o with after:=(o.after.toList.map (YC q)).toArray}
def AE : Oper := ⟨none, .assign (.const (.bool true)), 0, "", #[], none⟩
def vy(p q:List Nat)(l:List Oper):List Oper:=p.map λi=>match l[i]? with
 |some o=>gX q o
 |none=>AE
def Jk(p q:List Nat)(l:List Oper):Bool:=
 Nat.beq p.length l.length&&(List.range l.length).all (λi=>Nat.blt (p.getD i l.length) l.length&&Nat.blt (q.getD i l.length) l.length&&Nat.beq (q.getD (p.getD i l.length) l.length) i&&Nat.beq (p.getD (q.getD i l.length) l.length) i) &&
  l.all λo=>o.guard.isNone&&o.after.toList.all λe=>Nat.blt e.on l.length
section
variable {P:Program} {p q:List Nat} {l:List Oper}
structure PermOk(p q:List Nat)(l:List Oper):Prop where
 len:p.length=l.length
 fwd:∀ i,i<l.length->p.getD i l.length<l.length/\q.getD (p.getD i l.length) l.length=i
 bwd:∀ i,i<l.length->q.getD i l.length<l.length/\p.getD (q.getD i l.length) l.length=i
 plain:∀ o∈l,o.guard=none/\∀ e∈o.after.toList,e.on<l.length
theorem AG(h:Jk p q l=true):PermOk p q l:=by
 unfold Jk at h
 simp only[Bool.and_eq_true,List.all_eq_true,List.mem_range,Nat.blt_eq] at h
 obtain⟨⟨H,G⟩,F⟩:=h
 refine⟨Nat.eq_of_beq_eq_true H,λi hi=>⟨(G i hi).1.1.1,Nat.eq_of_beq_eq_true (G i hi).1.2⟩,λi hi=>⟨(G i hi).1.1.2,Nat.eq_of_beq_eq_true (G i hi).2⟩,λo E=>?_⟩
 have:=F o E
 exact⟨by simpa using this.1,this.2⟩
theorem EO(h:PermOk p q l){i:Nat}{o:Oper}(hi:l[i]?=some o):(vy p q l)[q.getD i l.length]?=some (gX q o):=by
 have H:=(List.getElem?_eq_some_iff.1 hi).1
 obtain⟨G,F⟩:=h.bwd i H
 have E:p[q.getD i l.length]?=some i:=by
  have K:q.getD i l.length<p.length:=by rw[h.len];exact G
  rw[List.getElem?_eq_getElem K];rw[List.getD_eq_getElem?_getD,List.getElem?_eq_getElem K,Option.getD_some] at F;rw[F]
 unfold vy
 rw[List.getElem?_map,E,Option.map_some,hi]
theorem Jl(h:PermOk p q l):(vy p q l).length=l.length:=by unfold vy;rw[List.length_map,h.len]
theorem EP(h:PermOk p q l){i:Nat}(hi:i<l.length):q.getD i 0=q.getD i l.length:=by
 have H:=(h.bwd i hi).1
 rw[List.getD_eq_getElem?_getD] at H ⊢
 rw[List.getD_eq_getElem?_getD]
 cases G:q[i]? with
 |none=>rw[G] at H;simp at H
 |some x=>rfl
structure RelB(q:List Nat)(n:Nat)(Lb Lc:Array Bool):Prop where
 size:Lb.size=n
 size':Lc.size=n
 same:∀ i,i<n->Lc.getD (q.getD i n) false=Lb.getD i false
theorem ZO{Lb:Array Bool}{i:Nat}(h:i<Lb.size)(b c:Bool):Lb.getD i b=Lb.getD i c:=by simp[Array.getD,h]
theorem RelB.set(h:PermOk p q l){Lb Lc:Array Bool}(F:RelB q l.length Lb Lc){i:Nat}(hi:i<l.length):RelB q l.length (Lb.setIfInBounds i true) (Lc.setIfInBounds (q.getD i l.length) true):=by
 have E:=h.bwd i hi
 refine⟨by simpa using F.size,by simpa using F.size',λj hj=>?_⟩
 have H:=h.bwd j hj
 have hs:=F.same j hj
 have e1:q.getD j l.length<Lc.size:=by rw[F.size'];exact H.1
 have e2:j<Lb.size:=by rw[F.size];exact hj
 by_cases e:i=j
 .subst e
  rw[List.getD_eq_getElem?_getD] at e1;simp[Array.getD,e1,e2]
 .have G:q.getD i l.length≠q.getD j l.length:=by
   intro K;have:=E.2
   rw[K,H.2] at this;exact e this.symm
  have g1:(Lc.setIfInBounds (q.getD i l.length) true).getD (q.getD j l.length) false=Lc.getD (q.getD j l.length) false:=by
   simp only[Array.getD,Array.size_setIfInBounds,e1,dif_pos];exact Array.getElem_setIfInBounds_ne _ G
  have g2:(Lb.setIfInBounds i true).getD j false=Lb.getD j false:=by
   simp only[Array.getD,Array.size_setIfInBounds,e2,dif_pos];exact Array.getElem_setIfInBounds_ne _ e
  rw[g1,g2,hs]
theorem ja{l:List Oper}{Lb:Array Bool}(hs:Lb.size=l.length){i:Nat}:i∈Region.ready .any l.toArray Lb↔∃ o,l[i]?=some o/\Lb.getD i false=false/\∀ e∈o.after.toList,Region.binds .any e=true->Lb.getD e.on false=true:=by
 unfold Region.ready
 rw[List.mem_filter]
 constructor
 .rintro⟨F,E⟩
  have H:i<l.length:=by simpa using F
  rw[Bool.and_eq_true] at E;have K:l[i]?=some l[i]:=List.getElem?_eq_getElem H
  have G:l.toArray[i]?=some l[i]:=by simp
  rw[G] at E;simp only[Option.map_some,Option.getD_some,Bool.not_eq_true'] at E;refine⟨l[i],K,by rw[ZO (by omega) false true];exact E.1,λe J L=>?_⟩
  have:=E.2
  rw[Array.all_eq_true'] at this;have:=this e (by simpa using J)
  simpa[L] using this
 .rintro⟨o,K,F,E⟩
  have H:=(List.getElem?_eq_some_iff.1 K).1;have G:l.toArray[i]?=some o:=by simpa using K
  refine⟨by simpa using H,?_⟩
  rw[Bool.and_eq_true,G];simp only[Option.map_some,Option.getD_some,Bool.not_eq_true'];refine⟨by rw[ZO (by omega) true false];exact F,?_⟩
  rw[Array.all_eq_true'];intro e J;cases L:Region.binds .any e with
  |false=>rfl
  |true=>simpa using E e (by simpa using J) L
theorem AH(h:PermOk p q l){o:Oper}{i:Nat}(E:l[i]?=some o){Lb Lc:Array Bool}(K:RelB q l.length Lb Lc):(∀ e∈(gX q o).after.toList,Region.binds .any e=true->Lc.getD e.on false=true)↔∀ e∈o.after.toList,Region.binds .any e=true->Lb.getD e.on false=true:=by
 have G:=h.plain o (List.mem_of_getElem? E)
 have e1:(gX q o).after.toList=o.after.toList.map (YC q):=by simp[gX]
 rw[e1]
 constructor
 .intro J e L M
  have:=J (YC q e) (List.mem_map.2 ⟨e,L,rfl⟩) M
  have H:=G.2 e L;have e2:(YC q e).on=q.getD e.on l.length:=EP h H
  rw[e2,K.same _ H] at this;exact this
 .intro J e L M
  obtain⟨e0,F,rfl⟩:=List.mem_map.1 L;have H:=G.2 e0 F;have e2:(YC q e0).on=q.getD e0.on l.length:=EP h H
  rw[e2,K.same _ H];exact J e0 F M
theorem UT(h:PermOk p q l){Lb Lc:Array Bool}(H:RelB q l.length Lb Lc){i:Nat}(hi:i<l.length):q.getD i l.length∈Region.ready .any (vy p q l).toArray Lc↔i∈Region.ready .any l.toArray Lb:=by
 rw[ja H.size,ja (by rw[Jl h];exact H.size')]
 have G:l[i]?=some l[i]:=List.getElem?_eq_getElem hi
 rw[EO h G,G]
 simp only[Option.some.injEq,exists_eq_left']
 rw[AH h G H,H.same i hi]
theorem AI(h:PermOk p q l){i:Nat}(hi:i<l.length){K:Act->World->Prop}{Q:Exit->Act->World->Prop}{a:Act}{w:World}(E:wpOp P (vy p q l).toArray Q (q.getD i l.length) K a w):wpOp P l.toArray Q i K a w:=by
 have J:l[i]?=some l[i]:=List.getElem?_eq_getElem hi
 have L:=EO h J
 have M:=(h.plain l[i] (List.getElem_mem hi)).1
 have H:(vy p q l).toArray[q.getD i l.length]?=some (gX q l[i]):=by simpa using L
 have G:l.toArray[i]?=some l[i]:=by simp
 unfold wpOp at E ⊢
 rw[H] at E
 rw[G]
 have F:(gX q l[i]).guard=none:=M
 simp only[Region.wanted,M,F,if_true] at E ⊢
 exact E
theorem AK(h:PermOk p q l){Q:Exit->Act->World->Prop}:∀ (fuel:Nat) (Lb Lc:Array Bool) (a:Act) (w:World),RelB q l.length Lb Lc->wpAny P .any (vy p q l).toArray Q fuel Lc a w->wpAny P .any l.toArray Q fuel Lb a w:=by
 have H:∀ Lb Lc,RelB q l.length Lb Lc->Region.ready .any l.toArray Lb=[]->Region.ready .any (vy p q l).toArray Lc=[]:=by
  intro Lb Lc E K;cases J:Region.ready .any (vy p q l).toArray Lc with
  |nil=>rfl
  |cons k r=>
   have L:k∈Region.ready .any (vy p q l).toArray Lc:=by rw[J];exact List.mem_cons_self ..
   have G:k<l.length:=by
    obtain⟨o,M,_⟩:=(ja (by rw[Jl h];exact E.size')).1 L
    have:=(List.getElem?_eq_some_iff.1 M).1
    rw[Jl h] at this;exact this
   obtain⟨f1,f2⟩:=h.fwd k G;have:=(UT h E f1).1 (by rw[f2];exact L)
   rw[K] at this;cases this
 intro fuel
 induction fuel with
 |zero=>
  intro Lb Lc a w E O;refine⟨?_,O.2⟩
  cases J:Region.ready .any l.toArray Lb with
  |nil=>rfl
  |cons k r=>
   have L:k∈Region.ready .any l.toArray Lb:=by rw[J];exact List.mem_cons_self ..
   have G:k<l.length:=by
    obtain⟨o,M,_⟩:=(ja E.size).1 L;exact(List.getElem?_eq_some_iff.1 M).1
   have:=(UT h E G).2 L
   rw[O.1] at this;cases this
 |succ fuel ih=>
  intro Lb Lc a w E O;refine⟨λK=>O.1 (H Lb Lc E K),λi hi=>?_⟩
  have F:i<l.length:=by
   obtain⟨o,M,_⟩:=(ja E.size).1 hi;exact(List.getElem?_eq_some_iff.1 M).1
  have T:=O.2 (q.getD i l.length) ((UT h E F).2 hi);exact AI h F (wpOp_mono (λa w O=>ih _ _ a w (E.set h F) O) T)
variable {st:St}
end
end Go.V
namespace Go.V
open Go
section
variable {P:Program} {ops:Array Oper} {Q:Exit->Act->World->Prop}
theorem AL{j:Nat}{oi oj:Oper}{v:Value}(hj:ops[j]?=some oj)(F:oi.apart ops oj=true)
  (E:∀ cs b,oi.op≠.select cs b) (J:∀ cs b,oj.op≠.select cs b)
  (L:∀ c a w,¬Q (.panic c) a w) (H:¬LetsOut Q) {K:Act->World->Prop} {a:Act} {w:World}
  (M:Go.Yields P ops oi v a) (h:wpOp P ops Q j K a w) :
  wpOp P ops Q j (λb w'=>∃ a',b=a'.put oi.dst v/\Go.Yields P ops oi v a'/\K a' w') (a.put oi.dst v) w:=by
 obtain⟨O,T,V⟩:=Oper.apart_spec F
 have keep:∀ (a:Act),Go.Yields P ops oi v a->∀ u,Go.Yields P ops oi v (a.put oj.dst u):=λa M u=>
  M.of_same (execOp_put oi E a oj.dst u V) (wanted_put oi a oj.dst u V)
 have keepD:∀ d,Go.Yields P ops oi v {a with defers:=d::a.defers}:=λd=>M.of_same rfl rfl
 unfold wpOp at *
 simp only[hj] at *
 rw[wanted_put oj a oi.dst v O]
 split
 .rename_i hw
  simp only[hw,if_true] at h;rcases h with h | ⟨_,G⟩
  case inr=>exact absurd G H
  refine .inl ?_
  unfold Oper.wp at *;rw[execOp_put oj J a oi.dst v O];generalize (execOp a.eval oj).run P w=r at *;cases r with
  |ok n w'=>
   cases n <;> simp only[Oper.upon] at h ⊢
   case value u=>exact⟨a.put oj.dst u,Act.put_comm a v u T,keep a M u,h⟩
   case skip=>exact⟨a.put oj.dst undef,Act.put_comm a v undef T,keep a M _,h⟩
   case defer d=>
    refine⟨_,?_,keep _ (keepD d) _,h⟩
    rw[Act.put_defers];exact Act.put_comm _ v undef T
   case enter f args=>
    refine Calls.mono h λe w'' X=>?_
    cases e with
    |returned u=>exact⟨a.put oj.dst u,Act.put_comm a v u T,keep a M u,X⟩
    |panicked c=>exact absurd X (L _ _ _)
    |outgrown=>exact absurd X H
   case row row args=>exact Rows.mono h λu w'' X=>⟨a.put oj.dst u,Act.put_comm a v u T,keep a M u,X⟩
  |halt x w'=>
   cases x <;> simp only[Oper.upon] at h ⊢
   case panic u=>exact absurd h (L _ _ _)
 .rename_i hw
  simp only[hw] at h;exact⟨a.put oj.dst undef,Act.put_comm a v undef T,keep a M _,h⟩
end
def waitFor(x y:Nat)(l:List Oper):List Oper:=l.zipIdx.map λp=>if p.2=y then {p.1 with after:=p.1.after.push ⟨x,.data⟩} else p.1
structure WaitOk(P:Program)(x y:Nat)(l:List Oper):Prop where
 ne:x≠y
 xs:x<l.length
 ys:y<l.length
 free:∀ o,l[x]?=some o->o.after = #[]
 plain:∀ o∈l,o.guard=none/\(∀ cs b,o.op≠.select cs b)
 dep:∀ (j:Nat) o,l[j]?=some o->(∃ e∈o.after.toList,e.on=y)->∃ e∈o.after.toList,Region.binds .any e=true/\e.on=x
 apart:∀ (j:Nat) o oy,l[j]?=some o->l[y]?=some oy->j≠y->(∀ e∈o.after.toList,e.on≠y)->(∀ e∈oy.after.toList,Region.binds .any e=true->e.on≠j)->oy.apart l.toArray o=true
 valx:∀ ox,l[x]?=some ox->∀ (a:Act) (w:World),∃ u w1,(execOp a.eval ox).run P w = .ok (.value u) w1
 val:∀ oy,l[y]?=some oy->∀ a:Act,(∃ v,∀ w,(execOp a.eval oy).run P w = .ok (.value v) w)\/∀ w,∃ h w1,(execOp a.eval oy).run P w = .halt (.stuck h) w1
section
variable {P:Program} {x y:Nat} {l:List Oper}
theorem UU{j:Nat}{o:Oper}(hj:l[j]?=some o):(waitFor x y l)[j]?=some (if j=y then {o with after:=o.after.push ⟨x,.data⟩} else o):=by
 unfold waitFor
 rw[List.getElem?_map,List.getElem?_zipIdx,hj]
 simp
theorem Jm:(waitFor x y l).length=l.length:=by unfold waitFor;simp
theorem YD(h:WaitOk P x y l){Lb:Array Bool}(hs:Lb.size=l.length){j:Nat}:j∈Region.ready .any (waitFor x y l).toArray Lb↔j∈Region.ready .any l.toArray Lb/\(j=y->Lb.getD x false=true):=by
 rw[ja hs,ja (by rw[Jm];exact hs)]
 constructor
 .rintro⟨o',H,F,E⟩
  have G:j<l.length:=by
   have:=(List.getElem?_eq_some_iff.1 H).1
   rw[Jm] at this;exact this
  have K:l[j]?=some l[j]:=List.getElem?_eq_getElem G
  rw[UU K] at H;cases H
  refine⟨⟨l[j],K,F,λe J hb=>?_⟩,λhjy=>?_⟩
  .refine E e ?_ hb
   split
   .simp[J]
   .exact J
  .rw[if_pos hjy] at E
   exact E ⟨x,.data⟩ (by simp) rfl
 .rintro⟨⟨o,K,F,E⟩,L⟩
  refine⟨_,UU K,F,λe J hb=>?_⟩
  split at J
  .rename_i hjy
   simp only[Array.toList_push,List.mem_append,List.mem_singleton] at J;rcases J with J | J
   .exact E e J hb
   .rw[J];exact L hjy
  .exact E e J hb
theorem Qk(h:WaitOk P x y l){j:Nat}{K:Act->World->Prop}{Q:Exit->Act->World->Prop}{a:Act}{w:World}(G:wpOp P (waitFor x y l).toArray Q j K a w):wpOp P l.toArray Q j K a w:=by
 cases F:l[j]? with
 |none=>
  have E:l.toArray[j]?=none:=by simpa using F
  have J:(waitFor x y l).toArray[j]?=none:=by
   have:l.length<=j:=List.getElem?_eq_none_iff.1 F
   simpa[Jm] using this
  unfold wpOp at G ⊢;rw[J] at G;rw[E];exact G
 |some o=>
  have E:l.toArray[j]?=some o:=by simpa using F
  have J:=UU (x:=x) (y:=y) F;have H:(waitFor x y l).toArray[j]?=some (if j=y then {o with after:=o.after.push ⟨x,.data⟩} else o):=by simpa using J
  have L:=(h.plain o (List.mem_of_getElem? F)).1;unfold wpOp at G ⊢;rw[H] at G;rw[E];by_cases e:j=y
  .rw[if_pos e] at G
   simp only[Region.wanted,L,if_true] at G ⊢;exact G
  .rw[if_neg e] at G
   simp only[Region.wanted,L,if_true] at G ⊢;exact G
theorem AN(h:WaitOk P x y l){Q:Exit->Act->World->Prop}(hQ:∀ c a w,¬Q (.panic c) a w)(J:¬LetsOut Q):∀ (fuel:Nat),
  (∀ (Lb:Array Bool) (a:Act) (w:World),Lb.size=l.length->left Lb<=fuel->wpAny P .any (waitFor x y l).toArray Q fuel Lb a w->wpAny P .any l.toArray Q fuel Lb a w) /\
  (∀ (Lb:Array Bool) (a:Act) (w:World) (oy:Oper) (v:Value),Lb.size=l.length->left (Lb.setIfInBounds y true)<=fuel->l[y]?=some oy->Lb.getD y false=false->Lb.getD x false=false ->
   (∀ e∈oy.after.toList,Region.binds .any e=true->Lb.getD e.on false=true)->Go.Yields P l.toArray oy v a->wpAny P .any (waitFor x y l).toArray Q (fuel+1) Lb a w->wpAny P .any l.toArray Q fuel (Lb.setIfInBounds y true) (a.put oy.dst v) w):=by
 have B1:=h.ys
 have N:=h.xs
 have F1:l[y]?=some l[y]:=List.getElem?_eq_getElem h.ys
 have E:l[x]?=some l[x]:=List.getElem?_eq_getElem h.xs
 intro fuel
 induction fuel with
 |zero=>
  refine⟨λLb a w hs hf hh=>⟨?_,hh.2⟩,λLb a w oy v hs hf O S K G V hh=>?_⟩
  .cases hc:Region.ready .any l.toArray Lb with
   |nil=>rfl
   |cons k r=>
    have hk:k∈Region.ready .any l.toArray Lb:=by rw[hc];exact List.mem_cons_self ..
    obtain⟨o,ho,h1,_⟩:=(ja hs).1 hk;have B3:=(List.getElem?_eq_some_iff.1 ho).1;have:=Wt (Lb:=Lb) (i:=k) (by omega) (by unfold lst;rw[ZO (by omega) true false,h1];decide)
    omega
  .have W:(Lb.setIfInBounds y true).getD x false=false:=by rw[getD_set_ne false (Ne.symm h.ne)];exact K
   have Gz:x<(Lb.setIfInBounds y true).size:=by simp[hs];exact h.xs
   have:=Wt (Lb:=Lb.setIfInBounds y true) (i:=x) Gz (by unfold lst;rw[ZO Gz true false,W];decide)
   omega
 |succ fuel ih=>
  obtain⟨ihA,ihB⟩:=ih;refine⟨λLb a w hs hf hh=>⟨λhe=>hh.1 ?_,λj hj=>?_⟩,λLb a w oy v hs hf O S K G V hh=>⟨λhe=>?_,λj hj=>?_⟩⟩
  .cases hc:Region.ready .any (waitFor x y l).toArray Lb with
   |nil=>rfl
   |cons k r=>
    have:=((YD h hs).1 (show k∈Region.ready .any (waitFor x y l).toArray Lb by rw[hc];exact List.mem_cons_self ..)).1
    rw[he] at this;cases this
  .obtain⟨o,ho,h1,h2⟩:=(ja hs).1 hj
   have F2:=(List.getElem?_eq_some_iff.1 ho).1;have X:=Xq (Lb:=Lb) (i:=j) (by omega) (by unfold lst;rw[ZO (by omega) true false,h1];decide)
   by_cases hc:j=y->Lb.getD x false=true
   .have:=hh.2 j ((YD h hs).2 ⟨hj,hc⟩)
    exact Qk h (wpOp_mono (λa w hh=>ihA _ a w (by simpa using hs) (by omega) hh) this)
   .have L:j=y:=Classical.byContradiction λe=>hc λe2=>absurd e2 e
    subst L;have K:Lb.getD x false=false:=by
     cases hb:Lb.getD x false with
     |false=>rfl
     |true=>exact absurd (λ_=>hb) hc
    have hg:=(h.plain o (List.mem_of_getElem? ho)).1;have Fd:=(h.plain l[x] (List.getElem_mem N)).1;have M:=h.free _ E;have H0:=h.apart x l[x] o E ho h.ne (by rw[M];intro e he;simp at he) (λe he hb hex=>by have:=h2 e he hb;rw[hex,K] at this;cases this)
    obtain⟨_,_,h3⟩:=Oper.apart_spec H0;have Y:l.toArray[x]?=some l[x]:=by simp
    have Fk:l.toArray[j]?=some o:=by simpa using ho
    have I:x∈Region.ready .any (waitFor x j l).toArray Lb:=by
     refine(YD h hs).2 ⟨(ja hs).2 ⟨l[x],E,K,λe he=>?_⟩,λe=>absurd e h.ne⟩
     rw[M] at he;simp at he
    have T:=Qk h (hh.2 x I);obtain⟨u,w1,hu⟩:=h.valx _ E a w;have H1:wpAny P .any (waitFor x j l).toArray Q fuel (Lb.setIfInBounds x true) (a.put l[x].dst u) w1:=by
     unfold wpOp at T;simp only[Y,Region.wanted,Fd,if_true] at T;rcases T with T | ⟨_,hl⟩
     .unfold Oper.wp at T
      rw[hu] at T;exact T
     .exact absurd hl J
    have Hc:=Xq (Lb:=Lb.setIfInBounds j true) (i:=x) (by simp[hs];exact N) (by unfold lst;rw[ZO (by simp[hs];exact N) true false,getD_set_ne false (Ne.symm h.ne),K];decide)
    obtain⟨v,hv⟩:∃ v,∀ w,(execOp a.eval o).run P w = .ok (.value v) w:=by
     cases fuel with
     |zero=>omega
     |succ f2=>
      have Hi:j∈Region.ready .any (waitFor x j l).toArray (Lb.setIfInBounds x true):=by
       refine(YD h (by simpa using hs)).2 ⟨(ja (by simpa using hs)).2 ⟨o,ho,by rw[getD_set_ne false h.ne];exact h1,λe he hb=>getD_set_true (h2 e he hb)⟩,λ_=>?_⟩
       have:x<Lb.size:=by omega
       simp[Array.getD,this]
      have H:=Qk h (H1.2 j Hi);unfold wpOp at H;simp only[Fk,Region.wanted,hg,if_true] at H;rcases H with H | ⟨_,hl⟩
      .unfold Oper.wp at H
       rw[execOp_put (ops:=l.toArray) o (h.plain o (List.mem_of_getElem? ho)).2 a l[x].dst u h3] at H;rcases h.val o ho a with hv | hv
       .exact hv
       .obtain⟨B4,ww,Fm⟩:=hv w1
        rw[Fm] at H;simp only[Oper.upon] at H
      .exact absurd hl J
    have V:Go.Yields P l.toArray o v a:=.inl ⟨by simp[Region.wanted,hg],hv⟩
    have Hs:l.toArray[j]?=some o:=by simpa using ho
    exact V.wpOp Hs (ihB Lb a w o v hs (by omega) ho h1 K h2 V hh)
  ·
   have I:x∈Region.ready .any l.toArray (Lb.setIfInBounds y true):=by
    refine(ja (by simpa using hs)).2 ⟨l[x],E,by rw[getD_set_ne false (Ne.symm h.ne)];exact K,λe he=>?_⟩
    rw[h.free _ E] at he;simp at he
   rw[he] at I;cases I
  .have Fn:(Lb.setIfInBounds y true).size=l.length:=by simpa using hs
   obtain⟨o,ho,h1,h2⟩:=(ja Fn).1 hj;have F2:=(List.getElem?_eq_some_iff.1 ho).1;have L:j≠y:=by
    intro e;subst e;have:(Lb.setIfInBounds j true).getD j false=true:=by
     have:j<Lb.size:=by omega
     simp[Array.getD,this]
    rw[this] at h1;cases h1
   have X:=Xq (Lb:=Lb.setIfInBounds y true) (i:=j) (by omega) (by unfold lst;rw[ZO (by omega) true false,h1];decide)
   have F:(Lb.setIfInBounds y true).setIfInBounds j true=(Lb.setIfInBounds j true).setIfInBounds y true:=Array.setIfInBounds_comm _ _ (Ne.symm L)
   have Z:∀ e∈o.after.toList,e.on≠y:=by
    intro e he hy;obtain⟨e2,Fr,Fs,H1⟩:=h.dep j o ho ⟨e,he,hy⟩;have:=h2 e2 Fr Fs
    rw[H1,getD_set_ne false (Ne.symm h.ne),K] at this;cases this
   have Eq:j∈Region.ready .any l.toArray Lb:=by
    refine(ja hs).2 ⟨o,ho,by rw[getD_set_ne false (Ne.symm L)] at h1;exact h1,λe he hb=>?_⟩
    have:=h2 e he hb
    rw[getD_set_ne false (Ne.symm (Z e he))] at this;exact this
   have D0:=h.apart j o oy ho O L Z (λe he hb D4=>by
    have h3:=G e he hb;rw[D4] at h3;rw[getD_set_ne false (Ne.symm L),h3] at h1;cases h1)
   have Hs:l.toArray[j]?=some o:=by simpa using ho
   have A:=λo (hm:o∈l)=>(h.plain o hm).2
   have B:=Qk h (hh.2 j ((YD h hs).2 ⟨Eq,λe=>absurd e L⟩))
   have hw:=AL (oi:=oy) (v:=v) Hs D0 (A oy (List.mem_of_getElem? O)) (A o (List.mem_of_getElem? ho)) hQ J V B;refine wpOp_mono ?_ hw
   rintro b w' ⟨a',rfl,C,hK⟩
   by_cases F0:j=x
   .subst F0
    -- then y at once
    have Hi:y∈Region.ready .any (waitFor j y l).toArray (Lb.setIfInBounds j true):=by
     refine(YD h (by simpa using hs)).2 ⟨(ja (by simpa using hs)).2 ⟨oy,O,by rw[getD_set_ne false L];exact S,λe he hb=>getD_set_true (G e he hb)⟩,λ_=>?_⟩
     have:j<Lb.size:=by omega
     simp[Array.getD,this]
    have H:=Qk h (hK.2 y Hi);have Gm:l.toArray[y]?=some oy:=by simpa using O
    have hg:=(h.plain oy (List.mem_of_getElem? O)).1;have Gn:wpAny P .any (waitFor j y l).toArray Q fuel ((Lb.setIfInBounds j true).setIfInBounds y true) (a'.put oy.dst v) w':=by
     unfold wpOp at H;simp only[Gm,Region.wanted,hg,if_true] at H;rcases C with⟨_,hv⟩ | ⟨hw,_⟩
     .rcases H with H | ⟨_,hl⟩
      .unfold Oper.wp at H
       rw[hv w'] at H;exact H
      .exact absurd hl J
     .simp[Region.wanted,hg] at hw
    rw[F];exact ihA _ _ _ (by simpa using hs) (by rw[<-F];omega) Gn
   .rw[F]
    refine ihB (Lb.setIfInBounds j true) a' w' oy v (by simpa using hs) (by rw[<-F];omega) O (by rw[getD_set_ne false L];exact S) (by rw[getD_set_ne false F0];exact K) (λe he hb=>getD_set_true (G e he hb)) C hK
variable {p q:List Nat} {st:St}
def ER(x y:Nat)(l:List Oper):Bool:=
 !(Nat.beq x y)&&Nat.blt x l.length&&Nat.blt y l.length&&(match l[x]? with | some o=>o.after.toList.isEmpty | none=>true) &&
  (l.all λo=>o.guard.isNone&&(match o.op with | .select _ _=>false | _=>true)) &&
  (l.all λo=>!(o.after.toList.any λe=>Nat.beq e.on y) || (o.after.toList.any λe=>Region.binds .any e&&Nat.beq e.on x)) &&
  ((List.range l.length).all λj=>match l[j]?,l[y]? with
   |some o,some oy=>Nat.beq j y ||(o.after.toList.any λe=>Nat.beq e.on y) ||(oy.after.toList.any λe=>Region.binds .any e&&Nat.beq e.on j) ||oy.apart l.toArray o
   |_,_=>true)
theorem AO(h:ER x y l=true)
  (valx:∀ ox,l[x]?=some ox->∀ (a:Act) (w:World),∃ u w1,(execOp a.eval ox).run P w = .ok (.value u) w1)
  (val:∀ oy,l[y]?=some oy->∀ a:Act,(∃ v,∀ w,(execOp a.eval oy).run P w = .ok (.value v) w)\/∀ w,∃ h w1,(execOp a.eval oy).run P w = .halt (.stuck h) w1):WaitOk P x y l:=by
 unfold ER at h
 simp only[Bool.and_eq_true,Bool.not_eq_true',Nat.blt_eq] at h
 obtain⟨⟨⟨⟨⟨⟨L,M⟩,O⟩,Q⟩,T⟩,V⟩,X⟩:=h
 refine⟨λe=>?_,M,O,λo Y=>?_,λo Y=>?_,λj o Y hex=>?_,λj o oy Y H G F E=>?_,valx,val⟩
 .subst e;rw[Nat.beq_refl] at L;cases L
 .rw[Y] at Q
  simp only[List.isEmpty_iff] at Q;simpa using Q
 .have:=(List.all_eq_true.1 T) o Y
  rw[Bool.and_eq_true] at this;refine⟨by simpa using this.1,λcs b e=>?_⟩
  rw[e] at this;exact absurd this.2 (by simp)
 .have:=(List.all_eq_true.1 V) o (List.mem_of_getElem? Y)
  rw[Bool.or_eq_true] at this;rcases this with Z | hy
  .obtain⟨e,A,K⟩:=hex
   rw[Bool.not_eq_true',List.any_eq_false] at Z;exact absurd (by rw[K];exact Nat.beq_refl y) (Z e A)
  .obtain⟨e,A,B⟩:=List.any_eq_true.1 hy
   rw[Bool.and_eq_true] at B;exact⟨e,A,B.1,Nat.eq_of_beq_eq_true B.2⟩
 .have J:=(List.getElem?_eq_some_iff.1 Y).1
  have:=(List.all_eq_true.1 X) j (List.mem_range.2 J)
  rw[Y,H] at this;simp only[Bool.or_eq_true] at this;rcases this with((hj | hj) | hj) | hj
  .exact absurd (Nat.eq_of_beq_eq_true hj) G
  .obtain⟨e,A,B⟩:=List.any_eq_true.1 hj
   exact absurd (Nat.eq_of_beq_eq_true B) (F e A)
  .obtain⟨e,A,B⟩:=List.any_eq_true.1 hj
   rw[Bool.and_eq_true] at B;exact absurd (Nat.eq_of_beq_eq_true B.2) (E e A B.1)
  .exact hj
theorem AP{id:Nat}(F:P.follows .mixedOrders=true)(Y:WaitOk P x y l)(Z:Jk p q (waitFor x y l)=true)(E:yV (vy p q (waitFor x y l))=true){Q:DE->St->Prop}(h:RegI P (vy p q (waitFor x y l)) (Q .normal) 0 st):Triple P (.region id l.toArray true) Q st:=by
 have A:=AG Z
 intro X w0 β a w B
 refine wp_region_any F ?_
 have J:Mods X w0 st β a {w with drawn:=w.drawn+1}:=by
  have C:Below w.heap.size w {w with drawn:=w.drawn+1}:=⟨⟨rfl,rfl,rfl,Nat.le_refl _,λ_ _=>rfl⟩,λ_=>Nat.le_succ _⟩
  have:=B.put C (dst:=none) (s:=.junk) (v:=undef) (by simp) (by simp[Sym.lo]) (by simp[Sm])
  simpa[St.put,Act.put] using this
 have L:l.toArray.size=l.length:=by simp
 rw[L]
 have M:∀ c a w,¬(λ(e:Exit) a' w'=>∃ de st' β',yw e de/\Q de st'/\Mods X w0 st' β' a' w') (.panic c) a w:=by
  rintro c a w ⟨de,st',β',I,_⟩
  cases de <;> exact I
 have O:¬LetsOut (λ(e:Exit) a' w'=>∃ de st' β',yw e de/\Q de st'/\Mods X w0 st' β' a' w'):=by
  rintro⟨a,w,de,st',β',I,_⟩
  cases de <;> exact I
 have G:=Jl A
 have T:(waitFor x y l).length=l.length:=Jm
 refine(AN Y M O l.length).1 (Array.replicate l.length false) a _ (by simp) (by simp[left]) ?_
 rw[<-T]
 refine AK (P:=P) A (waitFor x y l).length _ (Array.replicate (waitFor x y l).length false) a _ ⟨by simp,by simp,λi hi=>?_⟩ ?_
 .have:=(A.bwd i hi).1
  simp[Array.getD,hi,this]
 have H:∀ j,j<(vy p q (waitFor x y l)).length->¬lst (Array.replicate (waitFor x y l).length false) j:=by
  intro j hj h;rw[G] at hj;unfold lst at h;simp[Array.getD,hj] at h
 refine MH (P:=P) (X:=X) (w0:=w0) E (K:=Q .normal) (λa w st' β N V=>⟨.normal,st',β,trivial,N,V⟩) h β a _ _ J ⟨by simp[G],?_⟩ (λj hj=>⟨λh=>absurd h (H j hj),λh=>by omega⟩) _ ?_
 .intro j y hj S
  exact absurd S (H j (List.getElem?_eq_some_iff.1 hj).1)
 .simp[left]
end
theorem AQ{P:Program}{t:Nat}{parts:Array (Nat×Operand)}{o:Oper}(G:o.op = .build t parts){it:TypeInfo}{fields:Array Field}{z:Value}{places:List (Nat×Nat)}
  (H:P.info? t=some it) (F:P.underlying t=some (.struct fields)) (E:it.zero=some z) (K:fields.toList.mapM (λf=>(P.info? f.type).map λi=>(f.offset,i.size))=some places) (a:Act) :
  (∃ v,∀ w,(execOp a.eval o).run P w = .ok (.value v) w)\/∀ w,∃ h w1,(execOp a.eval o).run P w = .halt (.stuck h) w1:=by
 cases J:Instr.fill (λx=>places.toArray[x]?) z.cells (parts.map λ(i,x)=>(i,a.eval x)).toList with
 |some cells=>
  left
  refine⟨.agg cells,λw=>?_⟩
  have L:P.built t (parts.map λ(i,x)=>(i,a.eval x)).toList=some cells:=by
   unfold Program.built;simp only[H,F,E,K];exact J
  unfold execOp;simp only[G,Sem.run_bind,run_build w t _ cells L,Result.andThen_ok];rfl
 |none=>
  right
  intro w;have M:Instr.fill (λx=>places[x]?) z.cells (List.map (λx=>(x.1,a.eval x.2)) parts.toList)=none:=by simpa using J
  refine ⟨?_, w, ?_⟩
  rotate_left
  unfold execOp;simp[G,Instr.build,run_underlying F,typeInfo,zeroValue,H,E,Array.mapM_eq_mapM_toList,run_places w _ _ K,M,stuck]
  rfl
theorem AS{P:Program}{t:Nat}{o:Oper}(G:o.op = .alloc t){it:TypeInfo}{z:Value}(H:P.info? t=some it)(F:it.zero=some z)(a:Act)(w:World):∃ u w1,(execOp a.eval o).run P w = .ok (.value u) w1:=by
 refine⟨.pointer (some ⟨w.heap.size,0,none⟩),w.alloc (.cells z.cells t),?_⟩
 simp[execOp,G,Instr.alloc,zeroValue,typeInfo,H,F,newVar,newRow]
theorem AT{P:Program}{st:St}(L:P.follows .mixedOrders=true)(x y:Nat)(p q:List Nat)(m:Nat)(vl:List Nat){id:Nat}{l ops:List Oper}{Q:DE->St->Prop}(N:WaitOk P x y l)(S:Jk p q (waitFor x y l)=true)(W:vy p q (waitFor x y l)=ops)(M:yV ops=true)(hm:Nat.ble m ops.length=true)(E:(Nat.beq m ops.length || jk ops m)=true)(H:Ya ops m=true)(B:Xr st.slots=true)
  (h:vI P ops st.next vl (λstF rks hs=>Xu ops (ops.take m) rks.reverse=true/\ub P (Q .normal) (ops.drop m) {st with next:=st.next+hs.length,slots:=qz st.next hs++stF.slots,own:=xU st.next hs++st.own}) (ops.take m) st [] []) :
  Triple P (.region id l.toArray true) Q st:=by
 rw[Nat.ble_eq] at hm
 subst W
 refine AP L N S M ?_
 generalize vy p q (waitFor x y l)=ops at *
 have Y:Ag st (xsOf st):=Fp B
 obtain⟨Z,K⟩:=FR (P:=P) (all:=ops) Y (Nat.zero_le _) []
 have e0:(qA (xsOf st) []).xt.own=st.own:=rfl
 rw[e0] at Z K
 have O:Seg.zV ⟨ops,0,0,(qA (xsOf st) []).rks.reverse,st,λ_=>st.own⟩ 0=st:=by
  unfold Seg.zV;simp[puts]
 have T:(ops.take m).length=m:=by rw[List.length_take];omega
 obtain⟨F,st',hI,J,C,G,A⟩:=WA (l:=ops.take m) M (by simp) rfl Z O h
 rw[T,Nat.zero_add] at hI J
 have V:F.ow=st.own:=C
 have I:Zk ops ((ops.drop 0).take (m-0)) F.rks.reverse 0 ((ops.drop 0).take (m-0)) F.rks.reverse=true/\nodupB (jo F.rks.reverse)=true:=by
  unfold Xu at G;rw[Bool.and_eq_true] at G;simpa using G
 obtain⟨g1,g2,g3⟩:=FQ (s0:=xsOf st) M hI K Y (xs':={(xsOf st) with next:=(xsOf st).next+F.hs.length,slots:=Zl F.xt (xsOf st).next F.hs,own:=xU (xsOf st).next F.hs++F.ow}) (by
  unfold Vl;simp only
  rw[WN,Bool.and_eq_true];exact⟨I,rfl⟩)
 refine .seg (hi:=m) F.rks.reverse (λ_=>st.own) F.hs F.ow g1 g2 ?_ ?_
 .rw[Bool.or_eq_true,beq_iff] at E
  exact E.elim .inr .inl
 .have X:Seg.fin ⟨ops,0,m,F.rks.reverse,st,λ_=>st.own⟩ F.hs F.ow = {st with next:=st.next+F.hs.length,slots:=qz st.next F.hs++st'.slots,own:=xU st.next F.hs++st.own}:=by
   unfold Seg.fin;rw[J,V]
  rw[X];generalize ({st with next:=st.next+F.hs.length,slots:=qz st.next F.hs++st'.slots,own:=xU st.next F.hs++st.own}:St)=stE at A;refine V8 hm rfl (λi h1 h2=>?_) A
  unfold Ya at H;rw[List.all_eq_true] at H;have:=H i (List.mem_range.2 h2)
  rw[Bool.or_eq_true,Nat.ble_eq] at this;rcases this with e | e
  .omega
  .exact e
end Go.V
namespace Go.V
open Go Go.Proofs
section
variable {P:Program} {st:St} {Q:DE->St->Prop}
theorem AU{c:Code}(t e sz:Nat)(F:zh st.slots t=some .nils)(h:Triple P c Q {st.new (.arr e sz []) with slots:=(t,.ar st.next)::st.slots}):Triple P c Q st:=by
 intro X w0 β a w E
 have G:=E.QE e sz
 refine h X w0 _ a w {G with slots:=λk s hk=>?_}
 simp only[zh] at hk
 by_cases H:t=k
 .rw[if_pos H] at hk
  cases hk;refine⟨by simp[Sym.lo,St.new],?_⟩
  have:=(E.slots t _ F).2
  rw[H] at this;simp only[Sm] at this ⊢;rw[this];simp
 .rw[if_neg H] at hk
  exact G.slots k s hk
end
def qt(l:List (List Prt)):List (List D):=l.map λa=>[zg a]
def wE(g:Lang)(w:List Int)(f:Nat)(a:List Prt)(e:Ent)(alt:Nat):List (List Prt):=
 if yY g w<(zL g.lex (a++[⟨e.id,alt,0⟩])).length then [] else (if kT g w (a++[⟨e.id,alt,0⟩])=true then [a++[⟨e.id,alt,0⟩]] else [])++xy g w f (a++[⟨e.id,alt,0⟩])
def kf(g:Lang)(w:List Int)(f:Nat)(a:List Prt)(e:Ent):List (List Prt):=
 if e.cls∈vu g.net (yi g.lex a) 20 then ((List.range e.forms.length).flatMap λalt=>wE g w f a e alt) else []
theorem ES(g:Lang)(w:List Int)(f:Nat)(a:List Prt):xy g w (f+1) a=g.lex.flatMap λe=>kf g w f a e:=rfl
def UV(g:Lang)(w:List Int)(a:List Prt)(out:List (List Prt))(b:Nat):St:=
 {n:=91,next:=1,slots:=[(0,.d g.d),(1,.d (ints w)),(2,.d (zu a)),(3,.d (int (yY g w))),(4,.ar 0)],own:=[(0,.arr 39 1 (qt out))],base:=b}
def Ql(g:Lang)(w:List Int)(a:List Prt)(b:Nat)(o:List (List Prt))(k:Nat):St:=
 {n:=91,next:=4,slots:=[(1,.d (ints w)),(3,.d (int (yY g w))),(4,.ar 0),(5,.bp 1 0),(7,.bp 2 0),(11,.d (ints (vu g.net (yi g.lex a) 20))),(12,.d (int k))],own:=[(0,.arr 39 1 (qt o)),(1,.box 36 (zj g.d)),(2,.box 39 [.d (zg a)])],base:=b,moved:=[0]}
def vS(g:Lang)(w:List Int)(a:List Prt)(b:Nat)(k:Nat)(e:Ent)(o:List (List Prt))(alt:Nat):St:=
 {n:=91,next:=5,slots:=[(1,.d (ints w)),(3,.d (int (yY g w))),(4,.ar 0),(5,.bp 1 0),(7,.bp 2 0),(11,.d (ints (vu g.net (yi g.lex a) 20))),(12,.d (int k)),(13,.bp 4 0),(14,.d (int alt))],own:=[(0,.arr 39 1 (qt o)),(1,.box 36 (zj g.d)),(2,.box 39 [.d (zg a)]),(4,.box 102 (e.row.map .d))],base:=b,moved:=[0]}
theorem AV(g:Lang)(w:List Int)(f:Nat)(a:List Prt)(e:Ent)(k:Nat):(List.range (k+1)).flatMap (λalt=>wE g w f a e alt)=(List.range k).flatMap (λalt=>wE g w f a e alt)++wE g w f a e k:=by
 rw[List.range_succ,List.flatMap_append,List.flatMap_singleton]
def ET(g:Lang)(w:List Int)(f:Nat):Prop:=∀ (a:List Prt) (out:List (List Prt)),a.length+f=4->(∀ p∈a,xM g.lex p=0)->out.length+(xy g w f a).length<=2^30 ->
 zJ Tryz.prog 275 [.d g.d,.d (ints w),.d (zu a),.d (int (yY g w)),.ar 0] [(0,.arr 39 1 (qt out))] 1 (.ar 0) 1 [(0,.arr 39 1 (qt (out++xy g w f a)))] [0]
theorem EU(g:Lang)(hg:LightF g)(hc:LangC g)(w:List Int)(hw:w.length<=24)(f:Nat)(ih:ET g w f)(a:List Prt)(out:List (List Prt))(hl:a.length+(f+1)=4)(hv:∀ p∈a,xM g.lex p=0)(ho:out.length+(xy g w (f+1) a).length<=2^30)(b:Nat)(hb:b<=1):
  ∀ body,Tryz.f275.body=some body->Triple Tryz.prog body (jh (j8 (u0 Tryz.prog Tryz.f275.results.toList b (.ar 0) 1 [(0,.arr 39 1 (qt (out++xy g w (f+1) a)))] [0]))) (UV g w a out b):=by
 intro body L
 have hR:=hg.wA hc
 have hC:=Dn g hR.lex a (by omega)
 have Hi:=Yi g.lex a
 have hF:=SI g.net hg.v6 (yi g.lex a) (by omega)
 have Hs:=Bm g.net (yi g.lex a) 20
 have S:¬(a.length:Int)=4:=by omega
 simp only[Tryz.f275,Option.some.injEq] at L
 subst L
 refine zM mixed ?_
 simp+decide[UV,int,Lang.d,zu,zg,zj,S]
 refine zq (by rfl) (by rfl) hC (by simp[Lang.d,zu]) ?_
 simp+decide[int,ints,Lang.d,zu,zg,zj]
 refine zq (by rfl) (by rfl) hF (by simp[ints]) ?_
 simp+decide[int,ints,Lang.d,zu,zg,zj]
 refine zr mixed (λk:Nat=>Ql g w a b (out++(g.lex.take k).flatMap λe=>kf g w f a e) k) (λk=>k<=g.lex.length) (λk=>g.lex.length-k) 0 (by simp)
  (by simp+decide[Ql,int,ints,Lang.d,zg,zj];try omega) ?_
 intro k hk
 by_cases Q:k<g.lex.length
 case neg=>
  have:k=g.lex.length:=by omega
  subst this;rw[List.take_length,<-ES];simp+decide[Ql,int,ints,Lang.d,zn,zj,j8,St.qO];exact hb
 have B:(k:Int)<g.lex.length:=by omega
 have K:=List.getElem_mem Q
 have hsn:(g.lex.take (k+1)).flatMap (λe=>kf g w f a e)=(g.lex.take k).flatMap (λe=>kf g w f a e)++kf g w f a g.lex[k]:=by rw[y9 Q,List.flatMap_append,List.flatMap_singleton]
 have H:((g.lex.take (k+1)).flatMap (λe=>kf g w f a e)).length<=(xy g w (f+1) a).length:=by
  rw[ES];conv=>rhs;rw[<-List.take_append_drop (k+1) g.lex,List.flatMap_append,List.length_append]
  omega
 obtain⟨e,ee⟩:∃ e,g.lex[k]=e:=⟨_,rfl⟩
 have e1:g.lex[k]?=some e:=by rw[List.getElem?_eq_getElem Q,ee]
 rw[ee] at K hsn
 rw[hsn,List.length_append] at H
 generalize (g.lex.take k).flatMap (λe=>kf g w f a e)=o0 at hsn H
 have hH:=WV (vu g.net (yi g.lex a) 20) e.cls (by omega)
 simp+decide[Ql,int,ints,Lang.d,zn,zj,Q,B,ee,e1,Ent.row]
 refine zc.pure (by rfl) hH (by simp[ints,int]) ?_
 by_cases X:e.cls∈vu g.net (yi g.lex a) 20
 case neg=>
  have W:kf g w f a e=[]:=by unfold kf;rw[if_neg X]
  rw[W,List.append_nil] at hsn;simp+decide[int,X,I64,ints,Lang.d,zj];have C:=hg.small.few;exact⟨⟨by omega,by omega⟩,k+1,Q,by omega,by omega,by omega,by rw[hsn]⟩
 have I:kf g w f a e=(List.range e.forms.length).flatMap (λalt=>wE g w f a e alt):=by unfold kf;rw[if_pos X]
 rw[I] at hsn H
 simp+decide[int,X,I64,ints,Lang.d,zj]
 refine yg mixed (λalt:Nat=>vS g w a b k e (out++(o0++(List.range alt).flatMap λalt=>wE g w f a e alt)) alt) (λalt=>alt<=e.forms.length) (λalt=>e.forms.length-alt) 0 (by simp)
  (by simp+decide[vS,int,ints,Lang.d,zg,zj,Ent.row];exact⟨by omega,rfl⟩) ?_
 intro alt ha
 have hL:=Kg e (by have:=hR.lex.alts e K;omega)
 by_cases T:alt<e.forms.length
 case neg=>
  have:alt=e.forms.length:=by omega
  subst this;refine zM mixed ?_
  simp+decide[vS,int,ints,Lang.d,zj,Ent.row];refine zc.pure (by rfl) hL (by simp[Ent.row,int]) ?_
  simp+decide[int,yc,I64,Ql,vS,Lang.d,zj,Ent.row,ints];have C:=hg.small.few;exact⟨⟨by omega,by omega⟩,k+1,Q,by omega,by omega,by omega,by rw[hsn],rfl⟩
 have N:(alt:Int)<e.forms.length:=by omega
 refine wh mixed 1 (vS g w a b k e (out++(o0++(List.range alt).flatMap λalt=>wE g w f a e alt)) alt) rfl ?_ ?_
 .simp+decide[yq,vS,int,ints,Lang.d,zj,Ent.row]
  refine zc.pure (by rfl) hL (by simp[Ent.row,int]) ?_
  simp+decide[int,yc,xW,N,vS,Lang.d,zj,Ent.row,ints];omega
 simp only[yO]
 refine Y9 (Xt ?_) mixed
 let bp:=a++[(⟨e.id,(alt:Int),0⟩:Prt)]
 let S3:St:={n:=91,next:=7,slots:=[(1,.d (ints w)),(3,.d (int (yY g w))),(4,.ar 0),(5,.bp 1 0),(7,.bp 2 0),(11,.d (ints (vu g.net (yi g.lex a) 20))),(12,.d (int k)),(13,.bp 4 0),(14,.d (int alt)),(15,.bp 5 0)],own:=[(5,.box 39 [.ar 6]),(6,.arr 96 3 (bp.map Prt.row)),(0,.arr 39 1 (qt (out++(o0++(List.range alt).flatMap λalt=>wE g w f a e alt)))),(1,.box 36 (zj g.d)),(2,.box 39 [.d (zg a)]),(4,.box 102 (e.row.map .d))],base:=b,moved:=[0]}
 refine ML S3 ?_ ?_
 .refine AT mixed 11 10 [0,1,2,3,4,5,6,7,8,9,11,10,12] [0,1,2,3,4,5,6,7,8,9,11,10,12] 11 [60] (AO (by rfl) ?_ ?_) (by rfl) rfl (by rfl) (by rfl) (by rfl) (by rfl) (by rfl) ?_
  .intro ox ho a w
   cases ho;exact AS rfl (by rfl) (by rfl) a w
  .intro oy ho a
   cases ho;exact AQ rfl (by rfl) (by rfl) (by rfl) (by rfl) a
  simp+decide[vS,int,ints,Lang.d,zj,Ent.row,zg,Prt.row,vy,gX,YC,waitFor];refine⟨⟨by omega,by unfold maxLen;omega⟩,⟨by omega,by unfold maxLen;omega⟩,by rfl,?_⟩
  simp+decide[S3,bp,int,ints,Lang.d,zj,Ent.row,zg,Prt.row];omega
 refine uS [6] ?_
 have Gm:bp.length=a.length+1:=by simp[bp]
 have hB:=Kh g hR.lex bp (by omega)
 refine zM mixed ?_
 simp+decide[S3,int,ints,Lang.d,zj,Ent.row,zg,Prt.row]
 refine zc.pure (by rfl) hB (by simp[D.scalar]) ?_
 have G:=AV g w f a e alt
 have Gn:a++[(⟨e.id,(alt:Int),0⟩:Prt)]=bp:=rfl
 have P:∀ p∈bp,xM g.lex p=0:=by
  intro p hp;rcases List.mem_append.1 hp with h | h
  .exact hv p h
  .rw[List.mem_singleton] at h;rw[h];exact Ux hg K T
 have F:((List.range (alt+1)).flatMap (λalt=>wE g w f a e alt)).length<=((List.range e.forms.length).flatMap (λalt=>wE g w f a e alt)).length:=by
  have:List.range e.forms.length=List.range (alt+1)++(List.range (e.forms.length-(alt+1))).map (alt+1 + ·):=by
   rw[<-List.range_add];congr 1;omega
  rw[this,List.flatMap_append,List.length_append];omega
 rw[G,List.length_append] at F
 have H0:=Dx g hR w (by omega) bp (by omega)
 have Go:=(hg.small.forms e K).2.1
 have H1:e.forms.length<=2:=by simp[Ent.forms];omega
 have halt:wE g w f a e alt=if yY g w<(zL g.lex bp).length then [] else (if kT g w bp=true then [bp] else [])++xy g w f bp:=rfl
 have M:kT g w bp=(decide (w.length<=(zL g.lex bp).length)&&vq g w bp):=rfl
 generalize (List.range alt).flatMap (λalt=>wE g w f a e alt)=o1 at G F
 clear_value bp
 by_cases V:yY g w<(zL g.lex bp).length
 .rw[if_pos V] at halt
  rw[halt,List.append_nil] at G;have J:(yY g w:Int)<(zL g.lex bp).length:=by omega
  simp+decide[int,ints,V,J,I64,vS,Lang.d,zj,Ent.row,zg];exact⟨⟨by omega,by omega⟩,alt+1,T,by omega,by omega,by omega,by rw[G]⟩
 rw[if_neg V] at halt
 have J:¬(yY g w:Int)<(zL g.lex bp).length:=by omega
 rw[halt] at G F
 by_cases Y:w.length<=(zL g.lex bp).length
 case neg=>
  have O:¬(w.length:Int)<=(zL g.lex bp).length:=by omega
  have Z:kT g w bp=false:=by rw[M,decide_eq_false Y];rfl
  rw[Z,if_neg (by decide),List.nil_append] at G F
  simp+decide[int,ints,V,J,Y,O,I64,vS,Lang.d,zj,Ent.row,zg];have E:=ih bp (out++(o0++o1)) (by omega) P (by simp only[List.length_append,List.length_cons,List.length_nil] at H F ⊢;omega)
  refine zc.mut [0] [.d g.d,.d (ints w),.d (zu bp),.d (int (yY g w)),.ar 0] [(0,.arr 39 1 (qt (out++(o0++o1))))] (by rfl) (by simp[y8,ren,rho,Lang.d,int,ints,zu,zg]) (by simp) ?_ E ?_
  .simp[Fits,vG,St.look,zh,qI,y8,ren,rho,List.range,List.range.loop]
  simp+decide[int,ints,I64,vS,Lang.d,zj,Ent.row,zg];exact⟨⟨by omega,by omega⟩,alt+1,T,by omega,by omega,by omega,by rw[G];try simp[List.append_assoc]⟩
 have O:(w.length:Int)<=(zL g.lex bp).length:=by omega
 simp+decide[int,ints,V,J,Y,O,I64,vS,Lang.d,zj,Ent.row,zg]
 refine zc.pure (by rfl) H0 (by simp[D.scalar]) ?_
 have Z:kT g w bp=vq g w bp:=by rw[M,decide_eq_true Y];rfl
 cases A:vq g w bp with
 |false=>
  rw[Z,A,if_neg (by decide),List.nil_append] at G F
  simp+decide[int,ints,A,I64,vS,Lang.d,zj,Ent.row,zg];have E:=ih bp (out++(o0++o1)) (by omega) P (by simp only[List.length_append,List.length_cons,List.length_nil] at H F ⊢;omega)
  refine zc.mut [0] [.d g.d,.d (ints w),.d (zu bp),.d (int (yY g w)),.ar 0] [(0,.arr 39 1 (qt (out++(o0++o1))))] (by rfl) (by simp[y8,ren,rho,Lang.d,int,ints,zu,zg]) (by simp) ?_ E ?_
  .simp[Fits,vG,St.look,zh,qI,y8,ren,rho,List.range,List.range.loop]
  simp+decide[int,ints,I64,vS,Lang.d,zj,Ent.row,zg];exact⟨⟨by omega,by omega⟩,alt+1,T,by omega,by omega,by omega,by rw[G];try simp[List.append_assoc]⟩
 |true=>
  rw[Z,A,if_pos rfl] at G F;simp+decide[int,ints,A,I64,vS,Lang.d,zj,Ent.row,zg];have hX:qt (out++(o0++o1))++[[D.sl (bp.map Prt.row)]]=qt (out++(o0++(o1++[bp]))):=by simp[qt,zg]
  have Hc:(qt (out++(o0++o1))).length=out.length+(o0.length+o1.length):=by simp[qt]
  rw[hX,Hc];refine⟨by simp only[List.length_append,List.length_cons,List.length_nil] at H F;omega,by unfold maxLen;simp only[List.length_append,List.length_cons,List.length_nil] at H F;omega,?_⟩
  have E:=ih bp (out++(o0++(o1++[bp]))) (by omega) P (by simp only[List.length_append,List.length_cons,List.length_nil] at H F ⊢;omega)
  refine zc.mut [0] [.d g.d,.d (ints w),.d (zu bp),.d (int (yY g w)),.ar 0] [(0,.arr 39 1 (qt (out++(o0++(o1++[bp])))))] (by rfl) (by simp[y8,ren,rho,Lang.d,int,ints,zu,zg]) (by simp) ?_ E ?_
  .simp[Fits,vG,St.look,zh,qI,y8,ren,rho,List.range,List.range.loop]
  simp+decide[int,ints,I64,vS,Lang.d,zj,Ent.row,zg];exact⟨⟨by omega,by omega⟩,alt+1,T,by omega,by omega,by omega,by rw[G];try simp[List.append_assoc]⟩
end Go.V
namespace Go.V
open Go Go.Proofs
theorem AW{P:Program}{c:Code}{Q:DE->St->Prop}{st st':St}(h:Weak st st')(H:Triple P c Q st'):Triple P c Q st:=λX w0 β a w hm=>H X w0 β a w (hm.weak h)
theorem EV{P:Program}{f:Nat}{fn:Func}{c:Code}(F:P.funcs[f]?=some fn)(E:fn.body=some c)(H:callable P f=true)
  {args:List Sym} {own:List (Nat×Obj')} {n:Nat} {s:Sym} {nx:Nat} {own':List (Nat×Obj')} {mv:List Nat} (K:Sym.los n args)
  (h:Triple P c (jh (j8 (u0 P fn.results.toList n s nx own' mv))) (initC fn.ntmps args own n)):zJ P f args own n s nx own' mv:=by
 refine⟨H,λX w0 β w vs hβ J hs=>?_⟩
 refine calls_of_wp F E ?_
 refine wp_mono (h X w0 _ _ w (J.initC hs K)) ?_
 rintro e a' w' ⟨de,st',β',L,M,G⟩
 cases e <;> cases de <;> simp only[yw] at L
 .obtain⟨v,O,Q,T,V⟩:=kD J.defers G.qO M
  exact⟨G.defers.trans J.defers.symm,v,O,β',v,rfl,Q,T,V⟩
 .exact M.elim
 .obtain⟨v,O,Q,T,V⟩:=kD J.defers G.qO M
  exact⟨G.defers.trans J.defers.symm,v,O,β',v,rfl,Q,T,V⟩
theorem AX(g:Lang)(w:List Int)(a:List Prt)(out:List (List Prt))(G:a.length=4):
  zJ Tryz.prog 275 [.d g.d,.d (ints w),.d (zu a),.d (int (yY g w)),.ar 0] [(0,.arr 39 1 (qt out))] 1 (.ar 0) 1 [(0,.arr 39 1 (qt out))] [0]:=by
 have H:(a.length:Int)=4:=by omega
 refine Ja mixed Tryz.func275 rfl c_275 (by simp[Sym.los,Sym.lo]) ?_
 simp+decide[Tryz.f275,int,Lang.d,zu,zg,zj,H,j8,St.qO]
theorem AY{g:Lang}(H:LightF g)(w:List Int)(f:Nat)(G:f<=4)(a:List Prt):(xy g w f a).length<=11110:=by
 refine Nat.le_trans (US H w f a) ?_
 have:f=0\/f=1\/f=2\/f=3\/f=4:=by omega
 rcases this with h | h | h | h | h <;> subst h <;> decide
theorem EW(g:Lang)(H:LightF g)(G:LangC g)(w:List Int)(F:w.length<=24):∀ f,ET g w f
 |0=>by
  intro a out E K J;have:=AX g w a out (by omega)
  rw[show xy g w 0 a=[] from rfl,List.append_nil]
  exact this
 |f+1=>by
  intro a out E K J;refine EV Tryz.func275 rfl c_275 (by simp[Sym.los,Sym.lo]) ?_
  exact EU g H G w F f (EW g H G w F f) a out E K J 1 (Nat.le_refl _) _ rfl
theorem AZ(g:Lang)(H:LightF g)(G:LangC g)(w:List Int)(F:w.length<=24):
  zJ Tryz.prog 275 [.d g.d,.d (ints w),.d (zu []),.d (int (yY g w)),.nils] [] 0 (.ar 0) 1 [(0,.arr 39 1 (qt (xy g w 4 [])))] [0]:=by
 refine EV Tryz.func275 rfl c_275 (by simp[Sym.los,Sym.lo]) ?_
 refine AU 4 39 1 (by rfl) ?_
 have E:=EU g H G w F 3 (EW g H G w F 3) [] [] rfl (λp K=>by cases K) (by have:=AY H w 4 (by omega) [];simp;omega) 0 (by omega) _ rfl
 refine AW ?_ E
 simp+decide[UV,initC,Zc,St.new,qt,int,Lang.d,zu,zg,Tryz.f275]
theorem zet{w:World}{E:Nat->Prop}{β:Nat->Value}{v:Value}(h:Sm w E β (.agg [.nils]) v):Sm w E β (.d (zu [])) v:=by
 simp only[Sm,zl] at h
 obtain⟨vs,rfl,⟨u,us,rfl,H,rfl⟩,G⟩:=h
 have F:R w E (.sl []) u:=UG (w:=w) (E:=E) (β:=β) (v:=u) (by simp only[Sm];exact H)
 show R w E (.agg [.sl []]) _
 unfold R
 refine⟨[u],rfl,?_⟩
 unfold zm
 exact⟨u,[],rfl,G u (by simp),F,by unfold zm;rfl⟩
theorem EX{P:Program}{f:Nat}{a b m:Sym}{own:List (Nat×Obj')}{n:Nat}{r:Sym}{nx:Nat}{own':List (Nat×Obj')}{mv:List Nat}
  (h:zJ P f [a,b,.d (zu []),m,.nils] own n r nx own' mv):zJ P f [a,b,.agg [.nils],m,.nils] own n r nx own' mv:=by
 refine h.args λw E β vs hs=>?_
 simp only[zl] at hs ⊢
 obtain⟨v1,_,rfl,H,v2,_,rfl,G,v3,_,rfl,F,v4,_,rfl,K,v5,_,rfl,J,rfl⟩:=hs
 exact⟨v1,_,rfl,H,v2,_,rfl,G,v3,_,rfl,zet (by simpa only [Sm,zl] using F),v4,_,rfl,K,v5,_,rfl,J,rfl⟩
theorem zcf(g:Lang)(K:LightF g)(J:LangC g)(w:List Int)(L:w.length<=30):zi Tryz.prog 243 [g.d,ints w] (zG (yF g w)):=by
 refine zp mixed Tryz.func243 rfl c_243 ?_
 by_cases M:w.length=0
 .have H:(w.length:Int)=0:=by omega
  simp+decide[Tryz.f243,zj,Lang.d,int,ints,M,H,yF,zG];done
 have H:¬(w.length:Int)=0:=by omega
 by_cases O:24<w.length
 .have G:(24:Int)<w.length:=by omega
  simp+decide[Tryz.f243,zj,Lang.d,int,ints,M,H,O,G,yF,zG];done
 have G:¬(24:Int)<w.length:=by omega
 have Q:=K.wA J
 have T:=NL g (by have:=Q.rules.2;omega) (λr V=>by have O:=(Q.rules.1 r V).dst;have X:=(Q.rules.1 r V).src;omega)
 have Y:=AZ g K J w (by omega)
 have E:yF g w=xy g w 4 []:=by unfold yF;rw[if_neg (by omega)]
 rw[E]
 simp+decide[Tryz.f243,zj,Lang.d,int,ints,M,H,O,G]
 refine zc.pure (by rfl) T (by simp[D.scalar]) ?_
 cases F:kG g.rules with
 |true=>
  have Z:yY g w=24:=by unfold yY;rw[if_pos F]
  rw[Z] at Y;simp+decide[int,ints,zG,Lang.d];refine zc.mut [] [.d g.d,.d (ints w),.agg [.nils],.d (int 24),.nils] [] (by rfl) (by simp[y8,ren,rho,Lang.d,int,ints]) (by simp) ?_ (EX Y) ?_
  .simp[Fits,vG,List.range,List.range.loop]
  simp+decide[int,ints,zG,qt]
 |false=>
  have Z:yY g w=w.length:=by unfold yY;rw[if_neg (by rw[F];decide)]
  rw[Z] at Y;simp+decide[int,ints,zG,Lang.d];refine zc.mut [] [.d g.d,.d (ints w),.agg [.nils],.d (int w.length),.nils] [] (by rfl) (by simp[y8,ren,rho,Lang.d,int,ints]) (by simp) ?_ (EX Y) ?_
  .simp[Fits,vG,List.range,List.range.loop]
  simp+decide[int,ints,zG,qt]
theorem EY{α:Type}{lt:α->α->Bool}(ZC:∀ a,lt a a=false)(tr:∀ {a b c},lt a b=true->lt b c=true->lt a c=true):∀ {l m:List α},(l.Pairwise λa b=>lt a b=true)->(m.Pairwise λa b=>lt a b=true)->(∀ x,x∈l↔x∈m)->l=m
 | [],[],_,_,_=>rfl
 | [],y::m,_,_,h=>by have:=(h y).2 (List.mem_cons_self ..);cases this
 |x::l,[],_,_,h=>by have:=(h x).1 (List.mem_cons_self ..);cases this
 |x::l,y::m,G,F,h=>by
  rw[List.pairwise_cons] at G F;have H:x=y:=by
   rcases List.mem_cons.1 ((h x).1 (List.mem_cons_self ..)) with e | e
   .exact e
   .rcases List.mem_cons.1 ((h y).2 (List.mem_cons_self ..)) with e2 | e2
    .exact e2.symm
    .have E:=F.1 x e
     have K:=G.1 y e2;have:=tr E K
     rw[ZC] at this;cases this
  subst H;congr 1
  refine EY ZC tr G.2 F.2 λz=>?_
  constructor
  .intro J
   rcases List.mem_cons.1 ((h z).1 (List.mem_cons_of_mem _ J)) with e | e
   .subst e
    have:=G.1 z J
    rw[ZC] at this;cases this
   .exact e
  .intro J
   rcases List.mem_cons.1 ((h z).2 (List.mem_cons_of_mem _ J)) with e | e
   .subst e
    have:=F.1 z J
    rw[ZC] at this;cases this
   .exact e
def sN(g:Lang)(p:Prt):Nat:=(yW g.lex p.entry).length
theorem EZ{l:List Ent}(h:∀ e∈l,e.senses.length<=5):∀ ids,(vp l ids).length<=5
 | []=>by simp[vp]
 |x::r=>by
  unfold vp;split
  .unfold zD
   cases H:l.find? (·.id=x) with
   |none=>simp[Ent.zero]
   |some e=>exact h e (List.mem_of_find?_eq_some H)
  .exact EZ h r
theorem H2{g:Lang}(H:LightF g)(p:Prt):sN g p<=5:=by
 unfold sN yW
 rw[XH]
 exact EZ (λe G=>(H.lex.each e G).fewS) _
theorem UW(g:Lang)(H:LightF g)(G:LangC g)(p:Prt):zi Tryz.prog 276 [g.d,.agg p.row] (int (sN g p)):=by
 have F:=H.wA G
 have E:=Kf g.lex p.entry F.lex.len
 refine zp mixed Tryz.func276 rfl c_276 ?_
 simp+decide[Tryz.f276,int,Prt.row,Lang.d,zj]
 refine zc.pure (by rfl) E (by simp[D.scalar]) ?_
 simp+decide[int,zT,sN]
def yn(g:Lang):List Prt->Nat
 | []=>1
 |p::ps=>sN g p*yn g ps
theorem H3(g:Lang):∀ a b:List Prt,yn g (a++b)=yn g a*yn g b
 | [],b=>by simp[yn]
 |p::ps,b=>by rw[List.cons_append,yn,yn,H3 g ps b,Nat.mul_assoc]
theorem UX{g:Lang}(H:LightF g):∀ a:List Prt,yn g a<=5^a.length
 | []=>by simp[yn]
 |p::ps=>by
  rw[yn,List.length_cons,Nat.pow_succ,Nat.mul_comm];exact Nat.mul_le_mul (UX H ps) (H2 H p)
theorem H4{k:Nat}(h:k<=4):5^k<=625:=by
 have:k=0\/k=1\/k=2\/k=3\/k=4:=by omega
 rcases this with h | h | h | h | h <;> subst h <;> decide
theorem H5(g:Lang)(E:LightF g)(K:LangC g)(a:List Prt)(J:a.length<=4):zi Tryz.prog 244 [g.d,zu a] (int (yn g a)):=by
 refine zp mixed Tryz.func244 rfl c_244 ?_
 simp+decide[Tryz.f244,int,zu,zg,Lang.d,zj]
 refine yg mixed (λk:Nat=>{n:=24,next:=2,slots:=[(2,.bp 0 0),(3,.bp 1 0),(5,.d (int (yn g (a.take k)))),(6,.d (int k))],own:=[(0,.box 36 (zj g.d)),(1,.box 39 [.d (zg a)])]})
  (λk=>k<=a.length) (λk=>a.length-k) 0 (Nat.zero_le _) ?_ ?_
 .simp+decide[int,ints,zu,zg,Lang.d,zj,yn]
 intro k L
 refine zM mixed ?_
 by_cases H:k<a.length
 case neg=>
  have:k=a.length:=by omega
  subst this;rw[List.take_length];simp+decide[int,ints,zu,zg,Lang.d,zj]
 have G:(k:Int)<a.length:=by omega
 obtain⟨p,ep⟩:∃ p,a[k]=p:=⟨_,rfl⟩
 have e1:a[k]?=some p:=by rw[List.getElem?_eq_getElem H,ep]
 have hsn:yn g (a.take (k+1))=yn g (a.take k)*sN g p:=by rw[y9 H,H3,ep];simp[yn]
 have F:yn g (a.take (k+1))<=625:=Nat.le_trans (UX E _) (H4 (by rw[List.length_take];omega))
 simp+decide[int,ints,zu,zg,Lang.d,zj,H,G,ep,e1,Prt.row]
 refine zq (by rfl) (by rfl) (UW g E K p) (by simp[D.scalar]) ?_
 simp+decide[int,ints,zu,zg,Lang.d,zj,H,G,ep,e1,Prt.row,I64]
 have M:((yn g (a.take k):Nat):Int)*((sN g p:Nat):Int)=((yn g (a.take (k+1)):Nat):Int):=by rw[hsn,Int.natCast_mul]
 rw[M]
 exact⟨by omega,⟨by omega,by omega⟩,k+1,H,by omega,rfl,by omega⟩
def x5(g:Lang):List Prt->Nat->List Prt
 | [],_=>[]
 |p::ps,n=>⟨p.entry,p.alt,((n%sN g p:Nat):Int)⟩::x5 g ps (n/sN g p)
theorem ZP(g:Lang):∀ (a:List Prt) (n:Nat),(x5 g a n).length=a.length
 | [],_=>rfl
 |p::ps,n=>by rw[x5,List.length_cons,List.length_cons,ZP g ps]
def vT(g:Lang):List Prt->Nat->Nat
 | [],n=>n
 |p::ps,n=>vT g ps (n/sN g p)
theorem H6(g:Lang):∀ (a b:List Prt) (n:Nat),vT g (a++b) n=vT g b (vT g a n)
 | [],b,n=>rfl
 |p::ps,b,n=>by rw[List.cons_append,vT,vT,H6 g ps b]
theorem H7(g:Lang):∀ (a b:List Prt) (n:Nat),x5 g (a++b) n=x5 g a n++x5 g b (vT g a n)
 | [],b,n=>rfl
 |p::ps,b,n=>by rw[List.cons_append,x5,x5,vT,H7 g ps b,List.cons_append]
theorem H8(g:Lang):∀ (a:List Prt) (n:Nat),vT g a n<=n
 | [],n=>Nat.le_refl _
 |p::ps,n=>Nat.le_trans (H8 g ps _) (Nat.div_le_self _ _)
theorem zhy(g:Lang)(hg:LightF g)(hc:LangC g)(a:List Prt)(ha:a.length<=4)(hv:∀ p∈a,0<sN g p)(n:Nat)(hn:n<=2^20):zi Tryz.prog 246 [g.d,zu a,int n] (zu (x5 g a n)):=by
 refine zp mixed Tryz.func246 rfl c_246 ?_
 simp+decide[Tryz.f246,int,zu,zg,Lang.d,zj]
 refine⟨λp _=>rfl,by omega,by unfold maxLen;omega,?_⟩
 refine yg mixed (λk:Nat=>{n:=41,next:=4,slots:=[(2,.d (int (vT g (a.take k) n))),(3,.bp 0 0),(4,.bp 1 0),(6,.bp 2 0),(7,.ar 3),(8,.d (int k))],own:=[(0,.box 36 (zj g.d)),(1,.box 39 [.d (zg a)]),(2,.box 39 [.nils]),(3,.arr 96 3 ((x5 g (a.take k) n++a.drop k).map Prt.row))],moved:=[3]})
  (λk=>k<=a.length) (λk=>a.length-k) 0 (Nat.zero_le _) ?_ ?_
 .simp+decide[int,ints,zu,zg,Lang.d,zj,x5,vT]
 intro k hk
 refine zM mixed ?_
 by_cases F:k<a.length
 case neg=>
  have:k=a.length:=by omega
  subst this;rw[List.take_length,List.drop_length,List.append_nil];have C:=ZP g a n;simp+decide[int,ints,zu,zg,Lang.d,zj,C]
 have E:(k:Int)<a.length:=by omega
 obtain⟨p,ep⟩:∃ p,a[k]=p:=⟨_,rfl⟩
 have I:0<sN g p:=by rw[<-ep];exact hv _ (List.getElem_mem F)
 have J:¬(sN g p:Int)=0:=by omega
 have N:=H2 hg p
 have P:vT g (a.take k) n<=n:=H8 g _ _
 have hN:vT g (a.take (k+1)) n=vT g (a.take k) n/sN g p:=by rw[y9 F,H6,ep];rfl
 have hL:x5 g (a.take (k+1)) n=x5 g (a.take k) n++[⟨p.entry,p.alt,((vT g (a.take k) n%sN g p:Nat):Int)⟩]:=by rw[y9 F,H7,ep];rfl
 have M:(x5 g (a.take k) n).length=k:=by rw[ZP,List.length_take];omega
 have S:a.drop k=p::a.drop (k+1):=by rw[List.drop_eq_getElem_cons F,ep]
 rw[S]
 generalize vT g (a.take k) n=m at hN hL P
 generalize x5 g (a.take k) n=L1 at hL M
 have Y:(L1++p::a.drop (k+1)).length=a.length:=by simp[M];omega
 have L:(L1++p::a.drop (k+1))[k]?=some p:=by rw[List.getElem?_append_right (by omega),M];simp
 have H:((L1++p::a.drop (k+1)).map Prt.row).set k [int p.entry,int p.alt,int ((m%sN g p:Nat):Int)]=(x5 g (a.take (k+1)) n++a.drop (k+1)).map Prt.row:=by
  rw[hL,List.append_assoc,List.singleton_append,List.map_append,List.map_append,List.map_cons,List.map_cons,List.set_append_right _ _ (by rw[List.length_map];omega)]
  rw[List.length_map,M,Nat.sub_self,List.set_cons_zero];rfl
 have G:(x5 g (a.take (k+1)) n++a.drop (k+1))[k]?=some ⟨p.entry,p.alt,((m%sN g p:Nat):Int)⟩:=by
  rw[hL,List.append_assoc,List.singleton_append,List.getElem?_append_right (by omega),M];simp
 have O:(x5 g (a.take (k+1)) n++a.drop (k+1)).length=a.length:=by rw[List.length_append,ZP,List.length_take,List.length_drop];omega
 have A:=UW g hg hc p
 have V:=UW g hg hc ⟨p.entry,p.alt,((m%sN g p:Nat):Int)⟩
 rw[show sN g ⟨p.entry,p.alt,((m%sN g p:Nat):Int)⟩=sN g p from rfl] at V
 generalize L1++p::a.drop (k+1)=L2 at Y L H
 generalize W:x5 g (a.take (k+1)) n++a.drop (k+1)=L3 at H G O
 generalize sN g p=sn at I J N hN A V H G
 have Z:(m:Int).tmod (sn:Int)=((m%sn:Nat):Int):=(Int.ofNat_tmod m sn).symm
 have B:(m:Int).tdiv (sn:Int)=((m/sn:Nat):Int):=(Int.ofNat_tdiv m sn).symm
 have H0:m/sn<=m:=Nat.div_le_self _ _
 have Q:¬sn=0:=by omega
 generalize m%sn=mm at Z V H G
 generalize m/sn=mq at B hN H0
 have T:k<L2.length:=by omega
 have K:(k:Int)<L2.length:=by omega
 have H1:k<L3.length:=by omega
 have X:L2[k]=p:=by rw[List.getElem?_eq_getElem T] at L;exact Option.some.inj L
 simp+decide[int,ints,zu,zg,Lang.d,zj,F,E,T,K,X]
 refine Zf mixed 12 [3] (by rfl) (by rfl) (by rfl) (by rfl) (by simp) ?_
 simp+decide[int,ints,zu,zg,Lang.d,zj,F,E,T,K,X,Prt.row]
 refine zq (by rfl) (by rfl) A (by simp[D.scalar]) ?_
 simp+decide[int,ints,zu,zg,Lang.d,zj,F,E,T,K,X,Prt.row,J,Z]
 refine⟨Q,?_⟩
 refine zq (by rfl) (by rfl) V (by simp[D.scalar]) ?_
 simp+decide[int,ints,zu,zg,Lang.d,zj,F,E,T,K,X,Prt.row,J,Z,B,Q,I64]
 exact⟨by omega,⟨by omega,by omega⟩,k+1,F,by omega,⟨by rw[hN],by omega⟩,by rw[<-List.map_drop,<-List.map_append,W];exact H⟩
theorem zgk(l:List (List Prt))(a:List Prt)(J:l.length<=200)(L:∀ b∈l,b.length<=4)(M:a.length<=4):zi Tryz.prog 245 [zG l,zu a] (zG (insL (λo=>zN a o) a l)):=by
 refine zp mixed Tryz.func245 rfl c_245 ?_
 simp+decide[Tryz.f245,int,zu,zg,zG]
 have G:∀ r∈l.map (λa=>[D.sl (a.map Prt.row)]),r.length=1:=λr O=>by obtain⟨_,_,rfl⟩:=List.mem_map.1 O;rfl
 refine yg mixed (λk:Nat=>{n:=33,next:=1,slots:=[(0,.d (zG l)),(3,.bp 0 0),(5,.d (int k))],own:=[(0,.box 39 [.d (zg a)])]})
  (λk=>k<=l.length/\xC (λo=>zN a o) l k=xC (λo=>zN a o) l l.length) (λk=>k) l.length ⟨Nat.le_refl _,rfl⟩ ?_ ?_
 .simp+decide[int,ints,zu,zg,zG]
 intro k ⟨Q,H⟩
 cases k with
 |zero=>
  refine zM mixed ?_
  simp+decide[int,ints,zu,zg,zG];refine uR mixed 12 [27] (by rfl) (by rfl) (by rfl) (by rfl) ?_
  simp+decide[int,ints,zu,zg,zG];refine⟨⟨λr O=>G r (List.mem_of_mem_take O),by omega,by unfold maxLen;omega⟩,by rfl,?_⟩
  rw[insL,<-H,xC];simp only[List.take_zero,List.drop_zero,List.nil_append,List.map_cons];rw[List.take_of_length_le (by simp)]
 |succ k=>
  obtain⟨o,eo⟩:∃ o,l[k]=o:=⟨_,rfl⟩;have e1:l[k]?=some o:=by rw[List.getElem?_eq_getElem Q,eo]
  have E:=L l[k] (List.getElem_mem Q);rw[eo] at E;have K:=Vr a o (by omega) (by omega)
  rw[xC,e1] at H;simp only at H
  have F:(0:Int)<(k:Int)+1:=by omega
  refine zM mixed ?_
  simp+decide[int,ints,zu,zg,zG,Q,e1,eo,F,I64];refine⟨by omega,Q,?_⟩
  refine zq (by rfl) (by rfl) K (by simp[D.scalar]) ?_
  cases J:zN a o with
  |true=>
   rw[J,if_pos rfl] at H;simp+decide[int,ints,zu,zg,zG,Q,e1,eo,F,J,I64];exact⟨by omega,k,⟨by omega,H⟩,by omega,rfl⟩
  |false=>
   rw[J,if_neg (by decide)] at H
   simp+decide[int,ints,zu,zg,zG,Q,e1,eo,F,J,I64];refine uR mixed 12 [27] (by rfl) (by rfl) (by rfl) (by rfl) ?_
   simp+decide[int,ints,zu,zg,zG];refine⟨by omega,⟨λr O=>G r (List.mem_of_mem_take O),by omega,by unfold maxLen;omega⟩,⟨by omega,by unfold maxLen;omega⟩,by omega,⟨λr O=>G r (List.mem_of_mem_take (List.mem_of_mem_drop O)),by omega,by unfold maxLen;omega⟩,by rfl,?_⟩
   rw[insL,<-H,List.map_append,List.map_cons,List.map_take,List.map_drop];congr 3
   rw[List.take_of_length_le (by simp)]
theorem H9{g:Lang}:∀ {a:List Prt} {n:Nat},(∀ p∈a,0<sN g p)->Choice g a (x5 g a n)
 | [],_,_=>trivial
 |p::ps,n,h=>by
  have H:=h p (List.mem_cons_self ..);have:=Nat.mod_lt n H
  exact⟨⟨rfl,rfl,by show(0:Int)<=((n%sN g p:Nat):Int);omega,by show((n%sN g p:Nat):Int)<(sN g p:Int);omega⟩,H9 λx G=>h x (List.mem_cons_of_mem _ G)⟩
theorem Ha{g:Lang}:∀ {a q:List Prt},Choice g a q->∃ n,n<yn g a/\x5 g a n=q
 | [],[],_=>⟨0,by simp[yn],rfl⟩
 | [],_::_,h=>h.elim
 |_::_,[],h=>h.elim
 |p::ps,q::qs,h=>by
  obtain⟨⟨G,F,E,K⟩,J⟩:=h;obtain⟨m,L,e⟩:=Ha J;have H:q.sense.toNat<sN g p:=by unfold sN;omega
  refine⟨q.sense.toNat+sN g p*m,?_,?_⟩
  .rw[yn]
   have:sN g p*(m+1)<=sN g p*yn g ps:=Nat.mul_le_mul_left _ L
   rw[Nat.mul_add,Nat.mul_one] at this;omega
  .rw[x5,Nat.add_mul_mod_self_left,Nat.mod_eq_of_lt H,Nat.add_mul_div_left _ _ (by omega),Nat.div_eq_of_lt H,Nat.zero_add,e]
   congr 1
   exact Prt.ext' G.symm F.symm (by show((q.sense.toNat:Nat):Int)=q.sense;omega)
theorem Hb{g:Lang}:∀ {a:List Prt} {n m:Nat},n<yn g a->m<yn g a->x5 g a n=x5 g a m->n=m
 | [],n,m,H,G,_=>by simp[yn] at H G;omega
 |p::ps,n,m,H,G,h=>by
  rw[x5,x5] at h;obtain⟨F,E⟩:=List.cons.inj h;have F:=congrArg Prt.sense F;simp only at F
  rw[yn] at H G;have K:=Hb (Nat.div_lt_of_lt_mul H) (Nat.div_lt_of_lt_mul G) E;have e1:=Nat.div_add_mod n (sN g p);have e2:=Nat.div_add_mod m (sN g p);have J:n%sN g p=m%sN g p:=by omega
  rw[K,J] at e1;omega
def uA(g:Lang)(a:List Prt):List (List Prt):=(List.range (yn g a)).map λn=>x5 g a n
theorem Jn{g:Lang}{a q:List Prt}(h:∀ p∈a,0<sN g p):q∈uA g a↔Choice g a q:=by
 unfold uA
 rw[List.mem_map]
 constructor
 .rintro⟨n,_,rfl⟩;exact H9 h
 .intro H
  obtain⟨n,G,e⟩:=Ha H;exact⟨n,List.mem_range.2 G,e⟩
theorem zcg(g:Lang)(a:List Prt):(uA g a).Nodup:=by
 unfold uA List.Nodup
 rw[List.pairwise_map]
 refine List.Pairwise.imp_of_mem ?_ List.nodup_range
 intro n m G F H e
 exact H (Hb (List.mem_range.1 G) (List.mem_range.1 F) e)
theorem Hd(g:Lang):∀ a:List Prt,(j9 g a).length=yn g a
 | []=>rfl
 |p::ps=>by
  rw[j9,yn,List.length_flatMap];have:(List.map (λ(k:Nat)=>((j9 g ps).map λt=>(⟨p.entry,p.alt,(k:Int)⟩:Prt)::t).length) (List.range (yW g.lex p.entry).length))=List.map (λ_=>yn g ps) (List.range (yW g.lex p.entry).length):=by
   refine List.map_congr_left λk _=>?_
   rw[List.length_map,Hd g ps]
  rw[this];show(List.map (λ_=>yn g ps) (List.range (sN g p))).sum=_
  generalize sN g p=n;induction n with
  |zero=>simp
  |succ n ih=>rw[List.range_succ,List.map_append,List.sum_append,ih];simp[Nat.add_mul]
def sumW(g:Lang)(l:List (List Prt)):Nat:=(l.map λa=>yn g a).sum
theorem zgl(g:Lang)(w:List Int):(allT g w).length=sumW g (yF g w):=by
 rw[UN,List.length_flatMap]
 unfold sumW
 congr 1
 exact List.map_congr_left λa _=>Hd g a
theorem PlainF.pos'{g:Lang}(H:LightF g){w:List Int}{b:List Prt}(h:PlainF g w b):∀ p∈b,0<sN g p:=by
 intro p G
 obtain⟨e,F,alt,E,rfl⟩:=(h.parts p G).ok H
 exact List.length_pos_iff.2 (H.senses F)
def gY(g:Lang)(w:List Int):List (List Prt):=(yF g w).flatMap (uA g)
theorem zgm{g:Lang}(H:LightF g){w:List Int}{q:List Prt}:q∈gY g w↔q∈allT g w:=by
 rw[Ji]
 unfold gY
 rw[List.mem_flatMap]
 constructor
 .rintro⟨a,G,F⟩;exact⟨a,G,(Jn ((jy G).pos' H)).1 F⟩
 .rintro⟨a,G,F⟩;exact⟨a,G,(Jn ((jy G).pos' H)).2 F⟩
theorem zdi{g:Lang}(G:LightF g)(w:List Int):(gY g w).Nodup:=by
 unfold gY List.Nodup
 rw[List.pairwise_flatMap]
 refine⟨λa _=>zcg g a,List.Pairwise.imp_of_mem ?_ (Ey G w)⟩
 intro a b F E H x K y J e
 subst e
 have L:=ZN ((Jn ((jy F).pos' G)).1 K)
 have M:=ZN ((Jn ((jy E).pos' G)).1 J)
 rw[(jy F).bare] at L
 rw[(jy E).bare] at M
 exact H (L.symm.trans M)
theorem zgn{g:Lang}(H:LightF g)(w:List Int):vx (gY g w)=vx (allT g w):=
 EY (lt:=zN) Em UL (UM (zdi H w)) (UM (EA H w)) λq=>by rw[Yz,Yz,zgm H]
theorem zeu(l:List (List Prt))(a:List Prt):vx (l++[a])=insL (λx=>zN a x) a (vx l):=by
 unfold vx;rw[List.foldl_append];rfl
theorem He(g:Lang)(a b:List (List Prt)):sumW g (a++b)=sumW g a+sumW g b:=by
 unfold sumW;rw[List.map_append,List.sum_append]
theorem sumW_snoc(g:Lang){l:List (List Prt)}{i:Nat}(h:i<l.length):sumW g (l.take (i+1))=sumW g (l.take i)+yn g l[i]:=by
 rw[y9 h,He];simp[sumW]
theorem Hf(g:Lang)(l:List (List Prt))(i:Nat):sumW g (l.take i)<=sumW g l:=by
 have:=He g (l.take i) (l.drop i)
 rw[List.take_append_drop] at this
 omega
def vU(g:Lang)(l:List (List Prt))(i k:Nat):List (List Prt):=(l.take i).flatMap (uA g)++(List.range k).map λn=>x5 g (l.getD i []) n
theorem zgo(g:Lang)(l:List (List Prt))(i k:Nat):(vU g l i k).length=sumW g (l.take i)+k:=by
 unfold vU sumW
 rw[List.length_append,List.length_flatMap,List.length_map,List.length_range]
 congr 2
 refine List.map_congr_left λa _=>?_
 simp[uA]
theorem zdj{g:Lang}{l:List (List Prt)}(h:∀ a∈l,a.length<=4){i k:Nat}{q:List Prt}(H:q∈vU g l i k):q.length<=4:=by
 unfold vU at H
 rcases List.mem_append.1 H with H | H
 .obtain⟨a,G,H⟩:=List.mem_flatMap.1 H
  unfold uA at H;obtain⟨n,_,rfl⟩:=List.mem_map.1 H;rw[ZP];exact h a (List.mem_of_mem_take G)
 .obtain⟨n,_,rfl⟩:=List.mem_map.1 H
  rw[ZP];by_cases hi:i<l.length
  .rw[List.getD_eq_getElem?_getD,List.getElem?_eq_getElem hi];exact h _ (List.getElem_mem hi)
  .rw[List.getD_eq_getElem?_getD,List.getElem?_eq_none (by omega)];simp
theorem zev{g:Lang}{l:List (List Prt)}{i:Nat}(h:i<l.length):vU g l i (yn g l[i])=vU g l (i+1) 0:=by
 unfold vU
 rw[y9 h,List.flatMap_append,List.flatMap_singleton,List.getD_eq_getElem?_getD,List.getElem?_eq_getElem h]
 simp[uA]
theorem zew{g:Lang}{l:List (List Prt)}{i k:Nat}(h:i<l.length):vU g l i (k+1)=vU g l i k++[x5 g l[i] k]:=by
 unfold vU
 rw[List.range_succ,List.map_append,List.getD_eq_getElem?_getD,List.getElem?_eq_getElem h,List.append_assoc]
 rfl
theorem zgp(g:Lang)(w:List Int):vU g (yF g w) (yF g w).length 0=gY g w:=by
 unfold vU gY
 rw[List.take_length]
 simp
theorem zgq{g:Lang}(H:LightF g)(w:List Int):vR g w=if qB g.inv w≠0 then ([],qB g.inv w) else if 200<sumW g (yF g w) then ([],11) else (vx (gY g w),0):=by
 rw[El,zgl,zgn H]
theorem zex(g:Lang)(hg:LightF g)(hc:LangC g)(w:List Int)(hw:w.length<=30):zi Tryz.prog 222 [g.d,ints w] (.tup [zG (vR g w).1,int (vR g w).2]):=by
 have hP:=zcf g hg hc w hw
 have hW:=Ky g.inv w (by omega)
 have T:∀ a∈yF g w,a.length<=4:=λa ha=>(jy ha).len
 have A:∀ a∈yF g w,∀ p∈a,0<sN g p:=λa ha=>(jy ha).pos' hg
 have I:=AB hg w
 have X:=zgp g w
 rw[zgq hg,<-X]
 generalize yF g w=L at hP T A I
 refine zp mixed Tryz.func222 rfl c_222 ?_
 generalize qB g.inv w=e at hW
 by_cases he:e=0
 case neg=>
  rw[if_pos he];simp+decide[Tryz.f222,zj,Lang.d,int,ints];refine zc.pure (by rfl) hW (by simp[D.scalar]) ?_
  simp+decide[int,ints,zG,he]
 subst he
 rw[if_neg (by simp)]
 simp+decide[Tryz.f222,zj,Lang.d,int,ints]
 refine zc.pure (by rfl) hW (by simp[D.scalar]) ?_
 simp+decide[int,ints]
 refine zc.pure (by rfl) hP (by simp[D.scalar]) ?_
 simp+decide[int,ints,zG]
 refine yg mixed (λi:Nat=>{n:=70,next:=1,slots:=[(2,.bp 0 0),(7,.d (zG L)),(8,.d (int (sumW g (L.take i)))),(9,.d (int i))],own:=[(0,.box 36 (zj g.d))]})
  (λi=>i<=L.length/\sumW g (L.take i)<=825) (λi=>L.length-i) 0 ⟨Nat.zero_le _,by simp[sumW]⟩ ?_ ?_
 .simp+decide[int,ints,zG,sumW,zj,Lang.d]
 intro i ⟨hi,hs⟩
 have W:=Hf g L i
 refine zM mixed ?_
 by_cases F:200<sumW g (L.take i)
 case pos=>
  have M:¬((sumW g (L.take i):Nat):Int)<=200:=by omega
  have O:(200:Int)<((sumW g (L.take i):Nat):Int):=by omega
  have N:200<sumW g L:=by omega
  rw[if_pos N];by_cases G:i<L.length
  .have H:(i:Int)<L.length:=by omega
   simp+decide[int,ints,zG,G,H,M,O,F,I64]
  .have H:¬(i:Int)<L.length:=by omega
   simp+decide[int,ints,zG,G,H,M,O,F,I64]
 have M:((sumW g (L.take i):Nat):Int)<=200:=by omega
 have O:¬(200:Int)<((sumW g (L.take i):Nat):Int):=by omega
 by_cases G:i<L.length
 case pos=>
  have H:(i:Int)<L.length:=by omega
  obtain⟨a,ea⟩:∃ a,L[i]=a:=⟨_,rfl⟩;have e1:L[i]?=some a:=by rw[List.getElem?_eq_getElem G,ea]
  have E:=T L[i] (List.getElem_mem G);rw[ea] at E;have hsn:=sumW_snoc g G;rw[ea] at hsn;have H0:=Nat.le_trans (UX hg a) (H4 E);have Y:=H5 g hg hc a E;simp+decide[int,ints,zG,zj,Lang.d,G,H,M,O,ea,e1,I64];refine zq (by rfl) (by rfl) Y (by simp[D.scalar]) ?_
  simp+decide[int,ints,zG,zj,Lang.d,G,H,M,O,ea,e1,I64];have hz:((sumW g (L.take i):Nat):Int)+((yn g a:Nat):Int)=((sumW g (L.take (i+1)):Nat):Int):=by omega
  rw[hz];exact⟨by omega,⟨by omega,by omega⟩,i+1,⟨G,by omega⟩,by omega,rfl,by omega⟩
 have:i=L.length:=by omega
 subst this
 have H:¬(L.length:Int)<L.length:=by omega
 rw[List.take_length] at M O F hs ⊢
 rw[if_neg F]
 simp+decide[int,ints,zG,M,O,F,I64]
 refine uS [1] ?_
 refine yg mixed (λi:Nat=>{n:=70,next:=2,slots:=[(2,.bp 0 0),(7,.d (zG L)),(10,.d (zG (vx (vU g L i 0)))),(11,.d (int i))],own:=[(0,.box 36 (zj g.d))]})
  (λi=>i<=L.length) (λi=>L.length-i) 0 (Nat.zero_le _) ?_ ?_
 .simp+decide[int,ints,zG,zj,Lang.d,vU,vx]
 intro i hi
 refine zM mixed ?_
 by_cases G:i<L.length
 case neg=>
  have:i=L.length:=by omega
  subst this;simp+decide[int,ints,zG,zj,Lang.d]
 have H:(i:Int)<L.length:=by omega
 simp+decide[int,ints,zG,G,H]
 refine yg mixed (λk:Nat=>{n:=70,next:=2,slots:=[(2,.bp 0 0),(7,.d (zG L)),(10,.d (zG (vx (vU g L i k)))),(11,.d (int i)),(12,.d (int k))],own:=[(0,.box 36 (zj g.d))]})
  (λk=>k<=yn g L[i]) (λk=>yn g L[i]-k) 0 (Nat.zero_le _) ?_ ?_
 .simp+decide[int,ints,zG,zj,Lang.d]
 intro k hk
 obtain⟨a,ea⟩:∃ a,L[i]=a:=⟨_,rfl⟩
 have e1:L[i]?=some a:=by rw[List.getElem?_eq_getElem G,ea]
 have E:=T L[i] (List.getElem_mem G)
 have B:=A L[i] (List.getElem_mem G)
 have hsn:=sumW_snoc g G
 have P:=Hf g L (i+1)
 have K:=zev (g:=g) G
 have J:=zew (g:=g) (k:=k) G
 have Z:=zgo g L i k
 have S:=λq=>zdj (g:=g) T (i:=i) (k:=k) (q:=q)
 rw[ea] at E B hsn K J hk ⊢
 have Y:=H5 g hg hc a E
 refine zM mixed ?_
 simp+decide[int,ints,zG,zj,Lang.d,G,H,ea,e1,I64]
 refine zq (by rfl) (by rfl) Y (by simp[D.scalar]) ?_
 by_cases V:k<yn g a
 case neg=>
  have:k=yn g a:=by omega
  subst this;simp+decide[int,ints,zG,zj,Lang.d,G,H,ea,e1,I64];exact⟨⟨by omega,by omega⟩,i+1,G,by omega,by rw[K],by omega⟩
 have Q:(k:Int)<yn g a:=by omega
 have hT:=zhy g hg hc a E B k (by omega)
 have C:=zgk (vx (vU g L i k)) (x5 g a k) (by rw[Et,Z];omega) (λq hq=>S q (Yz.1 hq)) (by rw[ZP];exact E)
 rw[<-zeu,<-J] at C
 simp+decide[int,ints,zG,zj,Lang.d,G,H,ea,e1,I64,V,Q]
 refine zq (by rfl) (by rfl) hT (by simp[D.scalar]) ?_
 simp+decide[int,ints,zG,zu,zj,Lang.d,G,H,ea,e1,I64,V,Q]
 refine zq (by rfl) (by rfl) C (by simp[D.scalar]) ?_
 simp+decide[int,ints,zG,zu,zj,Lang.d,G,H,ea,e1,I64,V,Q]
 exact⟨⟨by omega,by omega⟩,k+1,V,by omega,rfl,by omega⟩
def vd(s t:ByteArray):Bool:=decide (t.size<=s.size)&&decide (s.extract 0 t.size=t)
theorem zch(s t:ByteArray)(hs:s.size<2^40):zi Tryz.prog 195 [.str s,.str t] (.bool (vd s t)):=by
 refine zp mixed Tryz.func195 rfl c_195 ?_
 unfold vd
 by_cases h:t.size<=s.size
 .have H:(t.size:Int)<=s.size:=by omega
  have G:((s.extract 0 t.size).toList==t.toList)=decide (s.extract 0 t.size=t):=by
   by_cases e:s.extract 0 t.size=t
   .rw[e];simp
   .rw[decide_eq_false e,beq_eq_false_iff_ne];exact λe'=>e (bytes_inj e')
  simp+decide[Tryz.f195,int,h,H,G]
 .have H:¬(t.size:Int)<=s.size:=by omega
  simp+decide[Tryz.f195,int,h,H]
def xE(us:List Grap)(t:ByteArray):Nat->Option Nat
 |0=>none
 |k+1=>match us[k]? with
  |none=>xE us t k
  |some u=>if vd t u.graph=true then (match xE us t k with
    |none=>some k
    |some b=>if ((us[b]?.map λv=>v.graph.size).getD 0)<u.graph.size then some k else some b)
   else xE us t k
def xA:Option Nat->Int
 |none=>-1
 |some b=>b
theorem uB{us:List Grap}{t:ByteArray}:∀ {k b:Nat},xE us t k=some b->b<k/\b<us.length
 |0,b,h=>by cases h
 |k+1,b,h=>by
  unfold xE at h;split at h
  .exact⟨by have:=(uB h).1;omega,(uB h).2⟩
  .rename_i u F
   have H:k<us.length:=(List.getElem?_eq_some_iff.1 F).1
   split at h
   .split at h
    .obtain rfl:=Option.some.inj h;exact⟨by omega,H⟩
    .rename_i b' G
     split at h
     .obtain rfl:=Option.some.inj h;exact⟨by omega,H⟩
     .obtain rfl:=Option.some.inj h
      exact⟨by have:=(uB G).1;omega,(uB G).2⟩
   .exact⟨by have:=(uB h).1;omega,(uB h).2⟩
theorem zbi(o:Orth)(T:OrthC o)(s:ByteArray)(hs:s.size<2^40):zi Tryz.prog 140 [.agg o.cells,.str s] (int (xA (xE o.units s o.units.length))):=by
 have O:=T.few.1
 refine zp mixed Tryz.func140 rfl c_140 ?_
 simp+decide[Tryz.f140,int,Orth.cells]
 refine yg mixed (λk:Nat=>{n:=42,next:=1,slots:=[(1,.d (.str s)),(2,.bp 0 0),(5,.d (int (xA (xE o.units s k)))),(6,.d (int k))],own:=[(0,.box 28 (o.cells.map .d))]})
  (λk=>k<=o.units.length) (λk=>o.units.length-k) 0 (Nat.zero_le _) ?_ ?_
 .simp+decide[int,zI,Orth.cells,xE,xA]
 intro k V
 refine zM mixed ?_
 by_cases G:k<o.units.length
 case neg=>
  have:k=o.units.length:=by omega
  subst this;simp+decide[int,zI,Orth.cells]
 have F:(k:Int)<o.units.length:=by omega
 obtain⟨u,eu⟩:∃ u,o.units[k]=u:=⟨_,rfl⟩
 have eu1:o.units[k]?=some u:=by rw[List.getElem?_eq_getElem G,eu]
 have Q:=(T.units o.units[k] (List.getElem_mem G)).1
 rw[eu] at Q
 have X:=zch s u.graph hs
 have H:xE o.units s (k+1)=if vd s u.graph=true then (match xE o.units s k with
    |none=>some k
    |some b=>if ((o.units[b]?.map λv=>v.graph.size).getD 0)<u.graph.size then some k else some b)
   else xE o.units s k:=by rw[xE,eu1]
 simp+decide[int,zI,Orth.cells,G,F,eu,eu1,Grap.row]
 refine zc.pure (by rfl) X (by simp[D.scalar]) ?_
 cases Y:vd s u.graph with
 |false=>
  rw[Y,if_neg (by decide)] at H
  simp+decide[int,zI,Orth.cells,G,F,eu,eu1,Grap.row,I64];exact⟨⟨by omega,by omega⟩,k+1,G,by omega,by rw[H],by omega⟩
 |true=>
  rw[Y,if_pos rfl] at H;cases K:xE o.units s k with
  |none=>
   rw[K] at H;simp only at H
   simp+decide[int,zI,Orth.cells,G,F,eu,eu1,Grap.row,I64,xA];exact⟨⟨by omega,by omega⟩,k+1,G,by omega,by rw[H],by omega⟩
  |some b=>
   have J:=(uB K).2;have E:(b:Int)<o.units.length:=by omega
   rw[K] at H;simp only at H
   obtain⟨v,ev⟩:∃ v,o.units[b]=v:=⟨_,rfl⟩;have ev1:o.units[b]?=some v:=by rw[List.getElem?_eq_getElem J,ev]
   rw[ev1] at H;simp only[Option.map_some,Option.getD_some] at H;have M:¬(b:Int)<0:=by omega
   by_cases Z:v.graph.size<u.graph.size
   .have L:(v.graph.size:Int)<u.graph.size:=by omega
    rw[if_pos Z] at H;simp+decide[int,zI,Orth.cells,G,F,eu,eu1,Grap.row,I64,xA,J,E,ev,ev1,Z,L,M];exact⟨⟨by omega,by omega⟩,k+1,G,by omega,by rw[H],by omega⟩
   .have L:¬(v.graph.size:Int)<u.graph.size:=by omega
    rw[if_neg Z] at H;simp+decide[int,zI,Orth.cells,G,F,eu,eu1,Grap.row,I64,xA,J,E,ev,ev1,Z,L,M];exact⟨⟨by omega,by omega⟩,k+1,G,by omega,by rw[H],by omega⟩
def xi(us:List Grap)(s:ByteArray):Nat->Nat->List Nat×Nat
 |0,at_=>([],at_)
 |f+1,at_=>if at_<s.size then (match xE us (s.extract at_ s.size) us.length with
   |none=>([],at_)
   |some b=>(b::(xi us s f (at_+((us[b]?.map λv=>v.graph.size).getD 0))).1,(xi us s f (at_+((us[b]?.map λv=>v.graph.size).getD 0))).2))
  else ([],at_)
theorem Jo{us:List Grap}{t:ByteArray}:∀ {k b:Nat},xE us t k=some b->∃ v,us[b]?=some v/\vd t v.graph=true
 |0,b,h=>by cases h
 |k+1,b,h=>by
  unfold xE at h;split at h
  .exact Jo h
  .rename_i u H
   split at h
   .rename_i G
    split at h
    .obtain rfl:=Option.some.inj h;exact⟨u,H,G⟩
    .rename_i b' hb'
     split at h
     .obtain rfl:=Option.some.inj h;exact⟨u,H,G⟩
     .obtain rfl:=Option.some.inj h;exact Jo hb'
   .exact Jo h
def qu(l:List Nat):D:=.sl (l.map λ(n:Nat)=>[int (n:Int)])
theorem zdk(o:Orth)(X:OrthC o)(Y:∀ u∈o.units,0<u.graph.size)(s:ByteArray)(hs:s.size<2^30):zi Tryz.prog 82 [.agg o.cells,.str s] (.tup [qu (xi o.units s s.size 0).1,int (xi o.units s s.size 0).2]):=by
 refine zp mixed Tryz.func82 rfl c_82 ?_
 obtain⟨T,eT⟩:∃ T,xi o.units s s.size 0=T:=⟨_,rfl⟩
 rw[eT]
 simp+decide[Tryz.f82,int,Orth.cells]
 refine yg mixed (λx:List Nat×Nat=>{n:=37,next:=3,slots:=[(1,.d (.str s)),(2,.bp 0 0),(6,.ar 2),(7,.d (int x.2))],own:=[(0,.box 28 (o.cells.map .d)),(2,.arr 3 1 (x.1.map λ(n:Nat)=>[int (n:Int)]))],moved:=[2]})
  (λx=>x.2<=s.size/\x.1.length<=x.2/\∃ f,s.size-x.2<=f/\T=(x.1++(xi o.units s f x.2).1,(xi o.units s f x.2).2)) (λx=>s.size-x.2) ([],0) ⟨Nat.zero_le _,Nat.zero_le _,s.size,by omega,by rw[<-eT];rfl⟩ ?_ ?_
 .simp+decide[int,ints,Orth.cells]
 rintro⟨out,at_⟩ ⟨J,L,f,Z,A⟩
 simp only at J L Z A
 refine zM mixed ?_
 by_cases G:at_<s.size
 case neg=>
  have B:xi o.units s f at_=([],at_):=by
   cases f with
   |zero=>rfl
   |succ f=>rw[xi,if_neg G]
  rw[B,List.append_nil] at A;subst A;have H:¬(at_:Int)<s.size:=by omega
  simp+decide[int,ints,Orth.cells,G,H,qu]
 have H:(at_:Int)<s.size:=by omega
 obtain⟨f,rfl⟩:∃ f',f=f'+1:=⟨f-1,by omega⟩
 rw[xi,if_pos G] at A
 have C:=zbi o X (s.extract at_ s.size) (by simp;omega)
 simp+decide[int,ints,Orth.cells,G,H]
 refine⟨by omega,?_⟩
 refine zq (by rfl) (by rfl) C (by simp[D.scalar]) ?_
 cases I:xE o.units (s.extract at_ s.size) o.units.length with
 |none=>
  rw[I] at A;simp only[List.append_nil] at A;subst A;simp+decide[int,ints,Orth.cells,G,H,xA,qu]
 |some b=>
  rw[I] at A;simp only at A
  obtain⟨v,N,F⟩:=Jo I;have K:=(uB I).2;have E:(b:Int)<o.units.length:=by omega
  have M:o.units[b]=v:=by rw[List.getElem?_eq_getElem K] at N;exact Option.some.inj N
  have V:=Y v (List.mem_of_getElem? N);have O:at_+v.graph.size<=s.size:=by
   unfold vd at F;rw[Bool.and_eq_true,decide_eq_true_eq] at F;have:=F.1
   simp at this
   omega
  rw[N] at A;simp only[Option.map_some,Option.getD_some] at A;have Q:¬(b:Int)<0:=by omega
  simp+decide[int,ints,Orth.cells,zI,G,H,xA,K,E,N,M,Q,Grap.row,I64];exact⟨by omega,by unfold maxLen;omega,⟨by omega,by omega⟩,out++[b],at_+v.graph.size,⟨O,by simp;omega,f,by omega,by rw[A,List.append_assoc];rfl⟩,by omega,by omega,by simp⟩
theorem UY{us:List Grap}{s:ByteArray}:∀ {f at_:Nat},∀ b∈(xi us s f at_).1,b<us.length
 |0,_,b,h=>by cases h
 |f+1,at_,b,h=>by
  unfold xi at h;split at h
  .split at h
   .cases h
   .rename_i c H
    rcases List.mem_cons.1 h with e | h
    .rw[e];exact(uB H).2
    .exact UY b h
  .cases h
theorem UZ{us:List Grap}{s:ByteArray}:∀ {f at_:Nat},(xi us s f at_).1.length<=f
 |0,_=>Nat.le_refl _
 |f+1,at_=>by
  unfold xi;split
  .split
   .exact Nat.zero_le _
   .rw[List.length_cons];exact Nat.succ_le_succ UZ
  .exact Nat.zero_le _
def ve(us:List Grap)(l:List Nat):List Int:=l.flatMap λb=>(us[b]?.map λv=>v.segs).getD []
def yL(us:List Grap)(s:ByteArray):List Int×Int×Int:=
 if s.size=0 then ([],0,4) else if (xi us s s.size 0).2<s.size then ([],(xi us s s.size 0).2,20) else if 24<(ve us (xi us s s.size 0).1).length then ([],0,5) else (ve us (xi us s s.size 0).1,0,0)
theorem Hg{us:List Grap}{l:List Nat}{k b:Nat}{v:Grap}(h:k<l.length)(H:l[k]=b)(G:us[b]?=some v):ve us (l.take (k+1))=ve us (l.take k)++v.segs:=by
 unfold ve
 rw[y9 h,List.flatMap_append,List.flatMap_singleton,H,G]
 rfl
theorem G0{us:List Grap}(hs:∀ u∈us,u.segs.length<=1048576):∀ l:List Nat,(ve us l).length<=l.length*1048576
 | []=>by simp[ve]
 |b::l=>by
  have ih:=G0 hs l;unfold ve at ih ⊢;rw[List.flatMap_cons,List.length_append,List.length_cons];have:((us[b]?.map λv=>v.segs).getD []).length<=1048576:=by
   cases h:us[b]? with
   |none=>simp
   |some v=>exact hs v (List.mem_of_getElem? h)
  omega
theorem Hh(o:Orth)(Y:OrthC o)(Z:∀ u∈o.units,0<u.graph.size)(s:ByteArray)(hs:s.size<=1024):zi Tryz.prog 34 [.agg o.cells,.str s] (.tup [ints (yL o.units s).1,int (yL o.units s).2.1,int (yL o.units s).2.2]):=by
 have A:=zdk o Y Z s (by omega)
 have H:=λb=>UY (us:=o.units) (s:=s) (f:=s.size) (at_:=0) b
 have O:=UZ (us:=o.units) (s:=s) (f:=s.size) (at_:=0)
 refine zp mixed Tryz.func34 rfl c_34 ?_
 unfold yL
 generalize xi o.units s s.size 0=T at A H O
 obtain⟨l,e⟩:=T
 simp only at A H O
 by_cases B:s.size=0
 .have C:s=ByteArray.empty:=ByteArray.ext (Array.eq_empty_of_size_eq_zero (by simpa using B))
  subst C;simp+decide[Tryz.f34,int,ints,Orth.cells]
 rw[if_neg B]
 have C:(s.toList==[] )=false:=by
  rw[beq_eq_false_iff_ne];intro e;have:s=ByteArray.empty:=bytes_inj (e.trans (by first | simp | (unfold ByteArray.toList;rw[ByteArray.toList.loop];rfl)))
  exact B (by rw[this];rfl)
 simp+decide[Tryz.f34,int,ints,Orth.cells,C]
 refine zc.pure (by rfl) A (by simp[D.scalar]) ?_
 by_cases I:e<s.size
 .have M:(e:Int)<s.size:=by omega
  simp+decide[int,ints,Orth.cells,I,M,qu]
 have M:¬(e:Int)<s.size:=by omega
 rw[if_neg I]
 simp+decide[int,ints,Orth.cells,I,M,qu]
 refine yg mixed (λk:Nat=>{n:=45,next:=3,slots:=[(2,.bp 0 0),(7,.d (qu l)),(9,.ar 2),(10,.d (int k))],own:=[(0,.box 28 (o.cells.map .d)),(2,.arr 3 1 ((ve o.units (l.take k)).map λn=>[int n]))],moved:=[2]})
  (λk=>k<=l.length) (λk=>l.length-k) 0 (Nat.zero_le _) ?_ ?_
 .simp+decide[int,ints,Orth.cells,ve,qu]
 intro k N
 refine zM mixed ?_
 by_cases F:k<l.length
 case neg=>
  have:k=l.length:=by omega
  subst this;rw[List.take_length];generalize ve o.units l=W;by_cases Q:24<W.length
  .have G:(24:Int)<W.length:=by omega
   simp+decide[int,ints,Orth.cells,qu,Q,G]
  .have G:¬(24:Int)<W.length:=by omega
   simp+decide[int,ints,Orth.cells,qu,Q,G]
 have E:(k:Int)<l.length:=by omega
 obtain⟨b,eb⟩:∃ b,l[k]=b:=⟨_,rfl⟩
 have eb1:l[k]?=some b:=by rw[List.getElem?_eq_getElem F,eb]
 have J:b<o.units.length:=by rw[<-eb];exact H _ (List.getElem_mem F)
 have K:(b:Int)<o.units.length:=by omega
 obtain⟨v,ev⟩:∃ v,o.units[b]=v:=⟨_,rfl⟩
 have ev1:o.units[b]?=some v:=by rw[List.getElem?_eq_getElem J,ev]
 have X:=(Y.units o.units[b] (List.getElem_mem J)).2
 rw[ev] at X
 have V:=Hg (us:=o.units) F eb ev1
 have L:=G0 (us:=o.units) (λu P=>(Y.units u P).2) (l.take k)
 rw[List.length_take] at L
 have L:(ve o.units (l.take k)).length<=1024*1048576:=Nat.le_trans L (Nat.mul_le_mul_right _ (by omega))
 generalize ve o.units (l.take k)=W at V L
 simp+decide[int,ints,Orth.cells,qu,zI,Grap.row,F,E,eb,eb1,J,K,ev,ev1,I64]
 refine uc mixed 10 (by rfl) (by rfl) (by rfl) (by rfl) (by simp) ?_
 simp+decide[int,ints,Orth.cells,qu,zI,Grap.row,F,E,eb,eb1,J,K,ev,ev1,I64]
 exact⟨by omega,by unfold maxLen;omega,⟨by omega,by omega⟩,k+1,F,by omega,by omega,by rw[V,List.map_append]⟩
def gZ(us:List Grap):Nat:=us.foldl (λm u=>max m u.graph.size) 0
theorem zdl{us:List Grap}{k:Nat}{u:Grap}(h:k<us.length)(H:us[k]=u):gZ (us.take (k+1))=max (gZ (us.take k)) u.graph.size:=by
 unfold gZ
 rw[y9 h,List.foldl_append,H];rfl
theorem zdm(us:List Grap):∀ m,m<=us.foldl (λm u=>max m u.graph.size) m/\∀ u∈us,u.graph.size<=us.foldl (λm u=>max m u.graph.size) m:=by
 induction us with
 |nil=>intro m;exact⟨Nat.le_refl _,λu h=>by cases h⟩
 |cons v us ih=>
  intro m;obtain⟨H,G⟩:=ih (max m v.graph.size);rw[List.foldl_cons];refine⟨by omega,λu F=>?_⟩
  rcases List.mem_cons.1 F with e | F
  .rw[e];omega
  .exact G u F
theorem zgr{us:List Grap}{u:Grap}(h:u∈us):u.graph.size<=gZ us:=(zdm us 0).2 u h
theorem zey{us:List Grap}{c:Nat}(h:∀ u∈us,u.graph.size<=c):∀ m,m<=c->us.foldl (λm u=>max m u.graph.size) m<=c:=by
 induction us with
 |nil=>intro m H;exact H
 |cons v us ih=>
  intro m H;rw[List.foldl_cons];exact ih (λu G=>h u (List.mem_cons_of_mem _ G)) _ (by have:=h v (List.mem_cons_self ..);omega)
theorem zez{s t:ByteArray}{at_:Nat}(h:vd (s.extract at_ s.size) t=true):t.size<=s.size-at_:=by
 unfold vd at h
 rw[Bool.and_eq_true,decide_eq_true_eq] at h
 have:=h.1
 simp at this
 omega
theorem zhz{s:ByteArray}{at_ n:Nat}(h:at_+n<=s.size):(s.extract at_ s.size).extract 0 n=s.extract at_ (at_+n):=by
 rw[ByteArray.extract_extract]
 congr 1
 omega
theorem G1{s t:ByteArray}{at_ n:Nat}(H:t.size=n)(h:at_+n<=s.size):vd (s.extract at_ s.size) t=true↔t=s.extract at_ (at_+n):=by
 unfold vd
 rw[Bool.and_eq_true,decide_eq_true_eq,decide_eq_true_eq,H,zhz h]
 constructor
 .rintro⟨_,e⟩;exact e.symm
 .intro e;exact⟨by rw[ByteArray.size_extract];omega,e.symm⟩
theorem G2{us:List Grap}{t:ByteArray}(h:∀ u∈us,vd t u.graph=false):∀ {k:Nat},xE us t k=none
 |0=>rfl
 |k+1=>by
  rw[xE];cases H:us[k]? with
  |none=>exact G2 h
  |some u=>
   simp only
   rw[if_neg (by rw[h u (List.mem_of_getElem? H)];decide)]
   exact G2 h
theorem Hj{us:List Grap}{t:ByteArray}{i:Nat}{v:Grap}(Q:us[i]?=some v)(T:vd t v.graph=true)(H:∀ u∈us,vd t u.graph=true->u.graph.size<=v.graph.size)
  (G:∀ u∈us.take i,vd t u.graph=true->u.graph.size<v.graph.size):∀ {k:Nat},(k<=i->∀ b,xE us t k=some b->∃ w∈us.take i,us[b]?=some w/\vd t w.graph=true)/\(i<k->xE us t k=some i)
 |0=>⟨(by intro _ b h;cases h),(by intro h;omega)⟩
 |k+1=>by
  obtain⟨V,X⟩:=Hj Q T H G (k:=k);have O:i<us.length:=(List.getElem?_eq_some_iff.1 Q).1
  constructor
  .intro Y b h
   have K:k<us.length:=by omega
   have ek:us[k]?=some us[k]:=List.getElem?_eq_getElem K
   have E:us[k]∈us.take i:=List.mem_iff_getElem.2 ⟨k,by rw[List.length_take];omega,by rw[List.getElem_take]⟩
   rw[xE,ek] at h;simp only at h
   split at h
   .rename_i F
    split at h
    .obtain rfl:=Option.some.inj h;exact⟨_,E,ek,F⟩
    .rename_i b' hb'
     split at h
     .obtain rfl:=Option.some.inj h;exact⟨_,E,ek,F⟩
     .obtain rfl:=Option.some.inj h;exact V (by omega) _ hb'
   .exact V (by omega) b h
  .intro Y
   rw[xE];by_cases J:k=i
   .subst J
    rw[Q];simp only
    rw[if_pos T];cases F:xE us t k with
    |none=>rfl
    |some b=>
     simp only
     obtain⟨w,Z,ew,L⟩:=V (Nat.le_refl _) b F;rw[ew,Option.map_some,Option.getD_some,if_pos (G w Z L)]
   .rw[X (by omega)]
    cases A:us[k]? with
    |none=>rfl
    |some u=>
     simp only
     split
     .rename_i M
      rw[Q,if_neg (by have:=H u (List.mem_of_getElem? A) M;simp;omega)]
     .rfl
theorem zdn(o:Orth)(P:OrthC o)(S:∀ u∈o.units,0<u.graph.size)(s:ByteArray)(hs:s.size<2^30):zi Tryz.prog 169 [.agg o.cells,.str s] (.tup [qu (xi o.units s s.size 0).1,int (xi o.units s s.size 0).2]):=by
 refine zp mixed Tryz.func169 rfl c_169 ?_
 have X:=P.few.1
 obtain⟨T,eT⟩:∃ T,xi o.units s s.size 0=T:=⟨_,rfl⟩
 rw[eT]
 simp+decide[Tryz.f169,int,Orth.cells,zI]
 refine yg mixed (λk:Nat=>{n:=68,next:=2,slots:=[(1,.d (.str s)),(2,.bp 0 0),(6,.d (int (gZ (o.units.take k)))),(15,.d (zI o.units)),(16,.d (int o.units.length)),(17,.d (int k))],own:=[(0,.box 28 (o.cells.map .d))]})
  (λk=>k<=o.units.length) (λk=>o.units.length-k) 0 (Nat.zero_le _) ?_ ?_
 .simp+decide[int,zI,Orth.cells,gZ]
 intro k W
 refine zM mixed ?_
 by_cases G:k<o.units.length
 case pos=>
  have H:(k:Int)<o.units.length:=by omega
  obtain⟨u,eu⟩:∃ u,o.units[k]=u:=⟨_,rfl⟩;have eu1:o.units[k]?=some u:=by rw[List.getElem?_eq_getElem G,eu]
  have Y:=(P.units o.units[k] (List.getElem_mem G)).1;rw[eu] at Y;have hm:=zdl G eu;simp+decide[int,zI,Orth.cells,G,H,eu,eu1,Grap.row,I64];refine⟨⟨by omega,by omega⟩,k+1,G,by omega,?_,by omega⟩
  rw[hm];split <;> omega
 have:k=o.units.length:=by omega
 subst this
 rw[List.take_length]
 simp+decide[int,zI,Orth.cells]
 have Z:gZ o.units<=1048576:=zey (λu hu=>(P.units u hu).1) 0 (by omega)
 have V:=λu=>zgr (us:=o.units) (u:=u)
 generalize gZ o.units=most at Z V
 refine yg mixed (λx:List Nat×Nat=>{n:=68,next:=3,slots:=[(1,.d (.str s)),(2,.bp 0 0),(6,.d (int most)),(9,.ar 2),(10,.d (int x.2))],own:=[(0,.box 28 (o.cells.map .d)),(2,.arr 3 1 (x.1.map λ(n:Nat)=>[int (n:Int)]))],moved:=[2]})
  (λx=>x.2<=s.size/\x.1.length<=x.2/\∃ f,s.size-x.2<=f/\T=(x.1++(xi o.units s f x.2).1,(xi o.units s f x.2).2)) (λx=>s.size-x.2) ([],0) ⟨Nat.zero_le _,Nat.zero_le _,s.size,by omega,by rw[<-eT];rfl⟩ ?_ ?_
 .simp+decide[int,ints,Orth.cells,zI]
 rintro⟨out,at_⟩ ⟨A,B,f,hf,hT⟩
 simp only at A B hf hT
 refine zM mixed ?_
 by_cases G:at_<s.size
 case neg=>
  have hu:xi o.units s f at_=([],at_):=by
   cases f with
   |zero=>rfl
   |succ f=>rw[xi,if_neg G]
  rw[hu,List.append_nil] at hT;subst hT;have H:¬(at_:Int)<s.size:=by omega
  simp+decide[int,ints,Orth.cells,G,H,qu]
 have H:(at_:Int)<s.size:=by omega
 obtain⟨f,rfl⟩:∃ f',f=f'+1:=⟨f-1,by omega⟩
 rw[xi,if_pos G] at hT
 simp+decide[int,ints,Orth.cells,zI,G,H,I64]
 refine⟨by omega,?_⟩
 refine yg mixed (λn:Nat=>{n:=68,next:=3,slots:=[(1,.d (.str s)),(2,.bp 0 0),(6,.d (int most)),(9,.ar 2),(10,.d (int at_)),(11,.d (int n))],own:=[(0,.box 28 (o.cells.map .d)),(2,.arr 3 1 (out.map λ(n:Nat)=>[int (n:Int)]))],moved:=[2]})
  (λn=>n<=s.size-at_/\∀ u∈o.units,vd (s.extract at_ s.size) u.graph=true->u.graph.size<=n) (λn=>n) (min most (s.size-at_)) ⟨by omega,λu hu hb=>?_⟩ ?_ ?_
 .have h1:=V u hu
  have h2:=(zez hb);omega
 .simp+decide[int,ints,Orth.cells,zI]
  split <;> omega
 intro n ⟨hn,F⟩
 refine zM mixed ?_
 by_cases C:n=0
 .subst C
  have I:xE o.units (s.extract at_ s.size) o.units.length=none:=G2 λu hu=>by
   cases hb:vd (s.extract at_ s.size) u.graph with
   |false=>rfl
   |true=>have:=F u hu hb;have:=S u hu;omega
  rw[I] at hT;simp only[List.append_nil] at hT;subst hT;simp+decide[int,ints,Orth.cells,zI,qu]
 have L:(0:Int)<n:=by omega
 have E:0<n:=by omega
 simp+decide[int,ints,Orth.cells,zI,L,E]
 refine yg mixed (λi:Nat=>{n:=68,next:=3,slots:=[(1,.d (.str s)),(2,.bp 0 0),(6,.d (int most)),(9,.ar 2),(10,.d (int at_)),(11,.d (int n)),(42,.d (zI o.units)),(43,.d (int o.units.length)),(44,.d (int i))],own:=[(0,.box 28 (o.cells.map .d)),(2,.arr 3 1 (out.map λ(n:Nat)=>[int (n:Int)]))],moved:=[2]})
  (λi=>i<=o.units.length/\∀ u∈o.units.take i,u.graph≠s.extract at_ (at_+n)) (λi=>o.units.length-i) 0 ⟨Nat.zero_le _,λu hu=>by simp at hu⟩ ?_ ?_
 .simp+decide[int,ints,Orth.cells,zI]
 intro i ⟨hi,J⟩
 refine zM mixed ?_
 by_cases K:i<o.units.length
 case neg=>
  have:i=o.units.length:=by omega
  subst this;rw[List.take_length] at J;simp+decide[int,ints,Orth.cells,zI,I64];refine⟨by omega,n-1,⟨by omega,λu hu hb=>?_⟩,by omega,by omega⟩
  have h1:=F u hu hb;have h2:u.graph.size≠n:=λe=>J u hu ((G1 e (by omega)).1 hb)
  omega
 have M:(i:Int)<o.units.length:=by omega
 obtain⟨u,eu⟩:∃ u,o.units[i]=u:=⟨_,rfl⟩
 have eu1:o.units[i]?=some u:=by rw[List.getElem?_eq_getElem K,eu]
 simp+decide[int,ints,Orth.cells,zI,I64,K,M,eu,eu1,Grap.row]
 have O:((at_:Int)+(n:Int)).toNat=at_+n:=by omega
 rw[O]
 refine⟨by omega,⟨by omega,by omega⟩,λhe=>?_,λhe=>?_⟩
 .have he:u.graph=s.extract at_ (at_+n):=by first | exact bytes_inj he | exact he
  have Q:u.graph.size=n:=by rw[he,ByteArray.size_extract];omega
  have N:=(G1 Q (by omega)).2 he
  have hF:=(Hj (k:=o.units.length) eu1 N (λv hv hb=>by rw[Q];exact F v hv hb) (λv hv hb=>by
   have h1:=F v (List.mem_of_mem_take hv) hb;have h2:v.graph.size≠n:=λe=>J v hv ((G1 e (by omega)).1 hb)
   omega)).2 K
  rw[hF] at hT;simp only at hT
  rw[eu1,Option.map_some,Option.getD_some,Q] at hT;exact⟨by omega,by unfold maxLen;omega,by omega,out++[i],at_+n,⟨by omega,by simp;omega,f,by omega,by rw[hT,List.append_assoc];rfl⟩,by omega,by omega,by simp⟩
 .refine⟨by omega,i+1,⟨K,λv hv=>?_⟩,by omega,by omega⟩
  rw[y9 K,eu] at hv;rcases List.mem_append.1 hv with h | h
  .exact J v h
  .rw[List.mem_singleton] at h
   rw[h];exact λe=>he (by rw[e])
theorem G3(o:Orth)(Y:OrthC o)(Z:∀ u∈o.units,0<u.graph.size)(s:ByteArray)(hs:s.size<=1024):zi Tryz.prog 119 [.agg o.cells,.str s] (.tup [ints (yL o.units s).1,int (yL o.units s).2.1,int (yL o.units s).2.2]):=by
 have A:=zdn o Y Z s (by omega)
 have H:=λb=>UY (us:=o.units) (s:=s) (f:=s.size) (at_:=0) b
 have O:=UZ (us:=o.units) (s:=s) (f:=s.size) (at_:=0)
 refine zp mixed Tryz.func119 rfl c_119 ?_
 unfold yL
 generalize xi o.units s s.size 0=T at A H O
 obtain⟨l,e⟩:=T
 simp only at A H O
 by_cases B:s.size=0
 .have C:s=ByteArray.empty:=ByteArray.ext (Array.eq_empty_of_size_eq_zero (by simpa using B))
  subst C;simp+decide[Tryz.f119,int,ints,Orth.cells]
 rw[if_neg B]
 have C:(s.toList==[] )=false:=by
  rw[beq_eq_false_iff_ne];intro e;have:s=ByteArray.empty:=bytes_inj (e.trans (by first | simp | (unfold ByteArray.toList;rw[ByteArray.toList.loop];rfl)))
  exact B (by rw[this];rfl)
 simp+decide[Tryz.f119,int,ints,Orth.cells,C]
 refine zc.pure (by rfl) A (by simp[D.scalar]) ?_
 by_cases I:e<s.size
 .have K:(e:Int)<s.size:=by omega
  simp+decide[int,ints,Orth.cells,I,K,qu]
 have K:¬(e:Int)<s.size:=by omega
 rw[if_neg I]
 simp+decide[int,ints,Orth.cells,I,K,qu]
 refine yg mixed (λk:Nat=>{n:=44,next:=3,slots:=[(2,.bp 0 0),(9,.ar 2),(25,.d (qu l)),(26,.d (int l.length)),(27,.d (int k))],own:=[(0,.box 28 (o.cells.map .d)),(2,.arr 3 1 ((ve o.units (l.take k)).map λn=>[int n]))],moved:=[2]})
  (λk=>k<=l.length) (λk=>l.length-k) 0 (Nat.zero_le _) ?_ ?_
 .simp+decide[int,ints,Orth.cells,ve,qu]
 intro k N
 refine zM mixed ?_
 by_cases F:k<l.length
 case neg=>
  have:k=l.length:=by omega
  subst this;rw[List.take_length];generalize ve o.units l=W;by_cases Q:24<W.length
  .have G:(24:Int)<W.length:=by omega
   simp+decide[int,ints,Orth.cells,qu,Q,G]
  .have G:¬(24:Int)<W.length:=by omega
   simp+decide[int,ints,Orth.cells,qu,Q,G]
 have J:(k:Int)<l.length:=by omega
 obtain⟨b,eb⟩:∃ b,l[k]=b:=⟨_,rfl⟩
 have eb1:l[k]?=some b:=by rw[List.getElem?_eq_getElem F,eb]
 have L:b<o.units.length:=by rw[<-eb];exact H _ (List.getElem_mem F)
 have M:(b:Int)<o.units.length:=by omega
 obtain⟨v,ev⟩:∃ v,o.units[b]=v:=⟨_,rfl⟩
 have ev1:o.units[b]?=some v:=by rw[List.getElem?_eq_getElem L,ev]
 have X:=(Y.units o.units[b] (List.getElem_mem L)).2
 rw[ev] at X
 have V:=Hg (us:=o.units) F eb ev1
 have E:=G0 (us:=o.units) (λu P=>(Y.units u P).2) (l.take k)
 rw[List.length_take] at E
 have E:(ve o.units (l.take k)).length<=1024*1048576:=Nat.le_trans E (Nat.mul_le_mul_right _ (by omega))
 generalize ve o.units (l.take k)=W at V E
 simp+decide[int,ints,Orth.cells,qu,zI,Grap.row,F,J,eb,eb1,L,M,ev,ev1,I64]
 exact⟨by omega,by unfold maxLen;omega,⟨by omega,by omega⟩,k+1,F,by omega,by omega,by rw[V,List.map_append]⟩
theorem Qm(us:List Grap)(s:ByteArray):(yL us s).1.length<=24:=by
 unfold yL
 split
 .exact Nat.zero_le _
 .split
  .exact Nat.zero_le _
  .split
   .exact Nat.zero_le _
   .rename_i h;exact Nat.le_of_not_lt h
def vz(g:Lang)(s:ByteArray):List (List Prt)×Int:=if (yL g.orth.units s).2.2≠0 then ([],(yL g.orth.units s).2.2) else vR g (yL g.orth.units s).1
theorem zh0(g:Lang)(H:LightF g)(G:LangC g)(s:ByteArray)(hs:s.size<=1024):zi Tryz.prog 215 [g.d,.str s] (.tup [zG (vz g s).1,int (vz g s).2]):=by
 have F:=G3 g.orth G.orth H.graphs s hs
 have E:=Aa g H G (yL g.orth.units s).1 (by have:=Qm g.orth.units s;omega)
 unfold vz
 generalize yL g.orth.units s=z at F E
 obtain⟨w,a,e⟩:=z
 simp only at F E
 refine zp mixed Tryz.func215 rfl c_215 ?_
 simp+decide[Tryz.f215,zj,Lang.d,int,ints]
 refine zc.pure (by rfl) F (by simp[D.scalar]) ?_
 by_cases K:e=0
 case neg=>simp+decide[int,ints,zG,K]
 subst K
 simp+decide[int,ints]
 refine zc.pure (by rfl) E (by simp[D.scalar]) ?_
 simp+decide[int,ints,zG]
theorem VS(g:Lang)(H:LightF g)(G:LangC g)(s:ByteArray)(hs:s.size<=1024):zi Tryz.prog 184 [g.d,.str s] (.tup [zG (vz g s).1,int (vz g s).2]):=by
 have F:=Hh g.orth G.orth H.graphs s hs
 have E:=zex g H G (yL g.orth.units s).1 (by have:=Qm g.orth.units s;omega)
 unfold vz
 generalize yL g.orth.units s=z at F E
 obtain⟨w,a,e⟩:=z
 simp only at F E
 refine zp mixed Tryz.func184 rfl c_184 ?_
 simp+decide[Tryz.f184,zj,Lang.d,int,ints]
 refine zc.pure (by rfl) F (by simp[D.scalar]) ?_
 by_cases K:e=0
 case neg=>simp+decide[int,ints,zG,K]
 subst K
 simp+decide[int,ints]
 refine zc.pure (by rfl) E (by simp[D.scalar]) ?_
 simp+decide[int,ints,zG]
theorem zdo{g:Lang}(H:LightF g)(w:List Int):(vR g w).1.length<=200/\∀ q∈(vR g w).1,q.length<=4:=by
 obtain⟨G,F⟩:=AC H w
 by_cases E:(vR g w).2=0
 .exact⟨(F E).few,λq K=>((F E).form q K).2.2⟩
 .rw[G E]
  exact⟨Nat.zero_le _,λq K=>by cases K⟩
theorem G4{g:Lang}(H:LightF g)(s:ByteArray):(vz g s).1.length<=200/\∀ q∈(vz g s).1,q.length<=4:=by
 unfold vz
 split
 .exact⟨Nat.zero_le _,λq G=>by cases G⟩
 .exact zdo H _
end Go.V

/- Contracts and plain laws of this seat: part ME. It needs no conditions. -/
import Derived.Test.YtknekjalbninmaaGreatMD
import Derived.Test.YtknekjalbninmaaGreatMA
import Derived.Test.YtknekjalbninmaaGreatB1
import Derived.Test.YtknekjalbninmaaGreatMB
import Derived.Test.YtknekjalbninmaaGreatW1
set_option linter.all false
set_option maxHeartbeats 32000000
set_option maxRecDepth 100000
namespace Go.V
open Go Go.Proofs Tryz
def St.vL(st:St):St:={st with aA:=st.aA.filter (λi=>decide (i<st.ai))}
theorem ax.vL{X:Nat->Prop}{w0:bz}{st:St}{β:Nat->Value}{a:Act}{w:World}(G:ax X w0 st β a w):ax X w0 st.vL β a w:=
 {G with bI:=⟨G.bI.1,λid cq hk=>G.bI.2 id cq (λH=>hk (oA.2 ⟨H,pI cq⟩))⟩}
def wy(Q:St->Prop):St->Prop:=λst=>Q st.vL
theorem K8{P:Program}(F:P.follows .mixedOrders=true){f:Nat}{fn:Func}{c:Code}(E:P.funcs[f]?=some fn)(K:fn.body=some c)(H:aN P f=true)
  {args:List ah} {own:List (Nat×am)} {n:Nat} {s:ah} {nx:Nat} {own':List (Nat×am)} {mv:List Nat} (J:ah.a_ n args)
  (h:ev P c (cJ (wy (fF P fn.results.toList n s nx own' mv))) (cz fn.ntmps args own n)):aU P f args own n s nx own' mv:=by
 refine⟨H,λX w0 β w vs hβ L hs=>?_⟩
 refine calls_of_wp E K ?_
 refine wp_mono (bF F h X w0 _ _ w (L.cz hs J)) ?_
 rintro e a' w' ⟨de,st',β',M,O,G⟩
 cases e <;> cases de <;> simp only[yq] at M
 .obtain⟨v,Q,T,V,Y⟩:=uD L.defers G.vL O
  exact⟨G.defers.trans L.defers.symm,v,Q,β',v,rfl,T,V,Y⟩
 .exact O.elim
 .obtain⟨v,Q,T,V,Y⟩:=uD L.defers G.vL O
  exact⟨G.defers.trans L.defers.symm,v,Q,β',v,rfl,T,V,Y⟩
abbrev yM:=List (List aG)×Bool
def xl(x:yM)(a:List aG):yM×Bool:=if x.1.length=200 then ((x.1,true),false) else ((dE (λo=>zP a o) a x.1,x.2),true)
def xK(x:yM):List (Nat×am):=[(0,.box 241 [.ar 2]),(1,.box 4 [.d (.bool x.2)]),(2,.aQ 39 1 (x.1.map λa=>[zh a]))]
theorem zrl(x:yM)(Y:x.1.length<=200)(V:∀ b∈x.1,b.length<2^40)(a:List aG)(Z:a.length<2^40):
  aU prog 269 [.d (zr a),.bp 0 0,.bp 1 0] (xK x) 3 (.d (.bool (xl x a).2)) 3 (xK (xl x a).1) [2]:=by
 obtain⟨out,fA⟩:=x
 simp only at Y V
 refine K8 mixed func269 rfl nw (by simp[ah.a_,ah.lo]) ?_
 unfold xl
 by_cases E:out.length=200
 .have G:(out.length:Int)=200:=by omega
  simp+decide[f269,xK,int,zr,zh,E,G,wy,St.vL];done
 have G:¬(out.length:Int)=200:=by omega
 simp+decide[f269,xK,int,zr,zh,E,G,wy,St.vL]
 refine qg (λk:Nat=>{n:=40,next:=4,af:=[(1,.bp 0 0),(2,.bp 1 0),(3,.bp 3 0),(5,.d (int k))],own:=(3,.box 39 [.d (zh a)])::xK (out,fA),ai:=3})
  (λk=>k<=out.length/\qq (λo=>zP a o) out k=qq (λo=>zP a o) out out.length) (λk=>k) out.length ⟨nJ _,rfl⟩ ?_ ?_
 .simp+decide[xK,int,zr,zh]
 intro k ⟨A,H⟩
 by_cases X:0<k
 case neg=>
  have B:qq (λo=>zP a o) out out.length=k:=by
   rw[<-H];obtain rfl:k=0:=(by omega);rfl
  have O:¬(0:Int)<k:=by omega
  refine cy ?_
  simp+decide[xK,int,zr,zh,aB,X,O];unfold dE;rw[B];clear H;generalize k=p at *;refine⟨by omega,by unfold maxLen;omega,?_⟩
  refine jH 7 ?_
  have K:¬(p:Int)=(out.length:Int)+1:=by omega
  by_cases Q:p=out.length
  .subst Q
   simp+decide[int,zh,u32,aB,wy,St.vL,K];exact⟨by omega,by omega,by omega,by omega⟩
  .have T:p<out.length:=by omega
   have F:¬(p:Int)=(out.length:Int):=by omega
   have C:p+(out.length+1-p)=out.length+1:=by omega
   obtain⟨a1,a2,a3⟩:=Nv (R:=out.map (λa=>[zh a])) (by intro r I;obtain⟨y,_,rfl⟩:=nS.1 I;rfl) (nr:=[.sl []]) rfl (zh a) (p:=p) (L:=out.length) (by simp) T
   unfold Xa at a2 a3;simp only[zh] at a1 a2 a3;simp+decide[int,zh,u32,aB,wy,St.vL,K,F,C];refine⟨by omega,⟨by omega,A⟩,by omega,a1,by omega,by omega,by omega,a2,a3⟩
 obtain⟨j,rfl⟩:∃ j,k=j+1:=⟨k-1,by omega⟩
 have M:j<out.length:=by omega
 have J:(j:Int)<out.length:=by omega
 obtain⟨o,eo,e1⟩:=bN M
 have N:=zop a o (by omega) (by have:=V out[j] (nF M);rw[eo] at this;omega)
 rw[qq,e1] at H
 simp only at H
 refine cy ?_
 simp+decide[xK,int,zr,zh,aB,M,J,eo,e1]
 refine⟨by omega,?_⟩
 refine bw N ?_
 cases P:zP a o with
 |true=>
  rw[gt P] at H;simp+decide[xK,int,zr,zh,aB,P];exact⟨by omega,j,⟨by omega,H⟩,by omega,rfl⟩
 |false=>
  rw[ge (by rw[P];decide)] at H
  simp+decide[xK,int,zr,zh,aB,P];unfold dE;rw[<-H];rw[show(j:Int)+1=((j+1:Nat):Int) from by omega]
  clear H e1 eo M J X;generalize j+1=p at *;refine⟨by omega,by unfold maxLen;omega,?_⟩
  refine jH 7 ?_
  have K:¬(p:Int)=(out.length:Int)+1:=by omega
  by_cases Q:p=out.length
  .subst Q
   simp+decide[int,zh,u32,aB,wy,St.vL,K];exact⟨by omega,by omega,by omega,by omega⟩
  .have T:p<out.length:=by omega
   have F:¬(p:Int)=(out.length:Int):=by omega
   have C:p+(out.length+1-p)=out.length+1:=by omega
   obtain⟨a1,a2,a3⟩:=Nv (R:=out.map (λa=>[zh a])) (by intro r I;obtain⟨y,_,rfl⟩:=nS.1 I;rfl) (nr:=[.sl []]) rfl (zh a) (p:=p) (L:=out.length) (by simp) T
   unfold Xa at a2 a3;simp only[zh] at a1 a2 a3;simp+decide[int,zh,u32,aB,wy,St.vL,K,F,C];refine⟨by omega,⟨by omega,A⟩,by omega,a1,by omega,by omega,by omega,a2,a3⟩
end Go.V
namespace Go.V
open Go Go.Proofs Tryz
section
variable {σ α:Type}
def xM(G:σ->α->σ×Bool):σ×Bool->List α->σ×Bool
 |z,[]=>z
 |z,a::r=>if z.2=false then z else xM G (G z.1 a) r
theorem Qe(G:σ->α->σ×Bool)(z:σ×Bool)(a:α)(r:List α):xM G z (a::r)=if z.2=false then z else xM G (G z.1 a) r:=rfl
theorem J1{G:σ->α->σ×Bool}{z:σ×Bool}(h:z.2=false):∀ l,xM G z l=z
 | []=>rfl
 |a::r=>by rw[Qe,gt h]
theorem K9{G:σ->α->σ×Bool}:∀ (z:σ×Bool) (l r:List α),xM G z (l++r)=xM G (xM G z l) r
 |z,[],r=>rfl
 |z,a::l,r=>by
  rw[nV,Qe,Qe];by_cases h:z.2=false
  .rw[gt h,gt h]
   exact(J1 h r).symm
  .rw[ge h,ge h]
   exact K9 _ l r
end
def qI(g:aj):Nat->List aG->Nat->List (List aG)
 |0,p,_=>[p]
 |f+1,p,i=>(List.range (xg g.aM (p.getD i ⟨0,0,0⟩).entry).length).flatMap λ(k:Nat)=>qI g f (p.set i ⟨(p.getD i ⟨0,0,0⟩).entry,(p.getD i ⟨0,0,0⟩).bf,k⟩) (i+1)
def iw(x:yM):Prop:=x.1.length<=200/\∀ b∈x.1,b.length<=4
theorem zor{x:yM}(h:iw x){a:List aG}(H:a.length<=4):iw (xl x a).1:=by
 unfold xl
 split
 .exact h
 .rename_i hl
  refine⟨by simp only[J0];have:=h.1;omega,λb G=>?_⟩
  rcases Ye.1 G with e | e
  .rw[e];exact H
  .exact h.2 b e
theorem Dy:∀ (l:List (List aG)) (z:yM×Bool),iw z.1->(∀ a∈l,a.length<=4)->iw (xM xl z l).1
 | [],z,h,_=>h
 |a::l,z,h,H=>by
  rw[Qe];split
  .exact h
  .exact Dy l _ (zor h (H a (nL ..))) λb G=>H b (nG _ G)
theorem Dz(g:aj):∀ (f:Nat) (p:List aG) (i:Nat),∀ q∈qI g f p i,q.length=p.length
 |0,p,i,q,h=>by rw[qI,nQ] at h;rw[h]
 |f+1,p,i,q,h=>by
  rw[qI,po] at h;obtain⟨k,_,h⟩:=h;rw[Dz g f _ _ q h,rS]
def vM(g:aj)(f:Nat)(p:List aG)(i k:Nat):List (List aG):=(List.range k).flatMap λ(k:Nat)=>qI g f (p.set i ⟨(p.getD i ⟨0,0,0⟩).entry,(p.getD i ⟨0,0,0⟩).bf,k⟩) (i+1)
theorem Nw(g:aj)(f:Nat)(p:List aG)(i k:Nat):vM g f p i (k+1)=vM g f p i k++qI g f (p.set i ⟨(p.getD i ⟨0,0,0⟩).entry,(p.getD i ⟨0,0,0⟩).bf,k⟩) (i+1):=by
 unfold vM;rw[qr,oW,pQ]
theorem Nx(g:aj)(f:Nat)(p:List aG)(i:Nat)(z:yM×Bool)(k:Nat)(h:(xM xl z (vM g f p i k)).2=false):∀ d,xM xl z (vM g f p i (k+d))=xM xl z (vM g f p i k)
 |0=>rfl
 |d+1=>by
  rw[<-pP,Nw,K9,Nx g f p i z k h d];exact J1 h _
theorem Ny{l:List aP}(h:∀ e∈l,e.aL.length<2^40):∀ aD,(jg l aD).length<2^40
 | []=>by simp[jg]
 |x::r=>by
  unfold jg;split
  .unfold zF
   cases H:l.find? (·.id=x) with
   |none=>simp[aP.zero]
   |some e=>exact h e (qv H)
  .exact Ny h r
def Ko(g:aj)(f:Nat):Prop:=∀ (x:yM) (p:List aG) (i:Nat),iw x->p.length<=4->i+f=p.length ->
 aU prog 273 [.d g.d,.d (zh p),.d (int i),.fn 269 [.bp 0 0,.bp 1 0]] (xK x) 3 (.d (.bool (xM xl (x,true) (qI g f p i)).2)) 3 (xK (xM xl (x,true) (qI g f p i)).1) [2]
theorem zed(g:aj):Ko g 0:=by
 intro x p i F E hi
 have G:(i:Int)=p.length:=by omega
 have H:=zrl x F.1 (λb K=>by have:=F.2 b K;omega) p (by omega)
 rw[show xM xl (x,true) (qI g 0 p i)=xl x p from by simp[qI,xM]]
 generalize xl x p=z at H
 obtain⟨zx,zb⟩:=z
 obtain⟨out,fA⟩:=x
 obtain⟨zo,zf⟩:=zx
 refine K8 mixed func273 rfl mh (by simp[ah.a_,ah.lo]) ?_
 simp+decide[f273,xK,int,zh,zj,aj.d,G]
 refine⟨λa _=>rfl,by omega,by unfold maxLen;omega,?_⟩
 refine zE.Tc [4] rfl [0,1,2] [.d (zr p),.bp 0 0,.bp 1 0] (xK (out,fA)) (by rfl) (by simp[yf,cg,ce,zr,zh]) (by simp) ?_ H ?_
 .simp[cV,jC,xK,St.ay,zc,vE,yf,cg,ce,int,List.range,List.range.loop,zh]
 simp+decide[int,zh,xK,wy,St.vL]
theorem zee(g:aj)(Z:aH g)(A:bC g)(f:Nat)(ih:Ko g f):Ko g (f+1):=by
 intro x p i B C hi
 have X:¬(i:Int)=p.length:=by omega
 have L:i<p.length:=by omega
 have K:(i:Int)<p.length:=by omega
 obtain⟨q,eq,e1⟩:=bN L
 have eg:p.getD i ⟨0,0,0⟩=q:=by rw[ot,e1];rfl
 have I:=Z.kJ A
 have N:=Wg g.aM q.entry I.aM.len I.aM.aL
 refine K8 mixed func273 rfl mh (by simp[ah.a_,ah.lo]) ?_
 simp+decide[f273,xK,int,zh,zj,aj.d,X,aG.row,L,K,e1,eq]
 refine bw N ?_
 simp+decide[xK,int,zh,zj,aj.d,zW]
 unfold qI
 rw[eg]
 obtain⟨ns,ens⟩:∃ ns,(xg g.aM q.entry).length=ns:=⟨_,rfl⟩
 have Y:ns<2^40:=by
  rw[<-ens];unfold xg;rw[Vl];exact Ny I.aM.aL _
 rw[ens]
 refine qg (λk:Nat=>{n:=49,next:=4,af:=[(1,.d (zh p)),(2,.d (int i)),(3,.fn 269 [.bp 0 0,.bp 1 0]),(4,.bp 3 0),(29,.d (int ns)),(30,.d (int k))],own:=(3,.box 36 (zj g.d))::xK (xM xl (x,true) (vM g f p i k)).1,ai:=3,aA:=[2,4]})
  (λk=>k<=ns/\(xM xl (x,true) (vM g f p i k)).2=true) (λk=>ns-k) 0 ⟨nU _,rfl⟩ ?_ ?_
 .simp+decide[xK,int,zh,zj,aj.d,vM,xM]
 intro k ⟨P,E⟩
 have J:=Dy (vM g f p i k) (x,true) B (λa S=>by
  unfold vM at S;rw[po] at S;obtain⟨_,_,S⟩:=S;rw[Dz g f _ _ a S,rS];exact C)
 have Q:=Nw g f p i k
 rw[eg] at Q
 have H:xM xl (x,true) (vM g f p i (k+1))=xM xl (xM xl (x,true) (vM g f p i k)) (qI g f (p.set i ⟨q.entry,q.bf,k⟩) (i+1)):=by rw[Q,K9]
 by_cases T:k<ns
 case neg=>
  obtain rfl:k=ns:=by omega
  have F:(List.range k).flatMap (λ(k:Nat)=>qI g f (p.set i ⟨q.entry,q.bf,k⟩) (i+1))=vM g f p i k:=by unfold vM;rw[eg]
  rw[F];generalize xM xl (x,true) (vM g f p i k)=z at E;obtain⟨zx,zb⟩:=z;simp only at E
  subst E;refine cy ?_
  simp+decide[xK,int,zh,zj,aj.d,wy,St.vL]
 have M:(k:Int)<ns:=by omega
 generalize xM xl (x,true) (vM g f p i k)=z at E H J
 obtain⟨⟨out,fA⟩,zb⟩:=z
 simp only at E
 subst E
 have G:=ih (out,fA) (p.set i ⟨q.entry,q.bf,k⟩) (i+1) J (by rw[rS];exact C) (by rw[rS];omega)
 have O:(p.map aG.row).set i [.int .i64 q.entry,.int .i64 q.bf,.int .i64 k]=(p.set i ⟨q.entry,q.bf,(k:Int)⟩).map aG.row:=by rw[sh];rfl
 refine cy ?_
 simp+decide[xK,int,zh,zj,aj.d,T,M,aB,aG.row,L,K]
 rw[eq,O]
 refine⟨by omega,by unfold maxLen;omega,by omega,?_⟩
 generalize xM xl ((out,fA),true) (qI g f (p.set i ⟨q.entry,q.bf,(k:Int)⟩) (i+1))=z2 at G H
 obtain⟨⟨o2,f2⟩,b2⟩:=z2
 refine zE.Tc [4] rfl [0,1,2] [.d g.d,.d (zh (p.set i ⟨q.entry,q.bf,(k:Int)⟩)),.d (int (i+1)),.fn 269 [.bp 0 0,.bp 1 0]] (xK (out,fA)) (by rfl) (by simp[yf,cg,ce,zr,zh,aj.d,int]) (by simp) ?_ (by simpa using G) ?_
 .simp[cV,jC,xK,St.ay,zc,vE,yf,cg,ce,int,List.range,List.range.loop,zh]
 cases b2 with
 |true=>
  simp+decide[int,zh,xK,wy,St.vL,zj,aj.d,aB];exact⟨by omega,k+1,⟨T,by rw[H]⟩,by omega,by omega,by rw[H],by rw[H]⟩
 |false=>
  simp+decide[int,zh,xK,wy,St.vL,zj,aj.d,aB];have V:=Nx g f p i (x,true) (k+1) (by rw[H]) (ns-(k+1))
  rw[show k+1+(ns-(k+1))=ns by omega,H] at V
  have F:(List.range ns).flatMap (λ(k:Nat)=>qI g f (p.set i ⟨q.entry,q.bf,k⟩) (i+1))=vM g f p i ns:=by unfold vM;rw[eg]
  rw[F,V];exact⟨rfl,rfl,rfl⟩
theorem Nz(g:aj)(H:aH g)(G:bC g):∀ f,Ko g f
 |0=>zed g
 |f+1=>zee g H G f (Nz g H G f)
end Go.V
namespace Go.V
open Go Go.Proofs Tryz
def uj(g:aj)(x:yM)(a:List aG)(_:List Int):yM×Bool:=xM xl (x,true) (qI g a.length a 0)
def j5(g:aj)(x:yM):List (Nat×am):=[(2,.box 36 (zj g.d)),(3,.box 272 [.fn 269 [.bp 4 0,.bp 5 0]]),(4,.box 241 [.ar 6]),(5,.box 4 [.d (.bool x.2)]),(6,.aQ 39 1 (x.1.map λa=>[zh a]))]
theorem zrm(g:aj)(H:aH g)(G:bC g)(w:List Int)(tr:List (List Int))(x:yM)(F:iw x)(a:List aG)(E:a.length<=4)(ai:List Int):
  aU prog 272 [.d (zh a),.d (aa ai),.bp 2 0,.bp 3 0] (zB g w tr (.fn 272 [.bp 2 0,.bp 3 0]) (j5 g x)) 7
   (.d (.bool (uj g x a ai).2)) 7 (zB g w tr (.fn 272 [.bp 2 0,.bp 3 0]) (j5 g (uj g x a ai).1)) [6]:=by
 have K:=Nz g H G a.length x a 0 F E (by omega)
 unfold uj
 generalize xM xl (x,true) (qI g a.length a 0)=z at K
 obtain⟨⟨o2,f2⟩,b2⟩:=z
 obtain⟨out,fA⟩:=x
 refine dd func272 (by simp[ah.a_,ah.lo]) ?_
 simp+decide[f272,zB,j5,zj,aj.d,int,aa,u32,zh]
 refine zE.mut [4,5,6] [.d g.d,.d (zh a),.d (int 0),.fn 269 [.bp 0 0,.bp 1 0]] (xK (out,fA)) (by rfl) (by simp[yf,cg,ce,aj.d,int,aa,zh]) (by simp) ?_ K ?_
 .simp[cV,jC,xK,St.ay,zc,vE,yf,cg,ce,int,List.range,List.range.loop,zh]
 simp+decide[zB,j5,xK,zj,aj.d,int,aa,u32,zh]
theorem zos(g:aj)(x:yM):bO 7 (.fn 272 [.bp 2 0,.bp 3 0]) (j5 g x) where
 la:=by omega
 bB:=by simp[j5]
 aD i o h:=by
  simp only[j5,nE,pw,rD] at h;rcases h with h | h | h | h | h <;> (cases h;simp[am.lo,ah.a_,ah.lo,zj,aj.d])
 range:=rfl
 lA k x h:=by
  have H:¬(2=k):=by omega
  have G:¬(3=k):=by omega
  have F:¬(4=k):=by omega
  have E:¬(5=k):=by omega
  have K:¬(6=k):=by omega
  simp[j5,qw,Zz,xZ,bX,H,G,F,E,K,zj,aj.d]
 mS k x h:=by simp[bX]
 fn:=by simp[ah.lo,ah.a_]
theorem zot{g:aj}{x:yM}{a:List aG}{ai:List Int}(h:iw x)(H:a.length<=4):iw (uj g x a ai).1:=
 Dy _ _ h λq hq=>by rw[Dz g _ _ _ q hq];exact H
def Kp(g:aj)(hg:aH g)(hc:bC g)(w:List Int):iH prog g w yM where
 F:=uj g
 aC:=j5 g
 dU:=272
 aJ:=[.bp 2 0,.bp 3 0]
 n:=7
 mv:=[6]
 hJ i h:=by rw[nQ] at h;omega
 iV:=by simp[qX,zQ]
 fj _ x:=iw x
 ok:=zos g
 mono _ _ h:=h
 call k x tr a ai hI hk ha hb:=⟨zrm g hg hc w tr x hI a ha ai,zot hI ha⟩
theorem zkp(g:aj)(V:aH g)(X:bC g)(w:List Int)(Y:w.length<=30) :
  aU prog 271 [.d g.d,.d (aa w),.fn 272 [.bp 0 0,.bp 1 0]] ([(0,.box 36 (zj g.d)),(1,.box 272 [.fn 269 [.bp 2 0,.bp 3 0]]),(2,.box 241 [.ar 4]),(3,.box 4 [.d (.bool (([],false):yM).2)]),(4,.aQ 39 1 ((([],false):yM).1.map λa=>[zh a]))]) 5
   (.bE []) 5 ([(0,.box 36 (zj g.d)),(1,.box 272 [.fn 269 [.bp 2 0,.bp 3 0]]),(2,.box 241 [.ar 4]),(3,.box 4 [.d (.bool (sF (uj g) (([],false),true) ((yY g w).map λb=>(b,zM g.aM b))).1.2)]),(4,.aQ 39 1 ((sF (uj g) (([],false),true) ((yY g w).map λb=>(b,zM g.aM b))).1.1.map λa=>[zh a]))]) [4]:=by
 refine dd func271 (by simp[ah.a_,ah.lo]) ?_
 by_cases Z:w.length=0
 .have F:(w.length:Int)=0:=by omega
  simp+decide[f271,zj,aj.d,int,aa,u32,Z,F,yY,sF,j5];done
 have F:¬(w.length:Int)=0:=by omega
 by_cases A:24<w.length
 .have E:(24:Int)<w.length:=by omega
  simp+decide[f271,zj,aj.d,int,aa,u32,Z,F,A,E,yY,sF,j5];done
 have E:¬(24:Int)<w.length:=by omega
 simp+decide[f271,zj,aj.d,int,aa,u32,Z,F,A,E,j5]
 have B:=(V.kJ X).ba
 have M:=AZ g.ba (by have:=B.2;omega) (λr C=>by have A:=(B.1 r C).dst;have I:=(B.1 r C).bl;omega)
 refine zt7 mixed 7 [] (by rfl) (by rfl) (by rfl) (by rfl) (by rfl) ?_
 simp+decide[zj,aj.d,int,aa,u32]
 refine bw M ?_
 simp+decide[zj,aj.d,int,aa,u32]
 refine⟨by rfl,?_⟩
 have N:=V.j3.ok.2.1
 have T:g.bM.aS.length<2^40:=V.j3.ll
 refine xP (λk:Nat=>{n:=46,next:=8,af:=[(6,.bp 7 0),(28,.d (aa g.bM.aS)),(29,.d (int g.bM.aS.length)),(30,.d (int k))],own:=((7,.box 327 (zj g.d++[.d (aa w),.d (.bool (gn g.ba)),.d (u32 (yg (g.bM.aS.take k))),.mp 6,.fn 272 [.bp 0 0,.bp 1 0]]))::(6,.map 325 [])::[(0,.box 36 (zj g.d)),(1,.box 272 [.fn 269 [.bp 2 0,.bp 3 0]]),(2,.box 241 [.ar 4]),(3,.box 4 [.d (.bool (([],false):yM).2)]),(4,.aQ 39 1 ((([],false):yM).1.map λa=>[zh a]))]),ai:=5}) g.bM.aS.length ?_ ?_
 .simp+decide[zj,aj.d,int,aa,u32,yg,j5]
 intro k P
 by_cases H:k<g.bM.aS.length
 .have G:=bG H
  have aI:yg (g.bM.aS.take (k+1))=qC (yg (g.bM.aS.take k)) g.bM.aS[k]:=by unfold yg;rw[yh H,oI];rfl
  have K:yg (g.bM.aS.take k)<8:=YF _ 0 (λx S=>N x (oh S)) (by omega)
  have W:=N g.bM.aS[k] (nF H);obtain⟨c,ec,e1⟩:=bN H;rw[ec] at aI W;generalize yg (g.bM.aS.take k)=mm at aI K;have O:=G9 K W.1 (show c<3 by omega)
  refine cy ?_
  simp+decide[zj,aj.d,int,aa,u32,H,G,e1,ec,aB,j5];refine Z8 mixed 9 [7] (by rfl) (by rfl) (by rfl) (by rfl) (by simp) ?_
  simp+decide[zj,aj.d,int,aa,u32,H,G,e1,ec,aB];exact⟨W.1,by omega,k+1,H,by omega,by omega,by rw[aI];exact O⟩
 obtain rfl:k=g.bM.aS.length:=by omega
 rw[nH]
 refine cy ?_
 simp+decide[zj,aj.d,int,aa,u32,j5]
 have J:=lm ((Nl g V X w (by omega) (Kp g V X w) 4).call 0 (([],false):yM) [] [] 1 [] ⟨nU _,λb hb=>by cases hb⟩ (by decide) (λ_ h=>by cases h) rfl (by omega) (by simp) (λ_ h=>by cases h))
 have L:=zeb V Z (by omega) (Kp g V X w) (([],false):yM)
 generalize zY g w (Kp g V X w) 4 ((([],false):yM),[]) [] 1 []=z at J L
 obtain⟨⟨zx,zt⟩,zb⟩:=z
 have Q:(sF (uj g) ((([],false):yM),true) ((yY g w).map λb=>(b,zM g.aM b))).1=zx:=by
  have:=congrArg Prod.fst L;exact this.symm
 refine zE.mut [7,6,0,1,2,3,4] [.bp 0 0,.aW,.d (u32 1),.aW] (zB g w [] (.fn 272 [.bp 2 0,.bp 3 0]) (j5 g (([],false):yM))) (by rfl) (by simp[yf,cg,ce,u32]) (by simp) ?_ J ?_
 .simp[cV,jC,zB,j5,St.ay,zc,vE,yf,cg,ce,zj,aj.d,Y9,int,aa,u32,List.range,List.range.loop]
 simp+decide[zB,zj,aj.d,int,aa,u32,Q,Kp,j5]
def J2(g:aj)(w:List Int):yM:=(sF (uj g) (([],false),true) ((yY g w).map λb=>(b,zM g.aM b))).1
def yU(g:aj)(w:List Int):List (List aG)×Int:=if vy g.inv w≠0 then ([],vy g.inv w) else if (J2 g w).2=true then ([],11) else ((J2 g w).1,0)
theorem zou(g:aj)(G:aH g)(F:bC g)(w:List Int)(E:w.length<=30):aq prog 239 [g.d,aa w] (.bE [zG (yU g w).1,int (yU g w).2]):=by
 have K:=zkp g G F w E
 have J:=zrk g.inv w (by omega)
 unfold yU
 rw[show(sF (uj g) (([],false),true) ((yY g w).map λb=>(b,zM g.aM b))).1=J2 g w from rfl] at K
 generalize J2 g w=z at K
 obtain⟨out,fA⟩:=z
 refine BR func239 rfl mT ?_
 by_cases H:vy g.inv w=0
 case neg=>
  refine cy ?_
  simp+decide[f239,zj,aj.d,int,aa,H];refine zg J ?_
  simp+decide[int,aa,H,zG]
 rw[H] at J
 refine jb mixed 5 {n:=24,next:=5,af:=[(1,.d (aa w)),(2,.bp 0 0),(7,.bp 2 0),(8,.bp 3 0),(9,.bp 4 0)],own:=[(0,.box 36 (zj g.d)),(2,.box 241 [.aW]),(3,.box 4 [.d (.bool false)]),(4,.box 272 [.fn 269 [.bp 2 0,.bp 3 0]])]} rfl ?_ ?_
 .simp+decide[f239,yo,qL,zj,aj.d,int,aa]
  refine zg J ?_
  simp+decide[int,aa,H,zG,yo,qL]
 simp only[yK]
 refine FY 2 0 39 1 (T:=241) (l:=[.aW]) rfl rfl ?_
 refine cy ?_
 simp+decide[f239,zj,aj.d,int,aa,St.new,St.set,zT]
 refine zE.mut [0,4,2,3,5] [.d g.d,.d (aa w),.fn 272 [.bp 0 0,.bp 1 0]] ([(0,.box 36 (zj g.d)),(1,.box 272 [.fn 269 [.bp 2 0,.bp 3 0]]),(2,.box 241 [.ar 4]),(3,.box 4 [.d (.bool (([],false):yM).2)]),(4,.aQ 39 1 ((([],false):yM).1.map λa=>[zh a]))]) (by rfl) (by simp[yf,cg,ce,aj.d,int,aa]) (by simp) ?_ K ?_
 .simp[cV,jC,St.ay,zc,vE,yf,cg,ce,int,List.range,List.range.loop,zj,aj.d,aa]
 cases fA with
 |true=>
  simp+decide[int,aa,zG,H]
 |false=>
  simp+decide[int,aa,zG,H]
end Go.V
namespace Go.V
open Go Go.Proofs Tryz
def fq(g:aj)(w:List Int):List (List aG):=(yY g w).flatMap λa=>qI g a.length a 0
theorem NA(g:aj):∀ (l:List (List aG)) (f:List aG->List Int) (z:yM×Bool),sF (uj g) z (l.map λb=>(b,f b))=xM xl z (l.flatMap λa=>qI g a.length a 0)
 | [],f,z=>rfl
 |a::l,f,z=>by
  rw[nK,K5,pz,K9];by_cases h:z.2=false
  .rw[gt h,J1 h,J1 h]
  .rw[ge h,NA g l f]
   have H:z.2=true:=by simpa using h
   unfold uj;obtain⟨x,b⟩:=z;simp only at H
   subst H;rfl
theorem NC:∀ (l:List (List aG)) (out:List (List aG)) (b:Bool),out.length+l.length<=200->xM xl ((out,b),true) l=((l.foldl (λo a=>dE (λx=>zP a x) a o) out,b),true)
 | [],_,_,_=>rfl
 |a::l,out,b,h=>by
  rw[nP] at h;have e:xl (out,b) a=((dE (λx=>zP a x) a out,b),true):=by
   unfold xl;rw[ge (by show ¬out.length=200;omega)]
  rw[Qe,ge (by simp),oK,e]
  exact NC l _ b (by rw[J0];omega)
theorem ND:∀ (l:List (List aG)) (out:List (List aG)) (b:Bool),out.length<=200->200<out.length+l.length->(xM xl ((out,b),true) l).1.2=true
 | [],out,b,h,h'=>by rw[pc] at h';omega
 |a::l,out,b,h,h'=>by
  rw[nP] at h';rw[Qe,ge (by simp)]
  by_cases e:out.length=200
  .have e1:xl (out,b) a=((out,true),false):=by unfold xl;rw[gt e]
   rw[e1,J1 rfl]
  .have e1:xl (out,b) a=((dE (λx=>zP a x) a out,b),true):=by unfold xl;rw[ge e]
   rw[e1];exact ND l _ b (by rw[J0];omega) (by rw[J0];omega)
def jo(l:List (List aG)):List (List aG):=l.foldl (λo a=>dE (λx=>zP a x) a o) []
theorem NF(g:aj)(w:List Int):yU g w=if vy g.inv w≠0 then ([],vy g.inv w) else if 200<(fq g w).length then ([],11) else (jo (fq g w),0):=by
 unfold yU J2
 rw[NA,show(yY g w).flatMap (λa=>qI g a.length a 0)=fq g w from rfl]
 by_cases H:vy g.inv w≠0
 .rw[gt H,gt H]
 rw[ge H,ge H]
 by_cases h:200<(fq g w).length
 .rw[gt h,gt (ND _ _ _ (by simp) (by simpa using h))]
 .rw[ge h,NC _ _ _ (by simp;omega),ge (by simp)]
  rfl
theorem Kq{a b:aG}:qp a b=true↔a.entry<b.entry\/(a.entry=b.entry/\(a.bf<b.bf\/(a.bf=b.bf/\a.bu<b.bu))):=by
 unfold qp
 by_cases H:a.entry=b.entry
 .rw[gt H]
  by_cases G:a.bf=b.bf
  .rw[gt G,nD];omega
  .rw[ge G,nD];omega
 .rw[ge H,nD];omega
theorem aG.ext'{a b:aG}(H:a.entry=b.entry)(G:a.bf=b.bf)(F:a.bu=b.bu):a=b:=by
 cases a;cases b;simp only at H G F;rw[H,G,F]
theorem zkq(a:aG):qp a a=false:=by
 cases h:qp a a with
 |false=>rfl
 |true=>rw[Kq] at h;omega
theorem zef{a b c:aG}(H:qp a b=true)(G:qp b c=true):qp a c=true:=by
 rw[Kq] at H G ⊢;omega
theorem zkr{a b:aG}(h:a≠b):qp a b=true\/qp b a=true:=by
 rw[Kq,Kq]
 have:¬(a.entry=b.entry/\a.bf=b.bf/\a.bu=b.bu):=λ⟨H,G,F⟩=>h (aG.ext' H G F)
 omega
theorem Kr{a b:aG}{l m:List aG}:zP (a::l) (b::m)=if a=b then zP l m else qp a b:=rfl
theorem NG:∀ l:List aG,zP l l=false
 | []=>rfl
 |a::l=>by rw[Kr,gt rfl];exact NG l
theorem DC:∀ {a b c:List aG},zP a b=true->zP b c=true->zP a c=true
 | [],[],_,h,_=>by simp[zP] at h
 | [],_::_,[],_,h=>by simp[zP] at h
 | [],_::_,_::_,_,_=>rfl
 |_::_,[],_,h,_=>by simp[zP] at h
 |_::_,_::_,[],_,h=>by simp[zP] at h
 |a::l,b::m,c::n,H,G=>by
  rw[Kr] at H G ⊢;by_cases e1:a=b
  .subst e1
   rw[gt rfl] at H;by_cases e2:a=c
   .subst e2
    rw[gt rfl] at G ⊢;exact DC H G
   .rw[ge e2] at G ⊢;exact G
  .rw[ge e1] at H
   by_cases e2:b=c
   .subst e2
    rw[ge e1];exact H
   .rw[ge e2] at G
    have F:=zef H G;by_cases e3:a=c
    .subst e3;rw[zkq] at F;cases F
    .rw[ge e3];exact F
theorem NH:∀ {a b:List aG},a≠b->zP a b=true\/zP b a=true
 | [],[],h=>absurd rfl h
 | [],_::_,_=>.inl rfl
 |_::_,[],_=>.inr rfl
 |a::l,b::m,h=>by
  rw[Kr,Kr];by_cases e:a=b
  .subst e
   rw[gt rfl,gt rfl];exact NH λe=>h (by rw[e])
  .rw[ge e,ge (λe'=>e e'.symm)]
   exact zkr e
section
variable {α:Type}
theorem NI{lt:α->Bool}{l:List α}:∀ n,n<=l.length->(∀ i,qq lt l n<=i->i<n->∀ h:i<l.length,lt l[i]=true)/\(∀ h:0<qq lt l n,∃ H:qq lt l n-1<l.length,lt l[qq lt l n-1]=false)
 |0,_=>⟨λi _ h=>absurd h (by omega),λh=>absurd h (by simp[qq])⟩
 |n+1,hn=>by
  have ih:=NI (lt:=lt) (l:=l) n (by omega)
  have e1:l[n]?=some l[n]:=ac (by omega)
  by_cases c:lt l[n]=true
  .have e2:qq lt l (n+1)=qq lt l n:=by rw[qq,e1];simp only;rw[gt c]
   rw[e2];refine⟨λi G F h=>?_,ih.2⟩
   by_cases e:i=n
   .subst e;exact c
   .exact ih.1 i G (by omega) h
  .have e2:qq lt l (n+1)=n+1:=by rw[qq,e1];simp only;rw[ge c]
   rw[e2];refine⟨λi G F h=>by omega,λ_=>⟨by omega,?_⟩⟩
   show lt l[n+1-1]=false
   simpa using c
theorem zeg{lt:α->α->Bool}(tr:∀ {a b c},lt a b=true->lt b c=true->lt a c=true)(mG:∀ {a b},a≠b->lt a b=true\/lt b a=true){x:α}{l:List α}
  (hs:l.Pairwise λa b=>lt a b=true) (L:x∉l):(dE (λo=>lt x o) x l).Pairwise λa b=>lt a b=true:=by
 have H:=NI (lt:=λo=>lt x o) (l:=l) l.length (nJ _)
 have E:=Dx (λo=>lt x o) l l.length
 unfold dE
 generalize qq (λo=>lt x o) l l.length=p at H E
 have G:∀ b∈l.drop p,lt x b=true:=by
  intro b M;obtain⟨i,hi,e⟩:=nT.1 M;rw[oO] at hi;rw[rm] at e;have:=H.1 (p+i) (by omega) (by omega) (by omega)
  rw[<-e];exact this
 have F:∀ a∈l.take p,lt a x=true:=by
  intro a O;obtain⟨i,hi,e⟩:=oG.1 O;have Q:0<p:=by omega
  obtain⟨T,V⟩:=H.2 Q;have K:l[p-1]≠x:=λe=>L (e▸nF T)
  have X:lt l[p-1] x=true:=by
   rcases mG K with h | h
   .exact h
   .rw[h] at V;cases V
  rw[<-e];by_cases J:i=p-1
  .subst J;exact X
  .exact tr (od.1 hs i (p-1) (by omega) T (by omega)) X
 rw[pZ]
 refine⟨hs.sublist (sH _ _),pM.2 ⟨G,hs.sublist (th _ _)⟩,λa O b M=>?_⟩
 rcases nE.1 M with e | e
 .rw[e];exact F a O
 .exact tr (F a O) (G b e)
end
theorem NJ{a:List aG}:∀ (l out:List (List aG)),a∈l.foldl (λo a=>dE (λx=>zP a x) a o) out↔a∈l\/a∈out
 | [],out=>by simp
 |b::l,out=>by
  rw[oK,NJ l,Ye,nE];constructor
  .rintro(h | h | h)
   .exact .inl (.inr h)
   .exact .inl (.inl h)
   .exact .inr h
  .rintro((h | h) | h)
   .exact .inr (.inl h)
   .exact .inl h
   .exact .inr (.inr h)
theorem Qf{a:List aG}{l:List (List aG)}:a∈jo l↔a∈l:=by unfold jo;rw[NJ];simp
theorem NK:∀ (l out:List (List aG)),(out.Pairwise λa b=>zP a b=true)->l.Nodup->(∀ a∈l,a∉out)->(l.foldl (λo a=>dE (λx=>zP a x) a o) out).Pairwise λa b=>zP a b=true
 | [],out,h,_,_=>h
 |b::l,out,h,H,G=>by
  rw[oE] at H;rw[oK];refine NK l _ (zeg (lt:=zP) DC NH h (G b (nL ..))) H.2 λa F E=>?_
  rcases Ye.1 E with e | e
  .subst e;exact H.1 F
  .exact G a (nG _ F) e
theorem DD{l:List (List aG)}(h:l.Nodup):(jo l).Pairwise λa b=>zP a b=true:=NK l [] List.Pairwise.nil h λ_ _ h=>by cases h
theorem NL:∀ (l out:List (List aG)),(l.foldl (λo a=>dE (λx=>zP a x) a o) out).length=out.length+l.length
 | [],out=>rfl
 |b::l,out=>by rw[oK,NL l,J0,nP];omega
theorem NN(l:List (List aG)):(jo l).length=l.length:=by unfold jo;rw[NL];simp
def wz(g:aj):List aG->List (List aG)
 | []=>[[]]
 |p::ps=>(List.range (xg g.aM p.entry).length).flatMap λ(k:Nat)=>(wz g ps).map λt=>(⟨p.entry,p.bf,k⟩:aG)::t
theorem NP(g:aj):∀ (f:Nat) (p:List aG) (i:Nat),i+f=p.length->qI g f p i=(wz g (p.drop i)).map λt=>p.take i++t
 |0,p,i,h=>by
  rw[qI,pJ (by omega),oa (by omega)]
  simp[wz]
 |f+1,p,i,h=>by
  have hi:i<p.length:=by omega
  have eg:p.getD i ⟨0,0,0⟩=p[i]:=by rw[ot,ac hi];rfl
  rw[qI,eg,nY hi,wz,xL];refine VV λk _=>?_
  rw[NP g f _ (i+1) (by rw[rS];omega),rW]
  have e1:(p.set i ⟨p[i].entry,p[i].bf,(k:Int)⟩).drop (i+1)=p.drop (i+1):=by rw[List.drop_set];rw[gt (by omega)]
  have e2:(p.set i ⟨p[i].entry,p[i].bf,(k:Int)⟩).take (i+1)=p.take i++[⟨p[i].entry,p[i].bf,(k:Int)⟩]:=by
   rw[nX (by rw[rS];exact hi),Bb,List.take_set_of_le (by omega)]
  rw[e1,e2];congr 1
  funext t
  simp
theorem zov(g:aj)(a:List aG):qI g a.length a 0=wz g a:=by
 rw[NP g a.length a 0 (by omega)]
 simp
def cM(g:aj):List aG->List aG->Prop
 | [],[]=>True
 |p::ps,q::qs=>(q.entry=p.entry/\q.bf=p.bf/\0<=q.bu/\q.bu<(xg g.aM p.entry).length)/\cM g ps qs
 |_,_=>False
theorem Qg(g:aj):∀ {a q:List aG},q∈wz g a↔cM g a q
 | [],q=>by
  rw[wz,nQ];cases q with
  |nil=>simp[cM]
  |cons _ _=>simp[cM]
 |p::ps,q=>by
  rw[wz,po];constructor
  .rintro⟨k,H,h⟩
   obtain⟨t,G,rfl⟩:=nS.1 h;have:=oc.1 H
   exact⟨⟨rfl,rfl,by show(0:Int)<=(k:Int);omega,by show(k:Int)<_;omega⟩,(Qg g).1 G⟩
  .intro h
   cases q with
   |nil=>simp[cM] at h
   |cons x t=>
    obtain⟨⟨F,E,K,J⟩,L⟩:=h;refine⟨x.bu.toNat,oc.2 (by omega),nS.2 ⟨t,(Qg g).2 L,?_⟩⟩
    congr 1
    exact aG.ext' F.symm E.symm (by show((x.bu.toNat:Nat):Int)=x.bu;omega)
theorem NQ(g:aj):∀ a:List aG,(wz g a).Nodup
 | []=>by rw[wz];simp
 |p::ps=>by
  have ih:=NQ g ps;rw[wz];unfold List.Nodup at ih ⊢;rw[rb];refine⟨λk _=>?_,?_⟩
  .rw[rq]
   exact ih.imp λh e=>h (rJ e).2
  .refine wN ?_ AF
   intro i j H x G y F e;obtain⟨t,_,rfl⟩:=nS.1 G;obtain⟨u,_,rfl⟩:=nS.1 F;have:=(rJ e).1
   have:=congrArg aG.bu this
   simp only at this
   omega
def bare(a:List aG):List aG:=a.map λp=>⟨p.entry,p.bf,0⟩
theorem Xb{g:aj}:∀ {a q:List aG},cM g a q->bare q=bare a
 | [],[],_=>rfl
 | [],_::_,h=>h.elim
 |_::_,[],h=>h.elim
 |p::ps,q::qs,h=>by
  obtain⟨⟨H,G,_⟩,F⟩:=h;have:=Xb F
  unfold bare at this ⊢;rw[nK,nK,this,H,G]
theorem zrn{a:List aG}(h:∀ p∈a,p.bu=0):bare a=a:=by
 unfold bare
 conv=>rhs;rw[<-List.map_id a]
 refine pD λp H=>?_
 exact aG.ext' rfl rfl (h p H).symm
end Go.V
namespace Go.V
open Go Go.Proofs Tryz
def gW(g:aj)(p:aG):Prop:=∃ e∈g.aM,p.entry=e.id/\p.bu=0/\∃ bf:Nat,bf<e.aK.length/\p.bf=bf
theorem gW.ok{g:aj}(H:aH g){p:aG}(h:gW g p):∃ e∈g.aM,∃ bf:Nat,bf<e.aK.length/\p=⟨e.id,bf,0⟩:=by
 obtain⟨e,G,F,E,bf,K,J⟩:=h
 exact⟨e,G,bf,K,aG.ext' F J E⟩
theorem Ks{g:aj}{w:List Int}:∀ (f:Nat) (a b:List aG),b∈qn g w f a->∃ t,b=a++t/\t≠[]/\t.length<=f/\(∀ p∈t,gW g p)/\gV g w b=true
 |0,a,b,h=>by simp[qn] at h
 |f+1,a,b,h=>by
  unfold qn at h;rw[po] at h;obtain⟨e,G,h⟩:=h;split at h
  .rw[po] at h
   obtain⟨bf,F,h⟩:=h;have F:=oc.1 F;have E:gW g ⟨e.id,(bf:Int),0⟩:=⟨e,G,rfl,rfl,bf,F,rfl⟩
   split at h
   .cases h
   .rcases nM.1 h with h | h
    .split at h
     .rename_i K
      rw[nQ] at h;subst h;exact⟨[⟨e.id,(bf:Int),0⟩],rfl,by simp,by simp,(by intro p H;rw[nQ] at H;rw[H];exact E),K⟩
     .cases h
    .obtain⟨t,rfl,J,L,M,O⟩:=Ks f _ b h
     exact⟨⟨e.id,(bf:Int),0⟩::t,by simp,by simp,by simp;omega,(λp Q=>(nE.1 Q).elim (λe=>e▸E) (M p)),O⟩
  .cases h
theorem zks{g:aj}(G:aH g):g.aM.Pairwise λe e'=>e.id<e'.id:=by
 rw[od]
 intro i j hi hj H
 have:=iY G.aM.up (j-i-1) i (by omega)
 simpa[show i+(j-i-1)+1=j by omega] using this
theorem Kt{g:aj}{w:List Int}{f:Nat}{a x:List aG}{p:aG}(h:x∈(if xx g w<(zM g.aM (a++[p])).length then [] else (if gV g w (a++[p])=true then [a++[p]] else [])++qn g w f (a++[p]))):∃ t,x=a++p::t:=by
 split at h
 .cases h
 .rcases nM.1 h with h | h
  .split at h
   .rw[nQ] at h;exact⟨[],h⟩
   .cases h
  .obtain⟨t,e,_⟩:=Ks f _ x h
   exact⟨t,by rw[e];simp⟩
theorem NR{g:aj}(F:aH g)(w:List Int):∀ (f:Nat) (a:List aG),(qn g w f a).Nodup
 |0,_=>by simp[qn]
 |f+1,a=>by
  unfold qn List.Nodup;rw[rb];refine⟨λe he=>?_,?_⟩
  .split
   .rw[rb]
    refine⟨λbf ha=>?_,?_⟩
    .split
     .exact List.Pairwise.nil
     .rw[pZ]
      refine⟨by split <;> simp,NR F w f _,λx E y K e=>?_⟩
      subst e;obtain⟨t,e,J,_⟩:=Ks f _ x K;split at E
      .rw[nQ] at E
       rw[E] at e;have:=congrArg List.length e
       simp only[nO,nP,pc] at this;exact J (pN.1 (by omega))
      .cases E
    .refine wN ?_ AF
     intro i j H x E y K e;obtain⟨t,rfl⟩:=Kt E;obtain⟨u,rfl⟩:=Kt K;have:=(rJ (xS e)).1
     have:=congrArg aG.bf this
     simp only at this
     omega
   .exact List.Pairwise.nil
  .refine wN ?_ (zks F)
   intro e e' G x E y K heq;split at E
   .split at K
    .rw[po] at E K
     obtain⟨_,_,E⟩:=E;obtain⟨_,_,K⟩:=K;obtain⟨t,rfl⟩:=Kt E;obtain⟨u,rfl⟩:=Kt K;have:=(rJ (xS heq)).1
     have:=congrArg aG.entry this
     simp only at this
     omega
    .cases K
   .cases E
structure gH(g:aj)(w:List Int)(b:List aG):Prop where
 pos:b≠[]
 len:b.length<=4
 parts:∀ p∈b,gW g p
 ng:jh g w b=true
theorem wV{g:aj}{w:List Int}{b:List aG}(h:b∈yY g w):gH g w b:=by
 unfold yY at h
 split at h
 .cases h
 .obtain⟨t,rfl,H,G,F,E⟩:=Ks 4 [] b h
  unfold gV at E;rw[nI] at E;exact⟨H,G,F,E.2⟩
theorem NS{g:aj}(H:aH g)(w:List Int):(yY g w).Nodup:=by
 unfold yY
 split
 .simp
 .exact NR H w 4 []
theorem gH.bare{g:aj}{w:List Int}{b:List aG}(h:gH g w b):bare b=b:=zrn λp H=>by obtain⟨_,_,_,G,_⟩:=h.parts p H;exact G
theorem DF(g:aj)(w:List Int):fq g w=(yY g w).flatMap (wz g):=by
 unfold fq
 refine VV λa _=>?_
 rw[zov]
theorem Ku{g:aj}{w:List Int}{q:List aG}:q∈fq g w↔∃ a∈yY g w,cM g a q:=by
 rw[DF,po]
 constructor
 .rintro⟨a,H,G⟩;exact⟨a,H,(Qg g).1 G⟩
 .rintro⟨a,H,G⟩;exact⟨a,H,(Qg g).2 G⟩
theorem NT{g:aj}(G:aH g)(w:List Int):(fq g w).Nodup:=by
 rw[DF]
 unfold List.Nodup
 rw[rb]
 refine⟨λa _=>NQ g a,s_ ?_ (NS G w)⟩
 intro a b F E H x K y J e
 subst e
 have L:=Xb ((Qg g).1 K)
 have M:=Xb ((Qg g).1 J)
 rw[(wV F).bare] at L
 rw[(wV E).bare] at M
 exact H (L.symm.trans M)
theorem DG{g:aj}:∀ {a q:List aG},cM g a q->q.length=a.length
 | [],[],_=>rfl
 | [],_::_,h=>h.elim
 |_::_,[],h=>h.elim
 |p::ps,q::qs,h=>by rw[nP,nP,DG h.2]
theorem NU(l:List aP)(a:List aG):yu l (bare a)=yu l a:=by
 unfold yu bare
 rw[List.flatMap_map]
 rfl
theorem NV(l:List aP)(a:List aG):zM l (bare a)=zM l a:=by
 unfold zM bare
 rw[List.flatMap_map]
 rfl
theorem NW{g:aj}{a q:List aG}(h:cM g a q):zM g.aM q=zM g.aM a:=by rw[<-NV,Xb h,NV]
theorem zar{g:aj}{a q:List aG}(h:cM g a q):yu g.aM q=yu g.aM a:=by rw[<-NU,Xb h,NU]
theorem NY{g:aj}(G:aH g):∀ {a q:List aG},cM g a q->(∀ p∈a,gW g p)->∀ p∈q,qE g.aM p=0
 | [],[],_,_,p,hp=>by cases hp
 | [],_::_,h,_,_,_=>h.elim
 |_::_,[],h,_,_,_=>h.elim
 |p::ps,q::qs,h,F,x,E=>by
  rcases nE.1 E with e | E
  .subst e
   obtain⟨⟨K,J,L,M⟩,_⟩:=h;obtain⟨e,O,bf,Q,rfl⟩:=(F p (nL ..)).ok G;simp only at K J M
   have T:=VW G O Q;have H:qD g.aM x=(e,e.aK[bf]?.getD [],true):=by
    obtain⟨x1,x2,x3⟩:=x;simp only at K J
    subst K;subst J;exact T
   unfold qE;rw[H,K,WY G.aM.up O];simp only[rQ,oU];rw[ge (by omega)]
  .exact NY G h.2 (λy V=>F y (nG _ V)) x E
theorem zeh{g:aj}(H:aH g){a:List aG}(h:∀ p∈a,gW g p):∀ p∈a,qE g.aM p=0:=by
 intro p G
 obtain⟨e,F,bf,E,rfl⟩:=(h p G).ok H
 exact Dk H F E
theorem zei{g:aj}(H:aH g){a q:List aG}(h:cM g a q)(G:∀ p∈a,gW g p):qj g q=qj g a:=by
 have F:=WZ (NY H h G)
 have E:=WZ (zeh H G)
 unfold qj qF
 rw[DG h,NW h,zar h,F,E]
theorem zkt{g:aj}(H:aH g){w:List Int}{q:List aG}(h:q∈fq g w):(qj g q).2=0/\(qj g q).1=w/\q.length<=4:=by
 obtain⟨a,G,F⟩:=Ku.1 h
 have E:=wV G
 rw[zei H F E.parts,DG F]
 have:=E.ng
 unfold jh at this
 rw[nD] at this
 exact⟨this.1,this.2,E.len⟩
theorem NZ{g:aj}(H:aH g):∀ {a:List aG},(∀ p∈a,gW g p)->cM g a a
 | [],_=>trivial
 |p::ps,h=>by
  refine⟨?_,NZ H λx G=>h x (nG _ G)⟩
  obtain⟨e,F,bf,E,rfl⟩:=(h p (nL ..)).ok H;have hs:0<(xg g.aM e.id).length:=r_.2 (H.aL F)
  exact⟨rfl,rfl,wx _,by show(0:Int)<((xg g.aM e.id).length:Int);omega⟩
theorem DI{g:aj}(H:aH g):∀ {a:List aG},(∀ p∈a,gW g p)->ym (zM g.aM a)
 | [],_=>λx G=>by cases G
 |p::ps,h=>by
  have ih:=DI H λx G=>h x (nG _ G)
  obtain⟨e,F,bf,E,rfl⟩:=(h p (nL ..)).ok H;have:zM g.aM (⟨e.id,(bf:Int),0⟩::ps)=e.aK[bf]?.getD []++zM g.aM ps:=by
   unfold zM;rw[pz,VW H F E];rfl
  rw[this];refine ym.fC ?_ ih
  rw[ac E];exact N8 H F (nF E)
structure mV(x:K6):Prop where
 seen:∀ k∈x.1,∃ b∈x.2,dw b=k
theorem DJ(f:List aG->List Int):∀ (l:List (List aG)) (x:K6),mV x->mV (sF uT (x,true) (l.map λb=>(b,f b))).1 /\
  (∀ b∈(sF uT (x,true) (l.map λb=>(b,f b))).1.2,b∈x.2\/∃ a∈l,f a=b)/\(∀ b∈x.2,b∈(sF uT (x,true) (l.map λb=>(b,f b))).1.2) /\
  ∀ a∈l,∃ b∈(sF uT (x,true) (l.map λb=>(b,f b))).1.2,dw b=dw (f a)
 | [],x,h=>⟨h,λb H=>.inl H,λb H=>H,λa G=>by cases G⟩
 |a::l,x,h=>by
  rw[nK,K5,ge (by simp)]
  have F:uT x a (f a)=((uT x a (f a)).1,true):=rfl
  rw[F];by_cases E:dw (f a)∈x.1
  .have e:(uT x a (f a)).1=x:=by unfold uT;rw[gt E]
   rw[e];obtain⟨i1,i2,i3,i4⟩:=DJ f l x h;refine⟨i1,λb H=>(i2 b H).imp id λ⟨c,K,e⟩=>⟨c,nG _ K,e⟩,i3,λc K=>?_⟩
   rcases nE.1 K with e2 | K
   .subst e2
    obtain⟨b,H,e3⟩:=h.seen _ E;exact⟨b,i3 b H,e3⟩
   .exact i4 c K
  .have e:(uT x a (f a)).1=(x.1++[dw (f a)],dE (λo=>W7 (f a) o) (f a) x.2):=by unfold uT;rw[ge E]
   rw[e];obtain⟨i1,i2,i3,i4⟩:=DJ f l (x.1++[dw (f a)],dE (λo=>W7 (f a) o) (f a) x.2) ⟨λk J=>by
    rcases nM.1 J with J | J
    .obtain⟨b,H,e⟩:=h.seen k J
     exact⟨b,Ye.2 (.inr H),e⟩
    .rw[nQ] at J
     exact⟨f a,Ye.2 (.inl rfl),J.symm⟩⟩
   refine⟨i1,λb H=>?_,λb H=>i3 b (Ye.2 (.inr H)),λc K=>?_⟩
   .rcases i2 b H with H | ⟨c,K,e⟩
    .rcases Ye.1 H with e | H
     .exact .inr ⟨a,nL ..,e.symm⟩
     .exact .inl H
    .exact .inr ⟨c,nG _ K,e⟩
   .rcases nE.1 K with e2 | K
    .subst e2
     exact⟨f c,i3 _ (Ye.2 (.inl rfl)),rfl⟩
    .exact i4 c K
theorem O0{g:aj}(G:aH g){w:List Int}{b:List Int}:b∈K7 g w↔∃ a∈yY g w,zM g.aM a=b:=by
 obtain⟨_,i2,_,i4⟩:=DJ (zM g.aM) (yY g w) ([],[]) ⟨λk F=>by cases F⟩
 unfold K7
 constructor
 .intro h
  rcases i2 b h with h | h
  .cases h
  .exact h
 .rintro⟨a,E,rfl⟩
  obtain⟨c,K,e⟩:=i4 a E;rcases i2 c K with h | ⟨a2,H,e2⟩
  .cases h
  .have:=iv (by rw[<-e2];exact DI G (wV H).parts) (DI G (wV E).parts) e
   rw[<-this];exact K
def vN(n:Int):Prop:=(Lit.int .i64 n).wf=true
def O1(l:List Int):Prop:=l.length<=maxLen/\∀ n∈l,vN n
theorem zej{d:D}(h:yP d (.sl [.int .i64])):∃ l,d=aa l/\O1 l:=by
 obtain⟨xs,rfl,H,G⟩:=yP.XM (row:=λn:Int=>[D.int .i64 n]) (cI:=vN) (λr F=>by
  obtain⟨d,r,rfl,H,G⟩:=F.zV;obtain⟨n,rfl,E⟩:=H.xO;obtain rfl:=G.jG;exact⟨n,rfl,E⟩) h
 exact⟨xs,rfl,H,G⟩
def aG.ok(p:aG):Prop:=vN p.entry/\vN p.bf/\vN p.bu
abbrev O2:List Sh:=[.int .i64,.int .i64,.int .i64]
def O3(l:List aG):Prop:=l.length<=maxLen/\∀ x∈l,x.ok
theorem zcf{d:D}(h:yP d (.sl O2)):∃ l,d=zh l/\O3 l:=by
 obtain⟨xs,rfl,H,G⟩:=yP.XM (row:=aG.row) (cI:=aG.ok) (λr F=>by
  obtain⟨_,_,rfl,g1,r1⟩:=F.zV;obtain⟨_,_,rfl,g2,r2⟩:=r1.zV;obtain⟨_,_,rfl,g3,r3⟩:=r2.zV;obtain rfl:=r3.jG;obtain⟨a,rfl,wa⟩:=g1.xO;obtain⟨b,rfl,wb⟩:=g2.xO;obtain⟨c,rfl,wc⟩:=g3.xO;exact⟨⟨a,b,c⟩,rfl,wa,wb,wc⟩) h
 exact⟨xs,rfl,H,G⟩
theorem um{α:Type}{M:Nat}{row:α->List D}:∀ {l:List α},ZT M (l.map row)->∀ x∈l,cG M (row x)
 | [],_,x,H=>by cases H
 |a::l,h,x,H=>by
  simp only[nK,ZT] at h;rcases nE.1 H with e | e
  .rw[e];exact h.1
  .exact um h.2 x e
theorem kK{α:Type}{row:α->List D}{shs:List Sh}{d:D}(h:∀ r,y9 r shs->∃ x,r=row x)(H:yP d (.sl shs)):∃ xs:List α,d = .sl (xs.map row):=by
 obtain⟨xs,e,_,_⟩:=yP.XM (row:=row) (cI:=λ_=>True) (λr G=>by obtain⟨x,e⟩:=h r G;exact⟨x,e,trivial⟩) H
 exact⟨xs,e⟩
theorem zro{r:List D}(h:y9 r [.int .i64]):∃ n:Int,r=[int n]:=by
 obtain⟨_,_,rfl,g1,r1⟩:=h.zV
 obtain rfl:=r1.jG
 obtain⟨a,rfl,_⟩:=g1.xO
 exact⟨a,rfl⟩
theorem Qh{d:D}(h:yP d (.sl [.int .i64])):∃ l,d=aa l:=kK (row:=λn:Int=>[int n]) (λr H=>zro H) h
theorem zow{r:List D}(h:y9 r [.str,.int .i64]):∃ p:bD,r=p.row:=by
 obtain⟨_,_,rfl,g1,r1⟩:=h.zV
 obtain⟨_,_,rfl,g2,r2⟩:=r1.zV
 obtain rfl:=r2.jG
 obtain⟨a,rfl,_⟩:=g1.ZO
 obtain⟨b,rfl,_⟩:=g2.xO
 exact⟨⟨a,b⟩,rfl⟩
theorem zox{r:List D}(h:y9 r [.str,.sl [.int .i64]]):∃ p:bo,r=p.row:=by
 obtain⟨_,_,rfl,g1,r1⟩:=h.zV
 obtain⟨_,_,rfl,g2,r2⟩:=r1.zV
 obtain rfl:=r2.jG
 obtain⟨a,rfl,_⟩:=g1.ZO
 obtain⟨b,rfl⟩:=Qh g2
 exact⟨⟨a,b⟩,rfl⟩
theorem O4{r:List D}(h:y9 r [.str]):∃ s:ByteArray,r=[.str s]:=by
 obtain⟨_,_,rfl,g1,r1⟩:=h.zV
 obtain rfl:=r1.jG
 obtain⟨a,rfl,_⟩:=g1.ZO
 exact⟨a,rfl⟩
theorem zoy{r:List D}(h:y9 r [.sl [.str]]):∃ l:List ByteArray,r=[.sl (l.map λs=>[.str s])]:=by
 obtain⟨_,_,rfl,g1,r1⟩:=h.zV
 obtain rfl:=r1.jG
 obtain⟨l,rfl⟩:=kK (row:=λs:ByteArray=>[D.str s]) (λr H=>O4 H) g1
 exact⟨l,rfl⟩
theorem Kv{r:List D}(h:y9 r [.int .i64,.int .i64]):∃ a b:Int,r=[int a,int b]:=by
 obtain⟨_,_,rfl,g1,r1⟩:=h.zV
 obtain⟨_,_,rfl,g2,r2⟩:=r1.zV
 obtain rfl:=r2.jG
 obtain⟨a,rfl,_⟩:=g1.xO
 obtain⟨b,rfl,_⟩:=g2.xO
 exact⟨a,b,rfl⟩
theorem O5{d:D}(h:yP d (.sl [.int .i64,.int .i64])):∃ l,d=xA l:=kK (row:=ig.row) (λr H=>by obtain⟨a,b,rfl⟩:=Kv H;exact⟨⟨a,b⟩,rfl⟩) h
theorem zoz{r:List D}(h:y9 r [.sl [.int .i64],.sl [.int .i64],.sl [.int .i64,.int .i64],.sl [.int .i64,.int .i64],.bool,.bool]):∃ x:bK,r=x.row:=by
 obtain⟨_,_,rfl,g1,r1⟩:=h.zV
 obtain⟨_,_,rfl,g2,r2⟩:=r1.zV
 obtain⟨_,_,rfl,g3,r3⟩:=r2.zV
 obtain⟨_,_,rfl,g4,r4⟩:=r3.zV
 obtain⟨_,_,rfl,g5,r5⟩:=r4.zV
 obtain⟨_,_,rfl,g6,r6⟩:=r5.zV
 obtain rfl:=r6.jG
 obtain⟨a,rfl⟩:=Qh g1
 obtain⟨b,rfl⟩:=Qh g2
 obtain⟨c,rfl⟩:=O5 g3
 obtain⟨d,rfl⟩:=O5 g4
 obtain⟨e,rfl⟩:=g5.G2
 obtain⟨f,rfl⟩:=g6.G2
 exact⟨⟨a,b,c,d,e,f⟩,rfl⟩
theorem zrp{r:List D}(h:y9 r [.int .i64,.int .i64,.int .i64]):∃ x:dN,r=x.row:=by
 obtain⟨_,_,rfl,g1,r1⟩:=h.zV
 obtain⟨a,b,rfl⟩:=Kv r1
 obtain⟨c,rfl,_⟩:=g1.xO
 exact⟨⟨c,a,b⟩,rfl⟩
theorem zo0{r:List D}(h:y9 r [.str,.str]):∃ x:cC,r=x.row:=by
 obtain⟨_,_,rfl,g1,r1⟩:=h.zV
 obtain⟨b,rfl⟩:=O4 r1
 obtain⟨a,rfl,_⟩:=g1.ZO
 exact⟨⟨a,b⟩,rfl⟩
theorem zku{d:D}(h:yP d (.sl [.sl [.int .i64]])):∃ l,d=yk l:=kK (row:=λa:List Int=>[aa a]) (λr H=>by
 obtain⟨_,_,rfl,g1,r1⟩:=H.zV
 obtain rfl:=r1.jG
 obtain⟨a,rfl⟩:=Qh g1
 exact⟨a,rfl⟩) h
abbrev O6:List Sh:=[.int .i64,.sl [.int .i64],.int .i64,.sl [.sl [.int .i64]],.int .i64,.sl [.str,.str],.sl [.int .i64,.int .i64],.sl [.int .i64,.int .i64]]
theorem zrq{r:List D}(h:y9 r O6):∃ x:aP,r=x.row:=by
 obtain⟨_,_,rfl,g1,r1⟩:=h.zV
 obtain⟨_,_,rfl,g2,r2⟩:=r1.zV
 obtain⟨_,_,rfl,g3,r3⟩:=r2.zV
 obtain⟨_,_,rfl,g4,r4⟩:=r3.zV
 obtain⟨_,_,rfl,g5,r5⟩:=r4.zV
 obtain⟨_,_,rfl,g6,r6⟩:=r5.zV
 obtain⟨_,_,rfl,g7,r7⟩:=r6.zV
 obtain⟨_,_,rfl,g8,r8⟩:=r7.zV
 obtain rfl:=r8.jG
 obtain⟨a,rfl,_⟩:=g1.xO
 obtain⟨b,rfl⟩:=Qh g2
 obtain⟨c,rfl,_⟩:=g3.xO
 obtain⟨d,rfl⟩:=zku g4
 obtain⟨e,rfl,_⟩:=g5.xO
 obtain⟨f,rfl⟩:=kK (row:=cC.row) (λr H=>zo0 H) g6
 obtain⟨k,rfl⟩:=kK (row:=fu.row) (λr H=>by obtain⟨a,b,rfl⟩:=Kv H;exact⟨⟨a,b⟩,rfl⟩) g7
 obtain⟨m,rfl⟩:=kK (row:=Rf.row) (λr H=>by obtain⟨a,b,rfl⟩:=Kv H;exact⟨⟨a,b⟩,rfl⟩) g8
 exact⟨⟨a,b,c,d,e,f,k,m⟩,rfl⟩
abbrev O7:List Sh:=[.sl [.str,.int .i64],.str,.sl [.str,.sl [.int .i64]],.sl [.sl [.str]],.sl [.sl [.int .i64],.sl [.int .i64],.sl [.int .i64,.int .i64],.sl [.int .i64,.int .i64],.bool,.bool],.int .i64,.sl [.int .i64,.int .i64,.int .i64],.sl [.int .i64],.sl O6]
theorem zek{l:List D}(h:y9 l O7):∃ g:aj,D.agg l=g.d:=by
 obtain⟨_,_,rfl,g1,r1⟩:=h.zV
 obtain⟨_,_,rfl,g2,r2⟩:=r1.zV
 obtain⟨_,_,rfl,g3,r3⟩:=r2.zV
 obtain⟨_,_,rfl,g4,r4⟩:=r3.zV
 obtain⟨_,_,rfl,g5,r5⟩:=r4.zV
 obtain⟨_,_,rfl,g6,r6⟩:=r5.zV
 obtain⟨_,_,rfl,g7,r7⟩:=r6.zV
 obtain⟨_,_,rfl,g8,r8⟩:=r7.zV
 obtain⟨_,_,rfl,g9,r9⟩:=r8.zV
 obtain rfl:=r9.jG
 obtain⟨a,rfl⟩:=kK (row:=bD.row) (λr H=>zow H) g1
 obtain⟨b,rfl,_⟩:=g2.ZO
 obtain⟨c,rfl⟩:=kK (row:=bo.row) (λr H=>zox H) g3
 obtain⟨d,rfl⟩:=kK (row:=λr:List ByteArray=>[D.sl (r.map λs=>[.str s])]) (λr H=>zoy H) g4
 obtain⟨e,rfl⟩:=kK (row:=bK.row) (λr H=>zoz H) g5
 obtain⟨f,rfl,_⟩:=g6.xO
 obtain⟨k,rfl⟩:=kK (row:=dN.row) (λr H=>zrp H) g7
 obtain⟨m,rfl⟩:=Qh g8
 obtain⟨n,rfl⟩:=kK (row:=aP.row) (λr H=>zrq H) g9
 exact⟨⟨a,⟨b,c,d⟩,e,⟨f,k,m⟩,n⟩,rfl⟩
theorem zkv{g:aj}(h:jK 1048576 g.d):bC g:=by
 simp only[aj.d,jK,cG,gO,zL,zJ,wK,yF,bk,aa,zm,int,om,tW] at h
 obtain⟨⟨a1,a2⟩,b1,⟨c1,c2⟩,⟨d1,d2⟩,⟨e1,e2⟩,_,⟨k1,_⟩,⟨m1,_⟩,n1,n2⟩:=h
 refine {inv:=⟨a1,λp hp=>?_⟩,bt:=⟨b1,λu hu=>?_,λL hL=>?_,c1,d1⟩,ba:=⟨e1,λr hr=>?_⟩,aw:=k1,aS:=m1,aM:=⟨n1,λe he=>?_⟩}
 .have:=um a2 p hp
  simp only[bD.row,cG,gO,int] at this;exact this.1
 .have:=um c2 u hu
  simp only[bo.row,cG,gO,int,aa,om] at this;exact⟨this.1,this.2.1.1⟩
 .have:=um d2 L hL
  simp only[cG,gO,om] at this;refine⟨this.1.1,λs hs=>?_⟩
  have:=um this.1.2 s hs
  simp only[cG,gO] at this;exact this.1
 .have:=um e2 r hr
  simp only[bK.row,cG,gO,int,aa,om] at this;exact⟨this.1.1,this.2.1.1⟩
 .have:=um n2 e he
  simp only[aP.row,cG,gO,int,aa,yk,zW,xo,wo,om] at this;obtain⟨_,⟨f1,_⟩,_,⟨g1,g2⟩,_,⟨s1,s2⟩,⟨l1,_⟩,⟨r1,_⟩,_⟩:=this;refine⟨f1,⟨g1,λw hw=>?_⟩,⟨s1,λs hs=>?_⟩,l1,r1⟩
  .have:=um g2 w hw
   simp only[cG,gO,om] at this;exact this.1.1
  .have:=um s2 s hs
   simp only[cC.row,cG,gO] at this;exact⟨this.1,this.2.1⟩
theorem zrr{d:D}(h:yP d (.int .i64)):∃ n,d=int n:=by obtain⟨n,e,_⟩:=h.xO;exact⟨n,e⟩
theorem DK{α β:Type}{f:α->List β}{n:Nat}:∀ {l:List α},(∀ x∈l,(f x).length<=n)->(l.flatMap f).length<=l.length*n
 | [],_=>by simp
 |a::l,h=>by
  have H:=h a (nL ..);have G:=DK (l:=l) λx F=>h x (nG _ F)
  rw[pz,nO,nP,oR,rF];omega
def kI:Nat->Nat
 |0=>0
 |f+1=>5*(2*(1+kI f))
theorem DL{g:aj}(H:aH g)(w:List Int):∀ (f:Nat) (a:List aG),(qn g w f a).length<=kI f
 |0,_=>by simp[qn,kI]
 |f+1,a=>by
  unfold qn kI;refine oC (DK (n:=2*(1+kI f)) λe G=>?_) (oY _ H.dQ.cW)
  split
  .refine oC (DK (n:=1+kI f) λbf _=>?_) (oY _ ?_)
   .split
    .simp
    .rw[nO]
     have:=DL H w f (a++[⟨e.id,(bf:Int),0⟩])
     split <;> simp <;> omega
   .rw[pV]
    have:=(H.dQ.aK e G).2.1
    simp[aP.aK];omega
  .simp
theorem zkw{g:aj}(H:aH g)(w:List Int):(yY g w).length<=11110:=by
 unfold yY
 split
 .simp
 .exact DL H w 4 []
structure nb(g:aj)(w:List Int)(L:List (List aG)):Prop where
 cW:L.length<=200
 du:∀ q∈L,(qj g q).2=0/\(qj g q).1=w/\q.length<=4
 up:L.Pairwise λa b=>zP a b=true
 ai:∀ q∈L,zM g.aM q∈K7 g w
 all:∀ b∈K7 g w,∃ q∈L,zM g.aM q=b
theorem zrt{g:aj}(H:aH g)(w:List Int):((yU g w).2≠0->(yU g w).1=[])/\((yU g w).2=0->nb g w (yU g w).1):=by
 rw[NF]
 by_cases G:vy g.inv w≠0
 .rw[gt G]
  exact⟨λ_=>rfl,λh=>absurd h G⟩
 rw[ge G]
 by_cases h:200<(fq g w).length
 .rw[gt h]
  exact⟨λ_=>rfl,λh=>by cases h⟩
 rw[ge h]
 refine⟨λh=>absurd rfl h,λ_=>⟨?_,λq F=>zkt H (Qf.1 F),DD (NT H w),λq F=>?_,λb hb=>?_⟩⟩
 .show(jo (fq g w)).length<=200
  rw[NN];omega
 .obtain⟨a,E,K⟩:=Ku.1 (Qf.1 F)
  rw[NW K];exact(O0 H).2 ⟨a,E,rfl⟩
 .obtain⟨a,E,rfl⟩:=(O0 H).1 hb
  exact⟨a,Qf.2 (Ku.2 ⟨a,E,NZ H (wV E).parts⟩),rfl⟩
end Go.V
namespace Go.V
open Go.Proofs.Tryz
open Go
def Qi(q:List Nat)(e:Edge):Edge:={e with on:=q.getD e.on 0}
def Yf(q:List Nat)(o:Oper):Oper:={o with after:=(o.after.toList.map (Qi q)).toArray}
def ztk : Oper := ⟨none, .assign (.const (.bool true)), 0, "", #[], none⟩
def jq(p q:List Nat)(l:List Oper):List Oper:=p.map λi=>match l[i]? with
 |some o=>Yf q o
 |none=>ztk
def Kw(p q:List Nat)(l:List Oper):Bool:=
 Nat.beq p.length l.length&&(List.range l.length).all (λi=>Nat.blt (p.getD i l.length) l.length&&Nat.blt (q.getD i l.length) l.length&&Nat.beq (q.getD (p.getD i l.length) l.length) i&&Nat.beq (p.getD (q.getD i l.length) l.length) i) &&
  l.all λo=>o.guard.isNone&&o.after.toList.all λe=>Nat.blt e.on l.length
section
variable {P:Program} {p q:List Nat} {l:List Oper}
structure eB(p q:List Nat)(l:List Oper):Prop where
 len:p.length=l.length
 fwd:∀ i,i<l.length->p.getD i l.length<l.length/\q.getD (p.getD i l.length) l.length=i
 mR:∀ i,i<l.length->q.getD i l.length<l.length/\p.getD (q.getD i l.length) l.length=i
 plain:∀ o∈l,o.guard=none/\∀ e∈o.after.toList,e.on<l.length
theorem zo1(h:Kw p q l=true):eB p q l:=by
 unfold Kw at h
 simp only[nI,oo,oc,Cy] at h
 obtain⟨⟨H,G⟩,F⟩:=h
 refine⟨rc H,λi hi=>⟨(G i hi).1.1.1,rc (G i hi).1.2⟩,λi hi=>⟨(G i hi).1.1.2,rc (G i hi).2⟩,λo E=>?_⟩
 have:=F o E
 exact⟨by simpa using this.1,this.2⟩
theorem O8(h:eB p q l){i:Nat}{o:Oper}(hi:l[i]?=some o):(jq p q l)[q.getD i l.length]?=some (Yf q o):=by
 have H:=(nN.1 hi).1
 obtain⟨G,F⟩:=h.mR i H
 have E:p[q.getD i l.length]?=some i:=by
  have K:q.getD i l.length<p.length:=by rw[h.len];exact G
  rw[ac K];rw[ot,ac K,nW] at F;rw[F]
 unfold jq
 rw[pC,E,oL,hi]
theorem Kx(h:eB p q l):(jq p q l).length=l.length:=by unfold jq;rw[om,h.len]
theorem O9(h:eB p q l){i:Nat}(hi:i<l.length):q.getD i 0=q.getD i l.length:=by
 have H:=(h.mR i hi).1
 rw[ot] at H ⊢
 rw[ot]
 cases G:q[i]? with
 |none=>rw[G] at H;simp at H
 |some x=>rfl
structure jt(q:List Nat)(n:Nat)(Lb Lc:Array Bool):Prop where
 size:Lb.size=n
 kv:Lc.size=n
 same:∀ i,i<n->Lc.getD (q.getD i n) false=Lb.getD i false
theorem Xc{Lb:Array Bool}{i:Nat}(h:i<Lb.size)(b c:Bool):Lb.getD i b=Lb.getD i c:=by simp[Array.getD,h]
theorem jt.set(h:eB p q l){Lb Lc:Array Bool}(F:jt q l.length Lb Lc){i:Nat}(hi:i<l.length):jt q l.length (Lb.setIfInBounds i true) (Lc.setIfInBounds (q.getD i l.length) true):=by
 have E:=h.mR i hi
 refine⟨by simpa using F.size,by simpa using F.kv,λj hj=>?_⟩
 have H:=h.mR j hj
 have hs:=F.same j hj
 have e1:q.getD j l.length<Lc.size:=by rw[F.kv];exact H.1
 have e2:j<Lb.size:=by rw[F.size];exact hj
 by_cases e:i=j
 .subst e
  rw[ot] at e1;simp[Array.getD,e1,e2]
 .have G:q.getD i l.length≠q.getD j l.length:=by
   intro K;have:=E.2
   rw[K,H.2] at this;exact e this.symm
  have g1:(Lc.setIfInBounds (q.getD i l.length) true).getD (q.getD j l.length) false=Lc.getD (q.getD j l.length) false:=by
   simp only[Array.getD,xa,e1,si];exact tA _ G
  have g2:(Lb.setIfInBounds i true).getD j false=Lb.getD j false:=by
   simp only[Array.getD,xa,e2,si];exact tA _ e
  rw[g1,g2,hs]
theorem wA{l:List Oper}{Lb:Array Bool}(hs:Lb.size=l.length){i:Nat}:i∈Region.ready .any l.toArray Lb↔∃ o,l[i]?=some o/\Lb.getD i false=false/\∀ e∈o.after.toList,Region.binds .any e=true->Lb.getD e.on false=true:=by
 unfold Region.ready
 rw[oA]
 constructor
 .rintro⟨F,E⟩
  have H:i<l.length:=by simpa using F
  rw[nI] at E;have K:l[i]?=some l[i]:=ac H
  have G:l.toArray[i]?=some l[i]:=by simp
  rw[G] at E;simp only[oL,nW,pS] at E;refine⟨l[i],K,by rw[Xc (by omega) false true];exact E.1,λe J L=>?_⟩
  have:=E.2
  rw[sm] at this;have:=this e (by simpa using J)
  simpa[L] using this
 .rintro⟨o,K,F,E⟩
  have H:=(nN.1 K).1;have G:l.toArray[i]?=some o:=by simpa using K
  refine⟨by simpa using H,?_⟩
  rw[nI,G];simp only[oL,nW,pS];refine⟨by rw[Xc (by omega) true false];exact F,?_⟩
  rw[sm];intro e J;cases L:Region.binds .any e with
  |false=>rfl
  |true=>simpa using E e (by simpa using J) L
theorem zel(h:eB p q l){o:Oper}{i:Nat}(E:l[i]?=some o){Lb Lc:Array Bool}(K:jt q l.length Lb Lc):(∀ e∈(Yf q o).after.toList,Region.binds .any e=true->Lc.getD e.on false=true)↔∀ e∈o.after.toList,Region.binds .any e=true->Lb.getD e.on false=true:=by
 have G:=h.plain o (ol E)
 have e1:(Yf q o).after.toList=o.after.toList.map (Qi q):=by simp[Yf]
 rw[e1]
 constructor
 .intro J e L M
  have:=J (Qi q e) (nS.2 ⟨e,L,rfl⟩) M
  have H:=G.2 e L;have e2:(Qi q e).on=q.getD e.on l.length:=O9 h H
  rw[e2,K.same _ H] at this;exact this
 .intro J e L M
  obtain⟨e0,F,rfl⟩:=nS.1 L;have H:=G.2 e0 F;have e2:(Qi q e0).on=q.getD e0.on l.length:=O9 h H
  rw[e2,K.same _ H];exact J e0 F M
theorem DN(h:eB p q l){Lb Lc:Array Bool}(H:jt q l.length Lb Lc){i:Nat}(hi:i<l.length):q.getD i l.length∈Region.ready .any (jq p q l).toArray Lc↔i∈Region.ready .any l.toArray Lb:=by
 rw[wA H.size,wA (by rw[Kx h];exact H.kv)]
 have G:l[i]?=some l[i]:=ac hi
 rw[O8 h G,G]
 simp only[pB,exists_eq_left']
 rw[zel h G H,H.same i hi]
theorem zru(h:eB p q l){i:Nat}(hi:i<l.length){K:Act->World->Prop}{Q:Exit->Act->World->Prop}{a:Act}{w:World}(E:wpOp P (jq p q l).toArray Q (q.getD i l.length) K a w):wpOp P l.toArray Q i K a w:=by
 have J:l[i]?=some l[i]:=ac hi
 have L:=O8 h J
 have M:=(h.plain l[i] (nF hi)).1
 have H:(jq p q l).toArray[q.getD i l.length]?=some (Yf q l[i]):=by simpa using L
 have G:l.toArray[i]?=some l[i]:=by simp
 unfold wpOp at E ⊢
 rw[H] at E
 rw[G]
 have F:(Yf q l[i]).guard=none:=M
 simp only[Region.wanted,M,F,oV] at E ⊢
 exact E
theorem zo2(h:eB p q l){Q:Exit->Act->World->Prop}:∀ (fuel:Nat) (Lb Lc:Array Bool) (a:Act) (w:World),jt q l.length Lb Lc->wpAny P .any (jq p q l).toArray Q fuel Lc a w->wpAny P .any l.toArray Q fuel Lb a w:=by
 have H:∀ Lb Lc,jt q l.length Lb Lc->Region.ready .any l.toArray Lb=[]->Region.ready .any (jq p q l).toArray Lc=[]:=by
  intro Lb Lc E K;cases J:Region.ready .any (jq p q l).toArray Lc with
  |nil=>rfl
  |cons k r=>
   have L:k∈Region.ready .any (jq p q l).toArray Lc:=by rw[J];exact nL ..
   have G:k<l.length:=by
    obtain⟨o,M,_⟩:=(wA (by rw[Kx h];exact E.kv)).1 L
    have:=(nN.1 M).1
    rw[Kx h] at this;exact this
   obtain⟨f1,f2⟩:=h.fwd k G;have:=(DN h E f1).1 (by rw[f2];exact L)
   rw[K] at this;cases this
 intro fuel
 induction fuel with
 |zero=>
  intro Lb Lc a w E O;refine⟨?_,O.2⟩
  cases J:Region.ready .any l.toArray Lb with
  |nil=>rfl
  |cons k r=>
   have L:k∈Region.ready .any l.toArray Lb:=by rw[J];exact nL ..
   have G:k<l.length:=by
    obtain⟨o,M,_⟩:=(wA E.size).1 L;exact(nN.1 M).1
   have:=(DN h E G).2 L
   rw[O.1] at this;cases this
 |succ fuel ih=>
  intro Lb Lc a w E O;refine⟨λK=>O.1 (H Lb Lc E K),λi hi=>?_⟩
  have F:i<l.length:=by
   obtain⟨o,M,_⟩:=(wA E.size).1 hi;exact(nN.1 M).1
  have T:=O.2 (q.getD i l.length) ((DN h E F).2 hi);exact zru h F (wpOp_mono (λa w O=>ih _ _ a w (E.set h F) O) T)
variable {st:St}
end
end Go.V
namespace Go.V
open Go.Proofs.Tryz
open Go
section
variable {P:Program} {ops:Array Oper} {Q:Exit->Act->World->Prop}
theorem zhb{j:Nat}{oi oj:Oper}{v:Value}(hj:ops[j]?=some oj)(F:oi.apart ops oj=true)
  (E:∀ cs b,oi.op≠.select cs b) (J:∀ cs b,oj.op≠.select cs b)
  (L:∀ c a w,¬Q (.panic c) a w) (H:¬LetsOut Q) {K:Act->World->Prop} {a:Act} {w:World}
  (M:Go.Yields P ops oi v a) (h:wpOp P ops Q j K a w) :
  wpOp P ops Q j (λb w'=>∃ a',b=a'.put oi.dst v/\Go.Yields P ops oi v a'/\K a' w') (a.put oi.dst v) w:=by
 obtain⟨O,T,V⟩:=Oper.apart_spec F
 have keep:∀ (a:Act),Go.Yields P ops oi v a->∀ u,Go.Yields P ops oi v (a.put oj.dst u):=λa M u=>
  M.of_same (execOp_put oi E a oj.dst u V) (wanted_put oi a oj.dst u V)
 have keepD:∀ d,Go.Yields P ops oi v {a with defers:=d::a.defers}:=λd=>M.of_same rfl rfl
 unfold wpOp at *
 simp only[hj] at *
 rw[wanted_put oj a oi.dst v O]
 split
 .rename_i hw
  simp only[hw,oV] at h;rcases h with h | ⟨_,G⟩
  case inr=>exact absurd G H
  refine .inl ?_
  unfold Oper.wp at *;rw[execOp_put oj J a oi.dst v O];generalize (execOp a.eval oj).run P w=r at *;cases r with
  |ok n w'=>
   cases n <;> simp only[Oper.upon] at h ⊢
   case value u=>exact⟨a.put oj.dst u,Act.put_comm a v u T,keep a M u,h⟩
   case skip=>exact⟨a.put oj.dst undef,Act.put_comm a v undef T,keep a M _,h⟩
   case defer d=>
    refine⟨_,?_,keep _ (keepD d) _,h⟩
    rw[Act.put_defers];exact Act.put_comm _ v undef T
   case enter f args=>
    refine Calls.mono h λe w'' X=>?_
    cases e with
    |returned u=>exact⟨a.put oj.dst u,Act.put_comm a v u T,keep a M u,X⟩
    |panicked c=>exact absurd X (L _ _ _)
    |outgrown=>exact absurd X H
   case row row args=>exact Rows.mono h λu w'' X=>⟨a.put oj.dst u,Act.put_comm a v u T,keep a M u,X⟩
  |halt x w'=>
   cases x <;> simp only[Oper.upon] at h ⊢
   case panic u=>exact absurd h (L _ _ _)
 .rename_i hw
  simp only[hw] at h;exact⟨a.put oj.dst undef,Act.put_comm a v undef T,keep a M _,h⟩
end
def bA(x y:Nat)(l:List Oper):List Oper:=l.zipIdx.map λp=>if p.2=y then {p.1 with after:=p.1.after.push ⟨x,.data⟩} else p.1
structure fy(P:Program)(x y:Nat)(l:List Oper):Prop where
 ne:x≠y
 xs:x<l.length
 ys:y<l.length
 m_:∀ o,l[x]?=some o->o.after = #[]
 plain:∀ o∈l,o.guard=none/\(∀ cs b,o.op≠.select cs b)
 iI:∀ (j:Nat) o,l[j]?=some o->(∃ e∈o.after.toList,e.on=y)->∃ e∈o.after.toList,Region.binds .any e=true/\e.on=x
 apart:∀ (j:Nat) o oy,l[j]?=some o->l[y]?=some oy->j≠y->(∀ e∈o.after.toList,e.on≠y)->(∀ e∈oy.after.toList,Region.binds .any e=true->e.on≠j)->oy.apart l.toArray o=true
 mD:∀ ox,l[x]?=some ox->∀ (a:Act) (w:World),∃ u w1,(execOp a.eval ox).run P w = .ok (.value u) w1
 val:∀ oy,l[y]?=some oy->∀ a:Act,(∃ v,∀ w,(execOp a.eval oy).run P w = .ok (.value v) w)\/∀ w,∃ h w1,(execOp a.eval oy).run P w = .halt (.stuck h) w1
section
variable {P:Program} {x y:Nat} {l:List Oper}
theorem DO{j:Nat}{o:Oper}(hj:l[j]?=some o):(bA x y l)[j]?=some (if j=y then {o with after:=o.after.push ⟨x,.data⟩} else o):=by
 unfold bA
 rw[pC,List.getElem?_zipIdx,hj]
 simp
theorem Ky:(bA x y l).length=l.length:=by unfold bA;simp
theorem Qj(h:fy P x y l){Lb:Array Bool}(hs:Lb.size=l.length){j:Nat}:j∈Region.ready .any (bA x y l).toArray Lb↔j∈Region.ready .any l.toArray Lb/\(j=y->Lb.getD x false=true):=by
 rw[wA hs,wA (by rw[Ky];exact hs)]
 constructor
 .rintro⟨o',H,F,E⟩
  have G:j<l.length:=by
   have:=(nN.1 H).1
   rw[Ky] at this;exact this
  have K:l[j]?=some l[j]:=ac G
  rw[DO K] at H;cases H
  refine⟨⟨l[j],K,F,λe J hb=>?_⟩,λhjy=>?_⟩
  .refine E e ?_ hb
   split
   .simp[J]
   .exact J
  .rw[gt hjy] at E
   exact E ⟨x,.data⟩ (by simp) rfl
 .rintro⟨⟨o,K,F,E⟩,L⟩
  refine⟨_,DO K,F,λe J hb=>?_⟩
  split at J
  .rename_i hjy
   simp only[Array.toList_push,nM,nQ] at J;rcases J with J | J
   .exact E e J hb
   .rw[J];exact L hjy
  .exact E e J hb
theorem J3(h:fy P x y l){j:Nat}{K:Act->World->Prop}{Q:Exit->Act->World->Prop}{a:Act}{w:World}(G:wpOp P (bA x y l).toArray Q j K a w):wpOp P l.toArray Q j K a w:=by
 cases F:l[j]? with
 |none=>
  have E:l.toArray[j]?=none:=by simpa using F
  have J:(bA x y l).toArray[j]?=none:=by
   have:l.length<=j:=List.getElem?_eq_none_iff.1 F
   simpa[Ky] using this
  unfold wpOp at G ⊢;rw[J] at G;rw[E];exact G
 |some o=>
  have E:l.toArray[j]?=some o:=by simpa using F
  have J:=DO (x:=x) (y:=y) F;have H:(bA x y l).toArray[j]?=some (if j=y then {o with after:=o.after.push ⟨x,.data⟩} else o):=by simpa using J
  have L:=(h.plain o (ol F)).1;unfold wpOp at G ⊢;rw[H] at G;rw[E];by_cases e:j=y
  .rw[gt e] at G
   simp only[Region.wanted,L,oV] at G ⊢;exact G
  .rw[ge e] at G
   simp only[Region.wanted,L,oV] at G ⊢;exact G
theorem zo3(h:fy P x y l){Q:Exit->Act->World->Prop}(hQ:∀ c a w,¬Q (.panic c) a w)(J:¬LetsOut Q):∀ (fuel:Nat),
  (∀ (Lb:Array Bool) (a:Act) (w:World),Lb.size=l.length->left Lb<=fuel->wpAny P .any (bA x y l).toArray Q fuel Lb a w->wpAny P .any l.toArray Q fuel Lb a w) /\
  (∀ (Lb:Array Bool) (a:Act) (w:World) (oy:Oper) (v:Value),Lb.size=l.length->left (Lb.setIfInBounds y true)<=fuel->l[y]?=some oy->Lb.getD y false=false->Lb.getD x false=false ->
   (∀ e∈oy.after.toList,Region.binds .any e=true->Lb.getD e.on false=true)->Go.Yields P l.toArray oy v a->wpAny P .any (bA x y l).toArray Q (fuel+1) Lb a w->wpAny P .any l.toArray Q fuel (Lb.setIfInBounds y true) (a.put oy.dst v) w):=by
 have Fi:=h.ys
 have N:=h.xs
 have Hx:l[y]?=some l[y]:=ac h.ys
 have E:l[x]?=some l[x]:=ac h.xs
 intro fuel
 induction fuel with
 |zero=>
  refine⟨λLb a w hs hf hh=>⟨?_,hh.2⟩,λLb a w oy v hs hf O S K G V hh=>?_⟩
  .cases hc:Region.ready .any l.toArray Lb with
   |nil=>rfl
   |cons k r=>
    have hk:k∈Region.ready .any l.toArray Lb:=by rw[hc];exact nL ..
    obtain⟨o,ho,h1,_⟩:=(wA hs).1 hk;have Fk:=(nN.1 ho).1;have:=JJ (Lb:=Lb) (i:=k) (by omega) (by unfold cj;rw[Xc (by omega) true false,h1];decide)
    omega
  .have W:(Lb.setIfInBounds y true).getD x false=false:=by rw[getD_set_ne false (se h.ne)];exact K
   have Hp:x<(Lb.setIfInBounds y true).size:=by simp[hs];exact h.xs
   have:=JJ (Lb:=Lb.setIfInBounds y true) (i:=x) Hp (by unfold cj;rw[Xc Hp true false,W];decide)
   omega
 |succ fuel ih=>
  obtain⟨ihA,ihB⟩:=ih;refine⟨λLb a w hs hf hh=>⟨λhe=>hh.1 ?_,λj hj=>?_⟩,λLb a w oy v hs hf O S K G V hh=>⟨λhe=>?_,λj hj=>?_⟩⟩
  .cases hc:Region.ready .any (bA x y l).toArray Lb with
   |nil=>rfl
   |cons k r=>
    have:=((Qj h hs).1 (show k∈Region.ready .any (bA x y l).toArray Lb by rw[hc];exact nL ..)).1
    rw[he] at this;cases this
  .obtain⟨o,ho,h1,h2⟩:=(wA hs).1 hj
   have G2:=(nN.1 ho).1;have X:=Xy (Lb:=Lb) (i:=j) (by omega) (by unfold cj;rw[Xc (by omega) true false,h1];decide)
   by_cases hc:j=y->Lb.getD x false=true
   .have:=hh.2 j ((Qj h hs).2 ⟨hj,hc⟩)
    exact J3 h (wpOp_mono (λa w hh=>ihA _ a w (by simpa using hs) (by omega) hh) this)
   .have L:j=y:=oJ λe=>hc λe2=>absurd e2 e
    subst L;have K:Lb.getD x false=false:=by
     cases hb:Lb.getD x false with
     |false=>rfl
     |true=>exact absurd (λ_=>hb) hc
    have hg:=(h.plain o (ol ho)).1;have Ga:=(h.plain l[x] (nF N)).1;have M:=h.m_ _ E;have H0:=h.apart x l[x] o E ho h.ne (by rw[M];intro e he;simp at he) (λe he hb hex=>by have:=h2 e he hb;rw[hex,K] at this;cases this)
    obtain⟨_,_,h3⟩:=Oper.apart_spec H0;have Y:l.toArray[x]?=some l[x]:=by simp
    have Gb:l.toArray[j]?=some o:=by simpa using ho
    have I:x∈Region.ready .any (bA x j l).toArray Lb:=by
     refine(Qj h hs).2 ⟨(wA hs).2 ⟨l[x],E,K,λe he=>?_⟩,λe=>absurd e h.ne⟩
     rw[M] at he;simp at he
    have T:=J3 h (hh.2 x I);obtain⟨u,w1,hu⟩:=h.mD _ E a w;have H1:wpAny P .any (bA x j l).toArray Q fuel (Lb.setIfInBounds x true) (a.put l[x].dst u) w1:=by
     unfold wpOp at T;simp only[Y,Region.wanted,Ga,oV] at T;rcases T with T | ⟨_,hl⟩
     .unfold Oper.wp at T
      rw[hu] at T;exact T
     .exact absurd hl J
    have H2:=Xy (Lb:=Lb.setIfInBounds j true) (i:=x) (by simp[hs];exact N) (by unfold cj;rw[Xc (by simp[hs];exact N) true false,getD_set_ne false (se h.ne),K];decide)
    obtain⟨v,hv⟩:∃ v,∀ w,(execOp a.eval o).run P w = .ok (.value v) w:=by
     cases fuel with
     |zero=>omega
     |succ f2=>
      have Hb:j∈Region.ready .any (bA x j l).toArray (Lb.setIfInBounds x true):=by
       refine(Qj h (by simpa using hs)).2 ⟨(wA (by simpa using hs)).2 ⟨o,ho,by rw[getD_set_ne false h.ne];exact h1,λe he hb=>getD_set_true (h2 e he hb)⟩,λ_=>?_⟩
       have:x<Lb.size:=by omega
       simp[Array.getD,this]
      have H:=J3 h (H1.2 j Hb);unfold wpOp at H;simp only[Gb,Region.wanted,hg,oV] at H;rcases H with H | ⟨_,hl⟩
      .unfold Oper.wp at H
       rw[execOp_put (ops:=l.toArray) o (h.plain o (ol ho)).2 a l[x].dst u h3] at H;rcases h.val o ho a with hv | hv
       .exact hv
       .obtain⟨Fl,ww,Gc⟩:=hv w1
        rw[Gc] at H;simp only[Oper.upon] at H
      .exact absurd hl J
    have V:Go.Yields P l.toArray o v a:=.inl ⟨by simp[Region.wanted,hg],hv⟩
    have Hc:l.toArray[j]?=some o:=by simpa using ho
    exact V.wpOp Hc (ihB Lb a w o v hs (by omega) ho h1 K h2 V hh)
  ·
   have I:x∈Region.ready .any l.toArray (Lb.setIfInBounds y true):=by
    refine(wA (by simpa using hs)).2 ⟨l[x],E,by rw[getD_set_ne false (se h.ne)];exact K,λe he=>?_⟩
    rw[h.m_ _ E] at he;simp at he
   rw[he] at I;cases I
  .have Gd:(Lb.setIfInBounds y true).size=l.length:=by simpa using hs
   obtain⟨o,ho,h1,h2⟩:=(wA Gd).1 hj;have G2:=(nN.1 ho).1;have L:j≠y:=by
    intro e;subst e;have:(Lb.setIfInBounds j true).getD j false=true:=by
     have:j<Lb.size:=by omega
     simp[Array.getD,this]
    rw[this] at h1;cases h1
   have X:=Xy (Lb:=Lb.setIfInBounds y true) (i:=j) (by omega) (by unfold cj;rw[Xc (by omega) true false,h1];decide)
   have F:(Lb.setIfInBounds y true).setIfInBounds j true=(Lb.setIfInBounds j true).setIfInBounds y true:=Array.setIfInBounds_comm _ _ (se L)
   have Z:∀ e∈o.after.toList,e.on≠y:=by
    intro e he hy;obtain⟨e2,Gr,F0,H1⟩:=h.iI j o ho ⟨e,he,hy⟩;have:=h2 e2 Gr F0
    rw[H1,getD_set_ne false (se h.ne),K] at this;cases this
   have F1:j∈Region.ready .any l.toArray Lb:=by
    refine(wA hs).2 ⟨o,ho,by rw[getD_set_ne false (se L)] at h1;exact h1,λe he hb=>?_⟩
    have:=h2 e he hb
    rw[getD_set_ne false (se (Z e he))] at this;exact this
   have Fc:=h.apart j o oy ho O L Z (λe he hb Fd=>by
    have h3:=G e he hb;rw[Fd] at h3;rw[getD_set_ne false (se L),h3] at h1;cases h1)
   have Hc:l.toArray[j]?=some o:=by simpa using ho
   have A:=λo (hm:o∈l)=>(h.plain o hm).2
   have B:=J3 h (hh.2 j ((Qj h hs).2 ⟨F1,λe=>absurd e L⟩))
   have hw:=zhb (oi:=oy) (v:=v) Hc Fc (A oy (ol O)) (A o (ol ho)) hQ J V B;refine wpOp_mono ?_ hw
   rintro b w' ⟨a',rfl,C,hK⟩
   by_cases Hs:j=x
   .subst Hs
    -- then y at mJ
    have Hb:y∈Region.ready .any (bA j y l).toArray (Lb.setIfInBounds j true):=by
     refine(Qj h (by simpa using hs)).2 ⟨(wA (by simpa using hs)).2 ⟨oy,O,by rw[getD_set_ne false L];exact S,λe he hb=>getD_set_true (G e he hb)⟩,λ_=>?_⟩
     have:j<Lb.size:=by omega
     simp[Array.getD,this]
    have H:=J3 h (hK.2 y Hb);have Hd:l.toArray[y]?=some oy:=by simpa using O
    have hg:=(h.plain oy (ol O)).1;have Hi:wpAny P .any (bA j y l).toArray Q fuel ((Lb.setIfInBounds j true).setIfInBounds y true) (a'.put oy.dst v) w':=by
     unfold wpOp at H;simp only[Hd,Region.wanted,hg,oV] at H;rcases C with⟨_,hv⟩ | ⟨hw,_⟩
     .rcases H with H | ⟨_,hl⟩
      .unfold Oper.wp at H
       rw[hv w'] at H;exact H
      .exact absurd hl J
     .simp[Region.wanted,hg] at hw
    rw[F];exact ihA _ _ _ (by simpa using hs) (by rw[<-F];omega) Hi
   .rw[F]
    refine ihB (Lb.setIfInBounds j true) a' w' oy v (by simpa using hs) (by rw[<-F];omega) O (by rw[getD_set_ne false L];exact S) (by rw[getD_set_ne false Hs];exact K) (λe he hb=>getD_set_true (G e he hb)) C hK
variable {p q:List Nat} {st:St}
def Oa(x y:Nat)(l:List Oper):Bool:=
 !(Nat.beq x y)&&Nat.blt x l.length&&Nat.blt y l.length&&(match l[x]? with | some o=>o.after.toList.isEmpty | none=>true) &&
  (l.all λo=>o.guard.isNone&&(match o.op with | .select _ _=>false | _=>true)) &&
  (l.all λo=>!(o.after.toList.any λe=>Nat.beq e.on y) || (o.after.toList.any λe=>Region.binds .any e&&Nat.beq e.on x)) &&
  ((List.range l.length).all λj=>match l[j]?,l[y]? with
   |some o,some oy=>Nat.beq j y ||(o.after.toList.any λe=>Nat.beq e.on y) ||(oy.after.toList.any λe=>Region.binds .any e&&Nat.beq e.on j) ||oy.apart l.toArray o
   |_,_=>true)
theorem zo4(h:Oa x y l=true)
  (mD:∀ ox,l[x]?=some ox->∀ (a:Act) (w:World),∃ u w1,(execOp a.eval ox).run P w = .ok (.value u) w1)
  (val:∀ oy,l[y]?=some oy->∀ a:Act,(∃ v,∀ w,(execOp a.eval oy).run P w = .ok (.value v) w)\/∀ w,∃ h w1,(execOp a.eval oy).run P w = .halt (.stuck h) w1):fy P x y l:=by
 unfold Oa at h
 simp only[nI,pS,Cy] at h
 obtain⟨⟨⟨⟨⟨⟨L,M⟩,O⟩,Q⟩,T⟩,V⟩,X⟩:=h
 refine⟨λe=>?_,M,O,λo Y=>?_,λo Y=>?_,λj o Y hex=>?_,λj o oy Y H G F E=>?_,mD,val⟩
 .subst e;rw[Nat.beq_refl] at L;cases L
 .rw[Y] at Q
  simp only[List.isEmpty_iff] at Q;simpa using Q
 .have:=(oo.1 T) o Y
  rw[nI] at this;refine⟨by simpa using this.1,λcs b e=>?_⟩
  rw[e] at this;exact absurd this.2 (by simp)
 .have:=(oo.1 V) o (ol Y)
  rw[oS] at this;rcases this with Z | hy
  .obtain⟨e,A,K⟩:=hex
   rw[pS,oB] at Z;exact absurd (by rw[K];exact Nat.beq_refl y) (Z e A)
  .obtain⟨e,A,B⟩:=n_.1 hy
   rw[nI] at B;exact⟨e,A,B.1,rc B.2⟩
 .have J:=(nN.1 Y).1
  have:=(oo.1 X) j (oc.2 J)
  rw[Y,H] at this;simp only[oS] at this;rcases this with((hj | hj) | hj) | hj
  .exact absurd (rc hj) G
  .obtain⟨e,A,B⟩:=n_.1 hj
   exact absurd (rc B) (F e A)
  .obtain⟨e,A,B⟩:=n_.1 hj
   rw[nI] at B;exact absurd (rc B.2) (E e A B.1)
  .exact hj
theorem zem{id:Nat}(F:P.follows .mixedOrders=true)(Y:fy P x y l)(Z:Kw p q (bA x y l)=true)(E:yO (jq p q (bA x y l))=true){Q:DE->St->Prop}(h:eR P (jq p q (bA x y l)) (Q .normal) 0 st):aT P (.region id l.toArray true) Q st:=by
 have A:=zo1 Z
 intro X w0 β a w B
 refine wp_region_any F ?_
 have J:ax X w0 st β a {w with drawn:=w.drawn+1}:=by
  have C:Below w.heap.size w {w with drawn:=w.drawn+1}:=⟨⟨rfl,rfl,rfl,nJ _,λ_ _=>rfl⟩,λ_=>rr _⟩
  have:=B.put C (dst:=none) (s:=.junk) (v:=undef) (by simp) (by simp[ah.lo]) (by simp[Sm])
  simpa[St.put,Act.put] using this
 have L:l.toArray.size=l.length:=by simp
 rw[L]
 have M:∀ c a w,¬(λ(e:Exit) a' w'=>∃ de st' β',yq e de/\Q de st'/\ax X w0 st' β' a' w') (.panic c) a w:=by
  rintro c a w ⟨de,st',β',I,_⟩
  cases de <;> exact I
 have O:¬LetsOut (λ(e:Exit) a' w'=>∃ de st' β',yq e de/\Q de st'/\ax X w0 st' β' a' w'):=by
  rintro⟨a,w,de,st',β',I,_⟩
  cases de <;> exact I
 have G:=Kx A
 have T:(bA x y l).length=l.length:=Ky
 refine(zo3 Y M O l.length).1 (Array.replicate l.length false) a _ (by simp) (by simp[left]) ?_
 rw[<-T]
 refine zo2 (P:=P) A (bA x y l).length _ (Array.replicate (bA x y l).length false) a _ ⟨by simp,by simp,λi hi=>?_⟩ ?_
 .have:=(A.mR i hi).1
  simp[Array.getD,hi,this]
 have H:∀ j,j<(jq p q (bA x y l)).length->¬cj (Array.replicate (bA x y l).length false) j:=by
  intro j hj h;rw[G] at hj;unfold cj at h;simp[Array.getD,hj] at h
 refine BP (P:=P) (X:=X) (w0:=w0) E (K:=Q .normal) (λa w st' β N V=>⟨.normal,st',β,trivial,N,V⟩) h β a _ _ J ⟨by simp[G],?_⟩ (λj hj=>⟨λh=>absurd h (H j hj),λh=>by omega⟩) _ ?_
 .intro j y hj S
  exact absurd S (H j (nN.1 hj).1)
 .simp[left]
end
theorem zkx{P:Program}{t:Nat}{parts:Array (Nat×Operand)}{o:Oper}(G:o.op = .build t parts){it:TypeInfo}{fields:Array Field}{z:Value}{places:List (Nat×Nat)}
  (H:P.info? t=some it) (F:P.underlying t=some (.struct fields)) (E:it.zero=some z) (K:fields.toList.mapM (λf=>(P.info? f.type).map λi=>(f.offset,i.size))=some places) (a:Act) :
  (∃ v,∀ w,(execOp a.eval o).run P w = .ok (.value v) w)\/∀ w,∃ h w1,(execOp a.eval o).run P w = .halt (.stuck h) w1:=by
 cases J:Instr.fill (λx=>places.toArray[x]?) z.cells (parts.map λ(i,x)=>(i,a.eval x)).toList with
 |some cells=>
  left
  refine⟨.agg cells,λw=>?_⟩
  have L:P.built t (parts.map λ(i,x)=>(i,a.eval x)).toList=some cells:=by
   unfold Program.built;simp only[H,F,E,K];exact J
  unfold execOp;simp only[G,Sem.run_bind,run_build w t _ cells L,Result.andThen_ok];rfl
 |none=>
  right
  intro w;have M:Instr.fill (λx=>places[x]?) z.cells (List.map (λx=>(x.1,a.eval x.2)) parts.toList)=none:=by simpa using J
  refine ⟨?_, w, ?_⟩
  rotate_left
  unfold execOp;simp[G,Instr.build,run_underlying F,typeInfo,zeroValue,H,E,v_,run_places w _ _ K,M,stuck]
  rfl
theorem zky{P:Program}{t:Nat}{o:Oper}(G:o.op = .alloc t){it:TypeInfo}{z:Value}(H:P.info? t=some it)(F:it.zero=some z)(a:Act)(w:World):∃ u w1,(execOp a.eval o).run P w = .ok (.value u) w1:=by
 refine⟨.pointer (some ⟨w.heap.size,0,none⟩),w.alloc (.cells z.cells t),?_⟩
 simp[execOp,G,Instr.alloc,zeroValue,typeInfo,H,F,newVar,newRow]
theorem zrv{P:Program}{st:St}(L:P.follows .mixedOrders=true)(x y:Nat)(p q:List Nat)(m:Nat)(vl:List Nat){id:Nat}{l ops:List Oper}{Q:DE->St->Prop}(N:fy P x y l)(S:Kw p q (bA x y l)=true)(W:jq p q (bA x y l)=ops)(M:yO ops=true)(hm:Nat.ble m ops.length=true)(E:(Nat.beq m ops.length || vF ops m)=true)(H:Yw ops m=true)(B:XA st.af=true)
  (h:jc P ops st.next vl (λstF cS hs=>XC ops (ops.take m) cS.reverse=true/\gk P (Q .normal) (ops.drop m) {st with next:=st.next+hs.length,af:=vi st.next hs++stF.af,own:=qA st.next hs++st.own}) (ops.take m) st [] []) :
  aT P (.region id l.toArray true) Q st:=by
 rw[so] at hm
 subst W
 refine zem L N S M ?_
 generalize jq p q (bA x y l)=ops at *
 have Y:Ag st (dt st):=BQ B
 obtain⟨Z,K⟩:=Eh (P:=P) (all:=ops) Y (nU _) []
 have e0:(vx (dt st) []).xt.own=st.own:=rfl
 rw[e0] at Z K
 have O:Seg.zU ⟨ops,0,0,(vx (dt st) []).cS.reverse,st,λ_=>st.own⟩ 0=st:=by
  unfold Seg.zU;simp[bL]
 have T:(ops.take m).length=m:=by rw[nR];omega
 obtain⟨F,st',hI,J,C,G,A⟩:=UI (l:=ops.take m) M (by simp) rfl Z O h
 rw[T,pG] at hI J
 have V:F.ow=st.own:=C
 have I:YC ops ((ops.drop 0).take (m-0)) F.cS.reverse 0 ((ops.drop 0).take (m-0)) F.cS.reverse=true/\eP (wJ F.cS.reverse)=true:=by
  unfold XC at G;rw[nI] at G;simpa using G
 obtain⟨g1,g2,g3⟩:=Eg (s0:=dt st) M hI K Y (xs':={(dt st) with next:=(dt st).next+F.hs.length,af:=YD F.xt (dt st).next F.hs,own:=qA (dt st).next F.hs++F.ow}) (by
  unfold W4;simp only
  rw[UW,nI];exact⟨I,rfl⟩)
 refine .ic (hi:=m) F.cS.reverse (λ_=>st.own) F.hs F.ow g1 g2 ?_ ?_
 .rw[oS,bm] at E
  exact E.elim .inr .inl
 .have X:Seg.ck ⟨ops,0,m,F.cS.reverse,st,λ_=>st.own⟩ F.hs F.ow = {st with next:=st.next+F.hs.length,af:=vi st.next F.hs++st'.af,own:=qA st.next F.hs++st.own}:=by
   unfold Seg.ck;rw[J,V]
  rw[X];generalize ({st with next:=st.next+F.hs.length,af:=vi st.next F.hs++st'.af,own:=qA st.next F.hs++st.own}:St)=stE at A;refine V7 hm rfl (λi h1 h2=>?_) A
  unfold Yw at H;rw[oo] at H;have:=H i (oc.2 h2)
  rw[oS,so] at this;rcases this with e | e
  .omega
  .exact e
end Go.V
namespace Go.V
open Go Go.Proofs Tryz
section
variable {P:Program} {st:St} {Q:DE->St->Prop}
theorem zcg{c:Code}(t e sz:Nat)(F:zc st.af t=some .aW)(h:aT P c Q {st.new (.aQ e sz []) with af:=(t,.ar st.next)::st.af}):aT P c Q st:=by
 intro X w0 β a w E
 have G:=E.Xn e sz
 refine h X w0 _ a w {G with af:=λk s hk=>?_}
 simp only[zc] at hk
 by_cases H:t=k
 .rw[gt H] at hk
  cases hk;refine⟨by simp[ah.lo,St.new],?_⟩
  have:=(E.af t _ F).2
  rw[H] at this;simp only[Sm] at this ⊢;rw[this];simp
 .rw[ge H] at hk
  exact G.af k s hk
end
def vq(l:List (List aG)):List (List D):=l.map λa=>[zh a]
def uo(g:aj)(w:List Int)(f:Nat)(a:List aG)(e:aP)(bf:Nat):List (List aG):=
 if xx g w<(zM g.aM (a++[⟨e.id,bf,0⟩])).length then [] else (if gV g w (a++[⟨e.id,bf,0⟩])=true then [a++[⟨e.id,bf,0⟩]] else [])++qn g w f (a++[⟨e.id,bf,0⟩])
def uU(g:aj)(w:List Int)(f:Nat)(a:List aG)(e:aP):List (List aG):=
 if e.cU∈jk g.bM (yu g.aM a) 20 then ((List.range e.aK.length).flatMap λbf=>uo g w f a e bf) else []
theorem Ob(g:aj)(w:List Int)(f:Nat)(a:List aG):qn g w (f+1) a=g.aM.flatMap λe=>uU g w f a e:=rfl
def DR(g:aj)(w:List Int)(a:List aG)(out:List (List aG))(b:Nat):St:=
 {n:=91,next:=1,af:=[(0,.d g.d),(1,.d (aa w)),(2,.d (zr a)),(3,.d (int (xx g w))),(4,.ar 0)],own:=[(0,.aQ 39 1 (vq out))],ai:=b}
def J4(g:aj)(w:List Int)(a:List aG)(b:Nat)(o:List (List aG))(k:Nat):St:=
 {n:=91,next:=4,af:=[(1,.d (aa w)),(3,.d (int (xx g w))),(4,.ar 0),(5,.bp 1 0),(7,.bp 2 0),(11,.d (aa (jk g.bM (yu g.aM a) 20))),(12,.d (int k))],own:=[(0,.aQ 39 1 (vq o)),(1,.box 36 (zj g.d)),(2,.box 39 [.d (zh a)])],ai:=b,aA:=[0]}
def jS(g:aj)(w:List Int)(a:List aG)(b:Nat)(k:Nat)(e:aP)(o:List (List aG))(bf:Nat):St:=
 {n:=91,next:=5,af:=[(1,.d (aa w)),(3,.d (int (xx g w))),(4,.ar 0),(5,.bp 1 0),(7,.bp 2 0),(11,.d (aa (jk g.bM (yu g.aM a) 20))),(12,.d (int k)),(13,.bp 4 0),(14,.d (int bf))],own:=[(0,.aQ 39 1 (vq o)),(1,.box 36 (zj g.d)),(2,.box 39 [.d (zh a)]),(4,.box 102 (e.row.map .d))],ai:=b,aA:=[0]}
theorem zkz(g:aj)(w:List Int)(f:Nat)(a:List aG)(e:aP)(k:Nat):(List.range (k+1)).flatMap (λbf=>uo g w f a e bf)=(List.range k).flatMap (λbf=>uo g w f a e bf)++uo g w f a e k:=by
 rw[qr,oW,pQ]
def Oc(g:aj)(w:List Int)(f:Nat):Prop:=∀ (a:List aG) (out:List (List aG)),a.length+f=4->(∀ p∈a,qE g.aM p=0)->out.length+(qn g w f a).length<=2^30 ->
 aU prog 275 [.d g.d,.d (aa w),.d (zr a),.d (int (xx g w)),.ar 0] [(0,.aQ 39 1 (vq out))] 1 (.ar 0) 1 [(0,.aQ 39 1 (vq (out++qn g w f a)))] [0]
theorem Oe(g:aj)(hg:aH g)(hc:bC g)(w:List Int)(hw:w.length<=24)(f:Nat)(ih:Oc g w f)(a:List aG)(out:List (List aG))(hl:a.length+(f+1)=4)(hv:∀ p∈a,qE g.aM p=0)(ho:out.length+(qn g w (f+1) a).length<=2^30)(b:Nat)(hb:b<=1):
  ∀ body,f275.body=some body->aT prog body (cJ (wy (fF prog f275.results.toList b (.ar 0) 1 [(0,.aQ 39 1 (vq (out++qn g w (f+1) a)))] [0]))) (DR g w a out b):=by
 intro body L
 have hR:=hg.kJ hc
 have hC:=EP g hR.aM a (by omega)
 have Hb:=XO g.aM a
 have hF:=zd5 g.bM hg.j3 (yu g.aM a) (by omega)
 have Hc:=M4 g.bM (yu g.aM a) 20
 have S:¬(a.length:Int)=4:=by omega
 simp only[f275,pB] at L
 subst L
 refine cy ?_
 simp+decide[DR,int,aj.d,zr,zh,zj,S]
 refine bw hC ?_
 simp+decide[int,aa,aj.d,zr,zh,zj]
 refine bw hF ?_
 simp+decide[int,aa,aj.d,zr,zh,zj]
 refine dg (λk:Nat=>J4 g w a b (out++(g.aM.take k).flatMap λe=>uU g w f a e) k) g.aM.length
  (by simp+decide[J4,int,aa,aj.d,zh,zj];try omega) ?_
 intro k hk
 by_cases O:k<g.aM.length
 case neg=>
  obtain rfl:k=g.aM.length:=by omega
  rw[nH,<-Ob];simp+decide[J4,int,aa,aj.d,zm,zj,wy,St.vL];exact hb
 have B:=bG O
 have K:=nF O
 have aI:(g.aM.take (k+1)).flatMap (λe=>uU g w f a e)=(g.aM.take k).flatMap (λe=>uU g w f a e)++uU g w f a g.aM[k]:=by rw[yh O,oW,pQ]
 have H:((g.aM.take (k+1)).flatMap (λe=>uU g w f a e)).length<=(qn g w (f+1) a).length:=by
  rw[Ob];conv=>rhs;rw[<-oT (k+1) g.aM,oW,nO]
  omega
 obtain⟨e,ee,e1⟩:=bN O
 rw[ee] at K aI
 rw[aI,nO] at H
 generalize (g.aM.take k).flatMap (λe=>uU g w f a e)=o0 at aI H
 have hH:=G3 (jk g.bM (yu g.aM a) 20) e.cU (by omega)
 simp+decide[J4,int,aa,aj.d,zm,zj,O,B,ee,e1,aP.row]
 refine zg hH ?_
 by_cases X:e.cU∈jk g.bM (yu g.aM a) 20
 case neg=>
  have W:uU g w f a e=[]:=by unfold uU;rw[ge X]
  rw[W,oq] at aI;simp+decide[int,X,aB,aa,aj.d,zj];have C:=hg.dQ.cW;exact⟨by omega,k+1,O,by omega,by omega,by omega,by rw[aI]⟩
 have I:uU g w f a e=(List.range e.aK.length).flatMap (λbf=>uo g w f a e bf):=by unfold uU;rw[gt X]
 rw[I] at aI H
 simp+decide[int,X,aB,aa,aj.d,zj]
 refine xP (λbf:Nat=>jS g w a b k e (out++(o0++(List.range bf).flatMap λbf=>uo g w f a e bf)) bf) e.aK.length
  (by simp+decide[jS,int,aa,aj.d,zh,zj,aP.row];exact⟨by omega,rfl⟩) ?_
 intro bf ha
 have hL:=Gt e (by have:=hR.aM.cm e K;omega)
 by_cases T:bf<e.aK.length
 case neg=>
  obtain rfl:bf=e.aK.length:=by omega
  refine cy ?_
  simp+decide[jS,int,aa,aj.d,zj,aP.row];refine zg hL ?_
  simp+decide[int,yk,aB,J4,jS,aj.d,zj,aP.row,aa];have C:=hg.dQ.cW;exact⟨by omega,k+1,O,by omega,by omega,by omega,by rw[aI],rfl⟩
 have N:=bG T
 refine jb mixed 1 (jS g w a b k e (out++(o0++(List.range bf).flatMap λbf=>uo g w f a e bf)) bf) rfl ?_ ?_
 .simp+decide[yo,jS,int,aa,aj.d,zj,aP.row]
  refine zg hL ?_
  simp+decide[int,yk,qL,N,jS,aj.d,zj,aP.row,aa];omega
 simp only[yK]
 refine XB (ZH ?_) mixed
 let bp:=a++[(⟨e.id,(bf:Int),0⟩:aG)]
 let S3:St:={n:=91,next:=7,af:=[(1,.d (aa w)),(3,.d (int (xx g w))),(4,.ar 0),(5,.bp 1 0),(7,.bp 2 0),(11,.d (aa (jk g.bM (yu g.aM a) 20))),(12,.d (int k)),(13,.bp 4 0),(14,.d (int bf)),(15,.bp 5 0)],own:=[(5,.box 39 [.ar 6]),(6,.aQ 96 3 (bp.map aG.row)),(0,.aQ 39 1 (vq (out++(o0++(List.range bf).flatMap λbf=>uo g w f a e bf)))),(1,.box 36 (zj g.d)),(2,.box 39 [.d (zh a)]),(4,.box 102 (e.row.map .d))],ai:=b,aA:=[0]}
 refine JL S3 ?_ ?_
 .refine zrv mixed 11 10 [0,1,2,3,4,5,6,7,8,9,11,10,12] [0,1,2,3,4,5,6,7,8,9,11,10,12] 11 [60] (zo4 (by rfl) ?_ ?_) (by rfl) rfl (by rfl) (by rfl) (by rfl) (by rfl) (by rfl) ?_
  .intro ox ho a w
   cases ho;exact zky rfl (by rfl) (by rfl) a w
  .intro oy ho a
   cases ho;exact zkx rfl (by rfl) (by rfl) (by rfl) (by rfl) a
  simp+decide[jS,int,aa,aj.d,zj,aP.row,zh,aG.row,jq,Yf,Qi,bA];refine⟨⟨by omega,by unfold maxLen;omega⟩,⟨by omega,by unfold maxLen;omega⟩,by rfl,?_⟩
  simp+decide[S3,bp,int,aa,aj.d,zj,aP.row,zh,aG.row];omega
 refine ZI [6] ?_
 have Hd:bp.length=a.length+1:=by simp[bp]
 have hB:=Gu g hR.aM bp (by omega)
 refine cy ?_
 simp+decide[S3,int,aa,aj.d,zj,aP.row,zh,aG.row]
 refine zg hB ?_
 have G:=zkz g w f a e bf
 have Hi:a++[(⟨e.id,(bf:Int),0⟩:aG)]=bp:=rfl
 have P:∀ p∈bp,qE g.aM p=0:=by
  intro p hp;rcases nM.1 hp with h | h
  .exact hv p h
  .rw[nQ] at h;rw[h];exact Dk hg K T
 have F:((List.range (bf+1)).flatMap (λbf=>uo g w f a e bf)).length<=((List.range e.aK.length).flatMap (λbf=>uo g w f a e bf)).length:=by
  have:List.range e.aK.length=List.range (bf+1)++(List.range (e.aK.length-(bf+1))).map (bf+1 + ·):=by
   rw[<-List.range_add];congr 1;omega
  rw[this,oW,nO];omega
 rw[G,nO] at F
 have H0:=GG g hR w (by omega) bp (by omega)
 have Hp:=(hg.dQ.aK e K).2.1
 have H1:e.aK.length<=2:=by simp[aP.aK];omega
 have halt:uo g w f a e bf=if xx g w<(zM g.aM bp).length then [] else (if gV g w bp=true then [bp] else [])++qn g w f bp:=rfl
 have M:gV g w bp=(decide (w.length<=(zM g.aM bp).length)&&jh g w bp):=rfl
 generalize (List.range bf).flatMap (λbf=>uo g w f a e bf)=o1 at G F
 clear_value bp
 by_cases V:xx g w<(zM g.aM bp).length
 .rw[gt V] at halt
  rw[halt,oq] at G;have J:(xx g w:Int)<(zM g.aM bp).length:=by omega
  simp+decide[int,aa,V,J,aB,jS,aj.d,zj,aP.row,zh];exact⟨by omega,bf+1,T,by omega,by omega,by omega,by rw[G]⟩
 rw[ge V] at halt
 have J:¬(xx g w:Int)<(zM g.aM bp).length:=by omega
 rw[halt] at G F
 by_cases Y:w.length<=(zM g.aM bp).length
 case neg=>
  have Q:¬(w.length:Int)<=(zM g.aM bp).length:=by omega
  have Z:gV g w bp=false:=by rw[M,pH Y];rfl
  rw[Z,ge (by decide),oP] at G F
  simp+decide[int,aa,V,J,Y,Q,aB,jS,aj.d,zj,aP.row,zh];have E:=ih bp (out++(o0++o1)) (by omega) P (by simp only[nO,nP,pc] at H F ⊢;omega)
  refine zE.mut [0] [.d g.d,.d (aa w),.d (zr bp),.d (int (xx g w)),.ar 0] [(0,.aQ 39 1 (vq (out++(o0++o1))))] (by rfl) (by simp[yf,cg,ce,aj.d,int,aa,zr,zh]) (by simp) ?_ E ?_
  .simp[cV,jC,St.ay,zc,vE,yf,cg,ce,List.range,List.range.loop]
  simp+decide[int,aa,aB,jS,aj.d,zj,aP.row,zh];exact⟨by omega,bf+1,T,by omega,by omega,by omega,by rw[G];try simp[pA]⟩
 have Q:(w.length:Int)<=(zM g.aM bp).length:=by omega
 simp+decide[int,aa,V,J,Y,Q,aB,jS,aj.d,zj,aP.row,zh]
 refine zg H0 ?_
 have Z:gV g w bp=jh g w bp:=by rw[M,pI Y];rfl
 cases A:jh g w bp with
 |false=>
  rw[Z,A,ge (by decide),oP] at G F
  simp+decide[int,aa,A,aB,jS,aj.d,zj,aP.row,zh];have E:=ih bp (out++(o0++o1)) (by omega) P (by simp only[nO,nP,pc] at H F ⊢;omega)
  refine zE.mut [0] [.d g.d,.d (aa w),.d (zr bp),.d (int (xx g w)),.ar 0] [(0,.aQ 39 1 (vq (out++(o0++o1))))] (by rfl) (by simp[yf,cg,ce,aj.d,int,aa,zr,zh]) (by simp) ?_ E ?_
  .simp[cV,jC,St.ay,zc,vE,yf,cg,ce,List.range,List.range.loop]
  simp+decide[int,aa,aB,jS,aj.d,zj,aP.row,zh];exact⟨by omega,bf+1,T,by omega,by omega,by omega,by rw[G];try simp[pA]⟩
 |true=>
  rw[Z,A,gt rfl] at G F;simp+decide[int,aa,A,aB,jS,aj.d,zj,aP.row,zh];have hX:vq (out++(o0++o1))++[[D.sl (bp.map aG.row)]]=vq (out++(o0++(o1++[bp]))):=by simp[vq,zh]
  have H2:(vq (out++(o0++o1))).length=out.length+(o0.length+o1.length):=by simp[vq]
  rw[hX,H2];refine⟨by simp only[nO,nP,pc] at H F;omega,by unfold maxLen;simp only[nO,nP,pc] at H F;omega,?_⟩
  have E:=ih bp (out++(o0++(o1++[bp]))) (by omega) P (by simp only[nO,nP,pc] at H F ⊢;omega)
  refine zE.mut [0] [.d g.d,.d (aa w),.d (zr bp),.d (int (xx g w)),.ar 0] [(0,.aQ 39 1 (vq (out++(o0++(o1++[bp])))))] (by rfl) (by simp[yf,cg,ce,aj.d,int,aa,zr,zh]) (by simp) ?_ E ?_
  .simp[cV,jC,St.ay,zc,vE,yf,cg,ce,List.range,List.range.loop]
  simp+decide[int,aa,aB,jS,aj.d,zj,aP.row,zh];exact⟨by omega,bf+1,T,by omega,by omega,by omega,by rw[G];try simp[pA]⟩
end Go.V
namespace Go.V
open Go Go.Proofs Tryz
theorem zen{P:Program}{c:Code}{Q:DE->St->Prop}{st st':St}(h:dx st st')(H:aT P c Q st'):aT P c Q st:=λX w0 β a w hm=>H X w0 β a w (hm.dY h)
theorem Og{P:Program}{f:Nat}{fn:Func}{c:Code}(F:P.funcs[f]?=some fn)(E:fn.body=some c)(H:aN P f=true)
  {args:List ah} {own:List (Nat×am)} {n:Nat} {s:ah} {nx:Nat} {own':List (Nat×am)} {mv:List Nat} (K:ah.a_ n args)
  (h:aT P c (cJ (wy (fF P fn.results.toList n s nx own' mv))) (cz fn.ntmps args own n)):aU P f args own n s nx own' mv:=by
 refine⟨H,λX w0 β w vs hβ J hs=>?_⟩
 refine calls_of_wp F E ?_
 refine wp_mono (h X w0 _ _ w (J.cz hs K)) ?_
 rintro e a' w' ⟨de,st',β',L,M,G⟩
 cases e <;> cases de <;> simp only[yq] at L
 .obtain⟨v,O,Q,T,V⟩:=uD J.defers G.vL M
  exact⟨G.defers.trans J.defers.symm,v,O,β',v,rfl,Q,T,V⟩
 .exact M.elim
 .obtain⟨v,O,Q,T,V⟩:=uD J.defers G.vL M
  exact⟨G.defers.trans J.defers.symm,v,O,β',v,rfl,Q,T,V⟩
theorem zo5(g:aj)(w:List Int)(a:List aG)(out:List (List aG))(G:a.length=4):
  aU prog 275 [.d g.d,.d (aa w),.d (zr a),.d (int (xx g w)),.ar 0] [(0,.aQ 39 1 (vq out))] 1 (.ar 0) 1 [(0,.aQ 39 1 (vq out))] [0]:=by
 have H:(a.length:Int)=4:=by omega
 refine K8 mixed func275 rfl lE (by simp[ah.a_,ah.lo]) ?_
 simp+decide[f275,int,aj.d,zr,zh,zj,H,wy,St.vL]
theorem zo6{g:aj}(H:aH g)(w:List Int)(f:Nat)(G:f<=4)(a:List aG):(qn g w f a).length<=11110:=by
 refine oC (DL H w f a) ?_
 have:f=0\/f=1\/f=2\/f=3\/f=4:=by omega
 rcases this with h | h | h | h | h <;> subst h <;> decide
theorem Oh(g:aj)(H:aH g)(G:bC g)(w:List Int)(F:w.length<=24):∀ f,Oc g w f
 |0=>by
  intro a out E K J;have:=zo5 g w a out (by omega)
  rw[show qn g w 0 a=[] from rfl,oq]
  exact this
 |f+1=>by
  intro a out E K J;refine Og func275 rfl lE (by simp[ah.a_,ah.lo]) ?_
  exact Oe g H G w F f (Oh g H G w F f) a out E K J 1 (nJ _) _ rfl
theorem zrx(g:aj)(H:aH g)(G:bC g)(w:List Int)(F:w.length<=24):
  aU prog 275 [.d g.d,.d (aa w),.d (zr []),.d (int (xx g w)),.aW] [] 0 (.ar 0) 1 [(0,.aQ 39 1 (vq (qn g w 4 [])))] [0]:=by
 refine Og func275 rfl lE (by simp[ah.a_,ah.lo]) ?_
 refine zcg 4 39 1 (by rfl) ?_
 have E:=Oe g H G w F 3 (Oh g H G w F 3) [] [] rfl (λp K=>by cases K) (by have:=zo6 H w 4 (by omega) [];simp;omega) 0 (by omega) _ rfl
 refine zen ?_ E
 simp+decide[DR,cz,Yu,St.new,vq,int,aj.d,zr,zh,f275]
theorem zk0{w:World}{E:Nat->Prop}{β:Nat->Value}{v:Value}(h:Sm w E β (.agg [.aW]) v):Sm w E β (.d (zr [])) v:=by
 simp only[Sm,zi] at h
 obtain⟨vs,rfl,⟨u,us,rfl,H,rfl⟩,G⟩:=h
 have F:R w E (.sl []) u:=Dv (w:=w) (E:=E) (β:=β) (v:=u) (by simp only[Sm];exact H)
 show R w E (.agg [.sl []]) _
 unfold R
 refine⟨[u],rfl,?_⟩
 unfold zl
 exact⟨u,[],rfl,G u (by simp),F,by unfold zl;rfl⟩
theorem Oi{P:Program}{f:Nat}{a b m:ah}{own:List (Nat×am)}{n:Nat}{r:ah}{nx:Nat}{own':List (Nat×am)}{mv:List Nat}
  (h:aU P f [a,b,.d (zr []),m,.aW] own n r nx own' mv):aU P f [a,b,.agg [.aW],m,.aW] own n r nx own' mv:=by
 refine h.args λw E β vs hs=>?_
 simp only[zi] at hs ⊢
 obtain⟨v1,_,rfl,H,v2,_,rfl,G,v3,_,rfl,F,v4,_,rfl,K,v5,_,rfl,J,rfl⟩:=hs
 exact⟨v1,_,rfl,H,v2,_,rfl,G,v3,_,rfl,zk0 (by simpa only [Sm,zi] using F),v4,_,rfl,K,v5,_,rfl,J,rfl⟩
theorem zeo(g:aj)(K:aH g)(J:bC g)(w:List Int)(L:w.length<=30):aq prog 243 [g.d,aa w] (zG (yY g w)):=by
 refine aF func243 ?_
 by_cases M:w.length=0
 .have H:(w.length:Int)=0:=by omega
  simp+decide[f243,zj,aj.d,int,aa,M,H,yY,zG];done
 have H:¬(w.length:Int)=0:=by omega
 by_cases O:24<w.length
 .have G:(24:Int)<w.length:=by omega
  simp+decide[f243,zj,aj.d,int,aa,M,H,O,G,yY,zG];done
 have G:¬(24:Int)<w.length:=by omega
 have Q:=K.kJ J
 have T:=zfu g (by have:=Q.ba.2;omega) (λr V=>by have O:=(Q.ba.1 r V).dst;have X:=(Q.ba.1 r V).bl;omega)
 have Y:=zrx g K J w (by omega)
 have E:yY g w=qn g w 4 []:=by unfold yY;rw[ge (by omega)]
 rw[E]
 simp+decide[f243,zj,aj.d,int,aa,M,H,O,G]
 refine zg T ?_
 cases F:gn g.ba with
 |true=>
  have Z:xx g w=24:=by unfold xx;rw[gt F]
  rw[Z] at Y;simp+decide[int,aa,zG,aj.d];refine zE.mut [] [.d g.d,.d (aa w),.agg [.aW],.d (int 24),.aW] [] (by rfl) (by simp[yf,cg,ce,aj.d,int,aa]) (by simp) ?_ (Oi Y) ?_
  .simp[cV,jC,List.range,List.range.loop]
  simp+decide[int,aa,zG,vq]
 |false=>
  have Z:xx g w=w.length:=by unfold xx;rw[ge (by rw[F];decide)]
  rw[Z] at Y;simp+decide[int,aa,zG,aj.d];refine zE.mut [] [.d g.d,.d (aa w),.agg [.aW],.d (int w.length),.aW] [] (by rfl) (by simp[yf,cg,ce,aj.d,int,aa]) (by simp) ?_ (Oi Y) ?_
  .simp[cV,jC,List.range,List.range.loop]
  simp+decide[int,aa,zG,vq]
theorem Oj{α:Type}{lt:α->α->Bool}(YT:∀ a,lt a a=false)(tr:∀ {a b c},lt a b=true->lt b c=true->lt a c=true):∀ {l m:List α},(l.Pairwise λa b=>lt a b=true)->(m.Pairwise λa b=>lt a b=true)->(∀ x,x∈l↔x∈m)->l=m
 | [],[],_,_,_=>rfl
 | [],y::m,_,_,h=>by have:=(h y).2 (nL ..);cases this
 |x::l,[],_,_,h=>by have:=(h x).1 (nL ..);cases this
 |x::l,y::m,G,F,h=>by
  rw[pM] at G F;have H:x=y:=by
   rcases nE.1 ((h x).1 (nL ..)) with e | e
   .exact e
   .rcases nE.1 ((h y).2 (nL ..)) with e2 | e2
    .exact e2.symm
    .have E:=F.1 x e
     have K:=G.1 y e2;have:=tr E K
     rw[YT] at this;cases this
  subst H;congr 1
  refine Oj YT tr G.2 F.2 λz=>?_
  constructor
  .intro J
   rcases nE.1 ((h z).1 (nG _ J)) with e | e
   .subst e
    have:=G.1 z J
    rw[YT] at this;cases this
   .exact e
  .intro J
   rcases nE.1 ((h z).2 (nG _ J)) with e | e
   .subst e
    have:=F.1 z J
    rw[YT] at this;cases this
   .exact e
def sN(g:aj)(p:aG):Nat:=(xg g.aM p.entry).length
theorem Ol{l:List aP}(h:∀ e∈l,e.aL.length<=5):∀ aD,(jg l aD).length<=5
 | []=>by simp[jg]
 |x::r=>by
  unfold jg;split
  .unfold zF
   cases H:l.find? (·.id=x) with
   |none=>simp[aP.zero]
   |some e=>exact h e (qv H)
  .exact Ol h r
theorem Om{g:aj}(H:aH g)(p:aG):sN g p<=5:=by
 unfold sN xg
 rw[Vl]
 exact Ol (λe G=>(H.aM.d_ e G).fewS) _
theorem DT(g:aj)(H:aH g)(G:bC g)(p:aG):aq prog 276 [g.d,.agg p.row] (int (sN g p)):=by
 have F:=H.kJ G
 have E:=Gs g.aM p.entry F.aM.len
 refine aF func276 ?_
 simp+decide[f276,int,aG.row,aj.d,zj]
 refine zg E ?_
 simp+decide[int,zW,sN]
def yG(g:aj):List aG->Nat
 | []=>1
 |p::ps=>sN g p*yG g ps
theorem On(g:aj):∀ a b:List aG,yG g (a++b)=yG g a*yG g b
 | [],b=>by simp[yG]
 |p::ps,b=>by rw[nV,yG,yG,On g ps b,Nat.mul_assoc]
theorem DU{g:aj}(H:aH g):∀ a:List aG,yG g a<=5^a.length
 | []=>by simp[yG]
 |p::ps=>by
  rw[yG,nP,At,Nat.mul_comm];exact Nat.mul_le_mul (DU H ps) (Om H p)
theorem Oo{k:Nat}(h:k<=4):5^k<=625:=by
 have:k=0\/k=1\/k=2\/k=3\/k=4:=by omega
 rcases this with h | h | h | h | h <;> subst h <;> decide
theorem Oq(g:aj)(E:aH g)(K:bC g)(a:List aG)(J:a.length<=4):aq prog 244 [g.d,zr a] (int (yG g a)):=by
 refine aF func244 ?_
 simp+decide[f244,int,zr,zh,aj.d,zj]
 refine xP (λk:Nat=>{n:=24,next:=2,af:=[(2,.bp 0 0),(3,.bp 1 0),(5,.d (int (yG g (a.take k)))),(6,.d (int k))],own:=[(0,.box 36 (zj g.d)),(1,.box 39 [.d (zh a)])]}) a.length ?_ ?_
 .simp+decide[int,aa,zr,zh,aj.d,zj,yG]
 intro k L
 refine cy ?_
 by_cases H:k<a.length
 case neg=>
  obtain rfl:k=a.length:=by omega
  rw[nH];simp+decide[int,aa,zr,zh,aj.d,zj]
 have G:=bG H
 obtain⟨p,ep,e1⟩:=bN H
 have aI:yG g (a.take (k+1))=yG g (a.take k)*sN g p:=by rw[yh H,On,ep];simp[yG]
 have F:yG g (a.take (k+1))<=625:=oC (DU E _) (Oo (by rw[nR];omega))
 simp+decide[int,aa,zr,zh,aj.d,zj,H,G,ep,e1,aG.row]
 refine bw (DT g E K p) ?_
 simp+decide[int,aa,zr,zh,aj.d,zj,H,G,ep,e1,aG.row,aB]
 have M:((yG g (a.take k):Nat):Int)*((sN g p:Nat):Int)=((yG g (a.take (k+1)):Nat):Int):=by rw[aI,Int.natCast_mul]
 rw[M]
 exact⟨by omega,by omega,k+1,H,by omega,rfl,by omega⟩
def xE(g:aj):List aG->Nat->List aG
 | [],_=>[]
 |p::ps,n=>⟨p.entry,p.bf,((n%sN g p:Nat):Int)⟩::xE g ps (n/sN g p)
theorem Xd(g:aj):∀ (a:List aG) (n:Nat),(xE g a n).length=a.length
 | [],_=>rfl
 |p::ps,n=>by rw[xE,nP,nP,Xd g ps]
def jT(g:aj):List aG->Nat->Nat
 | [],n=>n
 |p::ps,n=>jT g ps (n/sN g p)
theorem Ot(g:aj):∀ (a b:List aG) (n:Nat),jT g (a++b) n=jT g b (jT g a n)
 | [],b,n=>rfl
 |p::ps,b,n=>by rw[nV,jT,jT,Ot g ps b]
theorem Ou(g:aj):∀ (a b:List aG) (n:Nat),xE g (a++b) n=xE g a n++xE g b (jT g a n)
 | [],b,n=>rfl
 |p::ps,b,n=>by rw[nV,xE,xE,jT,Ou g ps b,nV]
theorem Ox(g:aj):∀ (a:List aG) (n:Nat),jT g a n<=n
 | [],n=>nJ _
 |p::ps,n=>oC (Ox g ps _) (Nat.div_le_self _ _)
theorem zry(g:aj)(hg:aH g)(hc:bC g)(a:List aG)(ha:a.length<=4)(hv:∀ p∈a,0<sN g p)(n:Nat)(hn:n<=2^20):aq prog 246 [g.d,zr a,int n] (zr (xE g a n)):=by
 refine aF func246 ?_
 simp+decide[f246,int,zr,zh,aj.d,zj]
 refine⟨λp _=>rfl,by omega,by unfold maxLen;omega,?_⟩
 refine xP (λk:Nat=>{n:=41,next:=4,af:=[(2,.d (int (jT g (a.take k) n))),(3,.bp 0 0),(4,.bp 1 0),(6,.bp 2 0),(7,.ar 3),(8,.d (int k))],own:=[(0,.box 36 (zj g.d)),(1,.box 39 [.d (zh a)]),(2,.box 39 [.aW]),(3,.aQ 96 3 ((xE g (a.take k) n++a.drop k).map aG.row))],aA:=[3]}) a.length ?_ ?_
 .simp+decide[int,aa,zr,zh,aj.d,zj,xE,jT]
 intro k hk
 refine cy ?_
 by_cases F:k<a.length
 case neg=>
  obtain rfl:k=a.length:=by omega
  rw[nH,pL,oq];have C:=Xd g a n;simp+decide[int,aa,zr,zh,aj.d,zj,C]
 have E:=bG F
 obtain⟨p,ep⟩:∃ p,a[k]=p:=⟨_,rfl⟩
 have I:0<sN g p:=by rw[<-ep];exact hv _ (nF F)
 have J:¬(sN g p:Int)=0:=by omega
 have N:=Om hg p
 have P:jT g (a.take k) n<=n:=Ox g _ _
 have hN:jT g (a.take (k+1)) n=jT g (a.take k) n/sN g p:=by rw[yh F,Ot,ep];rfl
 have hL:xE g (a.take (k+1)) n=xE g (a.take k) n++[⟨p.entry,p.bf,((jT g (a.take k) n%sN g p:Nat):Int)⟩]:=by rw[yh F,Ou,ep];rfl
 have M:(xE g (a.take k) n).length=k:=by rw[Xd,nR];omega
 have S:a.drop k=p::a.drop (k+1):=by rw[nY F,ep]
 rw[S]
 generalize jT g (a.take k) n=m at hN hL P
 generalize xE g (a.take k) n=L1 at hL M
 have Y:(L1++p::a.drop (k+1)).length=a.length:=by simp[M];omega
 have L:(L1++p::a.drop (k+1))[k]?=some p:=by rw[pF (by omega),M];simp
 have H:((L1++p::a.drop (k+1)).map aG.row).set k [int p.entry,int p.bf,int ((m%sN g p:Nat):Int)]=(xE g (a.take (k+1)) n++a.drop (k+1)).map aG.row:=by
  rw[hL,pA,sx,oF,oF,nK,nK,A_ _ _ (by rw[om];omega)]
  rw[om,M,rU,tc];rfl
 have G:(xE g (a.take (k+1)) n++a.drop (k+1))[k]?=some ⟨p.entry,p.bf,((m%sN g p:Nat):Int)⟩:=by
  rw[hL,pA,sx,pF (by omega),M];simp
 have O:(xE g (a.take (k+1)) n++a.drop (k+1)).length=a.length:=by rw[nO,Xd,nR,oO];omega
 have A:=DT g hg hc p
 have V:=DT g hg hc ⟨p.entry,p.bf,((m%sN g p:Nat):Int)⟩
 rw[show sN g ⟨p.entry,p.bf,((m%sN g p:Nat):Int)⟩=sN g p from rfl] at V
 generalize L1++p::a.drop (k+1)=L2 at Y L H
 generalize W:xE g (a.take (k+1)) n++a.drop (k+1)=L3 at H G O
 generalize sN g p=sn at I J N hN A V H G
 have Z:(m:Int).tmod (sn:Int)=((m%sn:Nat):Int):=(Int.ofNat_tmod m sn).symm
 have B:(m:Int).tdiv (sn:Int)=((m/sn:Nat):Int):=(Int.ofNat_tdiv m sn).symm
 have H0:m/sn<=m:=Nat.div_le_self _ _
 have Q:¬sn=0:=by omega
 generalize m%sn=mm at Z V H G
 generalize m/sn=mq at B hN H0
 have T:k<L2.length:=by omega
 have K:(k:Int)<L2.length:=by omega
 have H1:k<L3.length:=by omega
 have X:L2[k]=p:=by rw[ac T] at L;exact ph L
 simp+decide[int,aa,zr,zh,aj.d,zj,F,E,T,K,X]
 refine Z8 mixed 12 [3] (by rfl) (by rfl) (by rfl) (by rfl) (by simp) ?_
 simp+decide[int,aa,zr,zh,aj.d,zj,F,E,T,K,X,aG.row]
 refine bw A ?_
 simp+decide[int,aa,zr,zh,aj.d,zj,F,E,T,K,X,aG.row,J,Z]
 refine⟨Q,?_⟩
 refine bw V ?_
 simp+decide[int,aa,zr,zh,aj.d,zj,F,E,T,K,X,aG.row,J,Z,B,Q,aB]
 exact⟨by omega,by omega,k+1,F,by omega,⟨by rw[hN],by omega⟩,by rw[<-tE,<-oF,W];exact H⟩
theorem zo7(l:List (List aG))(a:List aG)(J:l.length<=200)(L:∀ b∈l,b.length<=4)(M:a.length<=4):aq prog 245 [zG l,zr a] (zG (dE (λo=>zP a o) a l)):=by
 refine aF func245 ?_
 simp+decide[f245,int,zr,zh,zG]
 have G:∀ r∈l.map (λa=>[D.sl (a.map aG.row)]),r.length=1:=λr O=>by obtain⟨_,_,rfl⟩:=nS.1 O;rfl
 refine qg (λk:Nat=>{n:=33,next:=1,af:=[(0,.d (zG l)),(3,.bp 0 0),(5,.d (int k))],own:=[(0,.box 39 [.d (zh a)])]})
  (λk=>k<=l.length/\qq (λo=>zP a o) l k=qq (λo=>zP a o) l l.length) (λk=>k) l.length ⟨nJ _,rfl⟩ ?_ ?_
 .simp+decide[int,aa,zr,zh,zG]
 intro k ⟨Q,H⟩
 cases k with
 |zero=>
  refine cy ?_
  simp+decide[int,aa,zr,zh,zG];refine kh 12 [27] ?_
  simp+decide[int,aa,zr,zh,zG];refine⟨⟨λr O=>G r (oh O),by omega,by unfold maxLen;omega⟩,by rfl,?_⟩
  rw[dE,<-H,qq];simp only[List.take_zero,p_,oP,nK];rw[oa (by simp)]
 |succ k=>
  obtain⟨o,eo,e1⟩:=bN Q;have E:=L l[k] (nF Q);rw[eo] at E;have K:=Wa a o (by omega) (by omega)
  rw[qq,e1] at H;simp only at H
  have F:(0:Int)<(k:Int)+1:=by omega
  refine cy ?_
  simp+decide[int,aa,zr,zh,zG,Q,e1,eo,F,aB];refine⟨by omega,Q,?_⟩
  refine bw K ?_
  cases J:zP a o with
  |true=>
   rw[J,gt rfl] at H;simp+decide[int,aa,zr,zh,zG,Q,e1,eo,F,J,aB];exact⟨by omega,k,⟨by omega,H⟩,by omega,rfl⟩
  |false=>
   rw[J,ge (by decide)] at H
   simp+decide[int,aa,zr,zh,zG,Q,e1,eo,F,J,aB];refine kh 12 [27] ?_
   simp+decide[int,aa,zr,zh,zG];refine⟨by omega,⟨λr O=>G r (oh O),by omega,by unfold maxLen;omega⟩,⟨by omega,by unfold maxLen;omega⟩,by omega,⟨λr O=>G r (oh (oH O)),by omega,by unfold maxLen;omega⟩,by rfl,?_⟩
   rw[dE,<-H,oF,nK,rG,tE];congr 3
   rw[oa (by simp)]
theorem Oy{g:aj}:∀ {a:List aG} {n:Nat},(∀ p∈a,0<sN g p)->cM g a (xE g a n)
 | [],_,_=>trivial
 |p::ps,n,h=>by
  have H:=h p (nL ..);have:=Nat.mod_lt n H
  exact⟨⟨rfl,rfl,by show(0:Int)<=((n%sN g p:Nat):Int);omega,by show((n%sN g p:Nat):Int)<(sN g p:Int);omega⟩,Oy λx G=>h x (nG _ G)⟩
theorem Oz{g:aj}:∀ {a q:List aG},cM g a q->∃ n,n<yG g a/\xE g a n=q
 | [],[],_=>⟨0,by simp[yG],rfl⟩
 | [],_::_,h=>h.elim
 |_::_,[],h=>h.elim
 |p::ps,q::qs,h=>by
  obtain⟨⟨G,F,E,K⟩,J⟩:=h;obtain⟨m,L,e⟩:=Oz J;have H:q.bu.toNat<sN g p:=by unfold sN;omega
  refine⟨q.bu.toNat+sN g p*m,?_,?_⟩
  .rw[yG]
   have:sN g p*(m+1)<=sN g p*yG g ps:=sW _ L
   rw[Nat.mul_add,Nat.mul_one] at this;omega
  .rw[xE,Nat.add_mul_mod_self_left,xV H,Nat.add_mul_div_left _ _ (by omega),Nat.div_eq_of_lt H,pG,e]
   congr 1
   exact aG.ext' G.symm F.symm (by show((q.bu.toNat:Nat):Int)=q.bu;omega)
theorem OA{g:aj}:∀ {a:List aG} {n m:Nat},n<yG g a->m<yG g a->xE g a n=xE g a m->n=m
 | [],n,m,H,G,_=>by simp[yG] at H G;omega
 |p::ps,n,m,H,G,h=>by
  rw[xE,xE] at h;obtain⟨F,E⟩:=rJ h;have F:=congrArg aG.bu F;simp only at F
  rw[yG] at H G;have K:=OA (BC H) (BC G) E;have e1:=Nat.div_add_mod n (sN g p);have e2:=Nat.div_add_mod m (sN g p);have J:n%sN g p=m%sN g p:=by omega
  rw[K,J] at e1;omega
def Zn(g:aj)(a:List aG):List (List aG):=(List.range (yG g a)).map λn=>xE g a n
theorem Kz{g:aj}{a q:List aG}(h:∀ p∈a,0<sN g p):q∈Zn g a↔cM g a q:=by
 unfold Zn
 rw[nS]
 constructor
 .rintro⟨n,_,rfl⟩;exact Oy h
 .intro H
  obtain⟨n,G,e⟩:=Oz H;exact⟨n,oc.2 G,e⟩
theorem zep(g:aj)(a:List aG):(Zn g a).Nodup:=by
 unfold Zn List.Nodup
 rw[rq]
 refine s_ ?_ sU
 intro n m G F H e
 exact H (OA (oc.1 G) (oc.1 F) e)
theorem OB(g:aj):∀ a:List aG,(wz g a).length=yG g a
 | []=>rfl
 |p::ps=>by
  rw[wz,yG,tO];have:(List.map (λ(k:Nat)=>((wz g ps).map λt=>(⟨p.entry,p.bf,(k:Int)⟩:aG)::t).length) (List.range (xg g.aM p.entry).length))=List.map (λ_=>yG g ps) (List.range (xg g.aM p.entry).length):=by
   refine pD λk _=>?_
   rw[om,OB g ps]
  rw[this];show(List.map (λ_=>yG g ps) (List.range (sN g p))).sum=_
  generalize sN g p=n;induction n with
  |zero=>simp
  |succ n ih=>rw[qr,oF,List.sum_append,ih];simp[oR]
def dq(g:aj)(l:List (List aG)):Nat:=(l.map λa=>yG g a).sum
theorem zo8(g:aj)(w:List Int):(fq g w).length=dq g (yY g w):=by
 rw[DF,tO]
 unfold dq
 congr 1
 exact pD λa _=>OB g a
theorem gH.lq{g:aj}(H:aH g){w:List Int}{b:List aG}(h:gH g w b):∀ p∈b,0<sN g p:=by
 intro p G
 obtain⟨e,F,bf,E,rfl⟩:=(h.parts p G).ok H
 exact r_.2 (H.aL F)
def Yg(g:aj)(w:List Int):List (List aG):=(yY g w).flatMap (Zn g)
theorem zo9{g:aj}(H:aH g){w:List Int}{q:List aG}:q∈Yg g w↔q∈fq g w:=by
 rw[Ku]
 unfold Yg
 rw[po]
 constructor
 .rintro⟨a,G,F⟩;exact⟨a,G,(Kz ((wV G).lq H)).1 F⟩
 .rintro⟨a,G,F⟩;exact⟨a,G,(Kz ((wV G).lq H)).2 F⟩
theorem zhc{g:aj}(G:aH g)(w:List Int):(Yg g w).Nodup:=by
 unfold Yg List.Nodup
 rw[rb]
 refine⟨λa _=>zep g a,s_ ?_ (NS G w)⟩
 intro a b F E H x K y J e
 subst e
 have L:=Xb ((Kz ((wV F).lq G)).1 K)
 have M:=Xb ((Kz ((wV E).lq G)).1 J)
 rw[(wV F).bare] at L
 rw[(wV E).bare] at M
 exact H (L.symm.trans M)
theorem zpa{g:aj}(H:aH g)(w:List Int):jo (Yg g w)=jo (fq g w):=
 Oj (lt:=zP) NG DC (DD (zhc H w)) (DD (NT H w)) λq=>by rw[Qf,Qf,zo9 H]
theorem zk1(l:List (List aG))(a:List aG):jo (l++[a])=dE (λx=>zP a x) a (jo l):=by
 unfold jo;rw[oI];rfl
theorem OC(g:aj)(a b:List (List aG)):dq g (a++b)=dq g a+dq g b:=by
 unfold dq;rw[oF,List.sum_append]
theorem il(g:aj){l:List (List aG)}{i:Nat}(h:i<l.length):dq g (l.take (i+1))=dq g (l.take i)+yG g l[i]:=by
 rw[yh h,OC];simp[dq]
theorem OD(g:aj)(l:List (List aG))(i:Nat):dq g (l.take i)<=dq g l:=by
 have:=OC g (l.take i) (l.drop i)
 rw[oT] at this
 omega
def jU(g:aj)(l:List (List aG))(i k:Nat):List (List aG):=(l.take i).flatMap (Zn g)++(List.range k).map λn=>xE g (l.getD i []) n
theorem zpb(g:aj)(l:List (List aG))(i k:Nat):(jU g l i k).length=dq g (l.take i)+k:=by
 unfold jU dq
 rw[nO,tO,om,pV]
 congr 2
 refine pD λa _=>?_
 simp[Zn]
theorem zhd{g:aj}{l:List (List aG)}(h:∀ a∈l,a.length<=4){i k:Nat}{q:List aG}(H:q∈jU g l i k):q.length<=4:=by
 unfold jU at H
 rcases nM.1 H with H | H
 .obtain⟨a,G,H⟩:=po.1 H
  unfold Zn at H;obtain⟨n,_,rfl⟩:=nS.1 H;rw[Xd];exact h a (oh G)
 .obtain⟨n,_,rfl⟩:=nS.1 H
  rw[Xd];by_cases hi:i<l.length
  .rw[ot,ac hi];exact h _ (nF hi)
  .rw[ot,ra (by omega)];simp
theorem zk2{g:aj}{l:List (List aG)}{i:Nat}(h:i<l.length):jU g l i (yG g l[i])=jU g l (i+1) 0:=by
 unfold jU
 rw[yh h,oW,pQ,ot,ac h]
 simp[Zn]
theorem zk3{g:aj}{l:List (List aG)}{i k:Nat}(h:i<l.length):jU g l i (k+1)=jU g l i k++[xE g l[i] k]:=by
 unfold jU
 rw[qr,oF,ot,ac h,pA]
 rfl
theorem zpc(g:aj)(w:List Int):jU g (yY g w) (yY g w).length 0=Yg g w:=by
 unfold jU Yg
 rw[nH]
 simp
theorem zpd{g:aj}(H:aH g)(w:List Int):yU g w=if vy g.inv w≠0 then ([],vy g.inv w) else if 200<dq g (yY g w) then ([],11) else (jo (Yg g w),0):=by
 rw[NF,zo8,zpa H]
theorem zk4(g:aj)(hg:aH g)(hc:bC g)(w:List Int)(hw:w.length<=30):aq prog 222 [g.d,aa w] (.bE [zG (yU g w).1,int (yU g w).2]):=by
 have hP:=zeo g hg hc w hw
 have hW:=GX g.inv w (by omega)
 have T:∀ a∈yY g w,a.length<=4:=λa ha=>(wV ha).len
 have A:∀ a∈yY g w,∀ p∈a,0<sN g p:=λa ha=>(wV ha).lq hg
 have I:=zkw hg w
 have X:=zpc g w
 rw[zpd hg,<-X]
 generalize yY g w=L at hP T A I
 refine aF func222 ?_
 generalize vy g.inv w=e at hW
 by_cases he:e=0
 case neg=>
  rw[gt he];simp+decide[f222,zj,aj.d,int,aa];refine zg hW ?_
  simp+decide[int,aa,zG,he]
 subst he
 rw[ge (by simp)]
 simp+decide[f222,zj,aj.d,int,aa]
 refine zg hW ?_
 simp+decide[int,aa]
 refine zg hP ?_
 simp+decide[int,aa,zG]
 refine qg (λi:Nat=>{n:=70,next:=1,af:=[(2,.bp 0 0),(7,.d (zG L)),(8,.d (int (dq g (L.take i)))),(9,.d (int i))],own:=[(0,.box 36 (zj g.d))]})
  (λi=>i<=L.length/\dq g (L.take i)<=825) (λi=>L.length-i) 0 ⟨nU _,by simp[dq]⟩ ?_ ?_
 .simp+decide[int,aa,zG,dq,zj,aj.d]
 intro i ⟨hi,hs⟩
 have W:=OD g L i
 refine cy ?_
 by_cases F:200<dq g (L.take i)
 case pos=>
  have M:¬((dq g (L.take i):Nat):Int)<=200:=by omega
  have O:(200:Int)<((dq g (L.take i):Nat):Int):=by omega
  have N:200<dq g L:=by omega
  rw[gt N];by_cases G:i<L.length
  .have H:=bG G
   simp+decide[int,aa,zG,G,H,M,O,F,aB]
  .have H:¬(i:Int)<L.length:=by omega
   simp+decide[int,aa,zG,G,H,M,O,F,aB]
 have M:((dq g (L.take i):Nat):Int)<=200:=by omega
 have O:¬(200:Int)<((dq g (L.take i):Nat):Int):=by omega
 by_cases G:i<L.length
 case pos=>
  have H:=bG G;obtain⟨a,ea,e1⟩:=bN G;have E:=T L[i] (nF G);rw[ea] at E;have aI:=il g G;rw[ea] at aI;have H0:=oC (DU hg a) (Oo E);have Y:=Oq g hg hc a E;simp+decide[int,aa,zG,zj,aj.d,G,H,M,O,ea,e1,aB];refine bw Y ?_
  simp+decide[int,aa,zG,zj,aj.d,G,H,M,O,ea,e1,aB];have hz:((dq g (L.take i):Nat):Int)+((yG g a:Nat):Int)=((dq g (L.take (i+1)):Nat):Int):=by omega
  rw[hz];exact⟨by omega,by omega,i+1,⟨G,by omega⟩,by omega,rfl,by omega⟩
 obtain rfl:i=L.length:=by omega
 have H:¬(L.length:Int)<L.length:=by omega
 rw[nH] at M O F hs ⊢
 rw[ge F]
 simp+decide[int,aa,zG,M,O,F,aB]
 refine ZI [1] ?_
 refine xP (λi:Nat=>{n:=70,next:=2,af:=[(2,.bp 0 0),(7,.d (zG L)),(10,.d (zG (jo (jU g L i 0)))),(11,.d (int i))],own:=[(0,.box 36 (zj g.d))]}) L.length ?_ ?_
 .simp+decide[int,aa,zG,zj,aj.d,jU,jo]
 intro i hi
 refine cy ?_
 by_cases G:i<L.length
 case neg=>
  obtain rfl:i=L.length:=by omega
  simp+decide[int,aa,zG,zj,aj.d]
 have H:=bG G
 simp+decide[int,aa,zG,G,H]
 refine xP (λk:Nat=>{n:=70,next:=2,af:=[(2,.bp 0 0),(7,.d (zG L)),(10,.d (zG (jo (jU g L i k)))),(11,.d (int i)),(12,.d (int k))],own:=[(0,.box 36 (zj g.d))]}) (yG g L[i]) ?_ ?_
 .simp+decide[int,aa,zG,zj,aj.d]
 intro k hk
 obtain⟨a,ea,e1⟩:=bN G
 have E:=T L[i] (nF G)
 have B:=A L[i] (nF G)
 have aI:=il g G
 have P:=OD g L (i+1)
 have K:=zk2 (g:=g) G
 have J:=zk3 (g:=g) (k:=k) G
 have Z:=zpb g L i k
 have S:=λq=>zhd (g:=g) T (i:=i) (k:=k) (q:=q)
 rw[ea] at E B aI K J hk ⊢
 have Y:=Oq g hg hc a E
 refine cy ?_
 simp+decide[int,aa,zG,zj,aj.d,G,H,ea,e1,aB]
 refine bw Y ?_
 by_cases V:k<yG g a
 case neg=>
  obtain rfl:k=yG g a:=by omega
  simp+decide[int,aa,zG,zj,aj.d,G,H,ea,e1,aB];exact⟨by omega,i+1,G,by omega,by rw[K],by omega⟩
 have Q:(k:Int)<yG g a:=by omega
 have hT:=zry g hg hc a E B k (by omega)
 have C:=zo7 (jo (jU g L i k)) (xE g a k) (by rw[NN,Z];omega) (λq hq=>S q (Qf.1 hq)) (by rw[Xd];exact E)
 rw[<-zk1,<-J] at C
 simp+decide[int,aa,zG,zj,aj.d,G,H,ea,e1,aB,V,Q]
 refine bw hT ?_
 simp+decide[int,aa,zG,zr,zj,aj.d,G,H,ea,e1,aB,V,Q]
 refine bw C ?_
 simp+decide[int,aa,zG,zr,zj,aj.d,G,H,ea,e1,aB,V,Q]
 exact⟨by omega,k+1,V,by omega,rfl,by omega⟩
def j6(s t:ByteArray):Bool:=decide (t.size<=s.size)&&decide (s.extract 0 t.size=t)
theorem zeq(s t:ByteArray)(hs:s.size<2^40):aq prog 195 [.str s,.str t] (.bool (j6 s t)):=by
 refine aF func195 ?_
 unfold j6
 by_cases h:t.size<=s.size
 .have H:(t.size:Int)<=s.size:=by omega
  have G:((s.extract 0 t.size).toList==t.toList)=decide (s.extract 0 t.size=t):=by
   by_cases e:s.extract 0 t.size=t
   .rw[e];simp
   .rw[pH e,tP];exact λe'=>e (dA e')
  simp+decide[f195,int,h,H,G]
 .have H:¬(t.size:Int)<=s.size:=by omega
  simp+decide[f195,int,h,H]
def qt(us:List bo)(t:ByteArray):Nat->Option Nat
 |0=>none
 |k+1=>match us[k]? with
  |none=>qt us t k
  |some u=>if j6 t u.bg=true then (match qt us t k with
    |none=>some k
    |some b=>if ((us[b]?.map λv=>v.bg.size).getD 0)<u.bg.size then some k else some b)
   else qt us t k
def qo:Option Nat->Int
 |none=>-1
 |some b=>b
theorem Zo{us:List bo}{t:ByteArray}:∀ {k b:Nat},qt us t k=some b->b<k/\b<us.length
 |0,b,h=>by cases h
 |k+1,b,h=>by
  unfold qt at h;split at h
  .exact⟨by have:=(Zo h).1;omega,(Zo h).2⟩
  .rename_i u F
   have H:k<us.length:=(nN.1 F).1
   split at h
   .split at h
    .obtain rfl:=ph h;exact⟨by omega,H⟩
    .rename_i b' G
     split at h
     .obtain rfl:=ph h;exact⟨by omega,H⟩
     .obtain rfl:=ph h
      exact⟨by have:=(Zo G).1;omega,(Zo G).2⟩
   .exact⟨by have:=(Zo h).1;omega,(Zo h).2⟩
theorem zch(o:bb)(T:eO o)(s:ByteArray)(hs:s.size<2^40):aq prog 140 [.agg o.cells,.str s] (int (qo (qt o.au s o.au.length))):=by
 have O:=T.cW.1
 refine aF func140 ?_
 simp+decide[f140,int,bb.cells]
 refine xP (λk:Nat=>{n:=42,next:=1,af:=[(1,.d (.str s)),(2,.bp 0 0),(5,.d (int (qo (qt o.au s k)))),(6,.d (int k))],own:=[(0,.box 28 (o.cells.map .d))]}) o.au.length ?_ ?_
 .simp+decide[int,zJ,bb.cells,qt,qo]
 intro k V
 refine cy ?_
 by_cases G:k<o.au.length
 case neg=>
  obtain rfl:k=o.au.length:=by omega
  simp+decide[int,zJ,bb.cells]
 have F:=bG G
 obtain⟨u,eu,eu1⟩:=bN G
 have Q:=(T.au o.au[k] (nF G)).1
 rw[eu] at Q
 have X:=zeq s u.bg hs
 have H:qt o.au s (k+1)=if j6 s u.bg=true then (match qt o.au s k with
    |none=>some k
    |some b=>if ((o.au[b]?.map λv=>v.bg.size).getD 0)<u.bg.size then some k else some b)
   else qt o.au s k:=by rw[qt,eu1]
 simp+decide[int,zJ,bb.cells,G,F,eu,eu1,bo.row]
 refine zg X ?_
 cases Y:j6 s u.bg with
 |false=>
  rw[Y,ge (by decide)] at H
  simp+decide[int,zJ,bb.cells,G,F,eu,eu1,bo.row,aB];exact⟨by omega,k+1,G,by omega,by rw[H],by omega⟩
 |true=>
  rw[Y,gt rfl] at H;cases K:qt o.au s k with
  |none=>
   rw[K] at H;simp only at H
   simp+decide[int,zJ,bb.cells,G,F,eu,eu1,bo.row,aB,qo];exact⟨by omega,k+1,G,by omega,by rw[H],by omega⟩
  |some b=>
   have J:=(Zo K).2;have E:(b:Int)<o.au.length:=by omega
   rw[K] at H;simp only at H
   obtain⟨v,ev,ev1⟩:=bN J;rw[ev1] at H;simp only[oL,nW] at H;have M:¬(b:Int)<0:=by omega
   by_cases Z:v.bg.size<u.bg.size
   .have L:(v.bg.size:Int)<u.bg.size:=by omega
    rw[gt Z] at H;simp+decide[int,zJ,bb.cells,G,F,eu,eu1,bo.row,aB,qo,J,E,ev,ev1,Z,L,M];exact⟨by omega,k+1,G,by omega,by rw[H],by omega⟩
   .have L:¬(v.bg.size:Int)<u.bg.size:=by omega
    rw[ge Z] at H;simp+decide[int,zJ,bb.cells,G,F,eu,eu1,bo.row,aB,qo,J,E,ev,ev1,Z,L,M];exact⟨by omega,k+1,G,by omega,by rw[H],by omega⟩
def xX(us:List bo)(s:ByteArray):Nat->Nat->List Nat×Nat
 |0,bc=>([],bc)
 |f+1,bc=>if bc<s.size then (match qt us (s.extract bc s.size) us.length with
   |none=>([],bc)
   |some b=>(b::(xX us s f (bc+((us[b]?.map λv=>v.bg.size).getD 0))).1,(xX us s f (bc+((us[b]?.map λv=>v.bg.size).getD 0))).2))
  else ([],bc)
theorem KA{us:List bo}{t:ByteArray}:∀ {k b:Nat},qt us t k=some b->∃ v,us[b]?=some v/\j6 t v.bg=true
 |0,b,h=>by cases h
 |k+1,b,h=>by
  unfold qt at h;split at h
  .exact KA h
  .rename_i u H
   split at h
   .rename_i G
    split at h
    .obtain rfl:=ph h;exact⟨u,H,G⟩
    .rename_i b' hb'
     split at h
     .obtain rfl:=ph h;exact⟨u,H,G⟩
     .obtain rfl:=ph h;exact KA hb'
   .exact KA h
def vr(l:List Nat):D:=.sl (l.map λ(n:Nat)=>[int (n:Int)])
theorem zhe(o:bb)(X:eO o)(Y:∀ u∈o.au,0<u.bg.size)(s:ByteArray)(hs:s.size<2^30):aq prog 82 [.agg o.cells,.str s] (.bE [vr (xX o.au s s.size 0).1,int (xX o.au s s.size 0).2]):=by
 refine aF func82 ?_
 obtain⟨T,eT⟩:∃ T,xX o.au s s.size 0=T:=⟨_,rfl⟩
 rw[eT]
 simp+decide[f82,int,bb.cells]
 refine qg (λx:List Nat×Nat=>{n:=37,next:=3,af:=[(1,.d (.str s)),(2,.bp 0 0),(6,.ar 2),(7,.d (int x.2))],own:=[(0,.box 28 (o.cells.map .d)),(2,.aQ 3 1 (x.1.map λ(n:Nat)=>[int (n:Int)]))],aA:=[2]})
  (λx=>x.2<=s.size/\x.1.length<=x.2/\∃ f,s.size-x.2<=f/\T=(x.1++(xX o.au s f x.2).1,(xX o.au s f x.2).2)) (λx=>s.size-x.2) ([],0) ⟨nU _,nU _,s.size,by omega,by rw[<-eT];rfl⟩ ?_ ?_
 .simp+decide[int,aa,bb.cells]
 rintro⟨out,bc⟩ ⟨J,L,f,Z,A⟩
 simp only at J L Z A
 refine cy ?_
 by_cases G:bc<s.size
 case neg=>
  have B:xX o.au s f bc=([],bc):=by
   cases f with
   |zero=>rfl
   |succ f=>rw[xX,ge G]
  rw[B,oq] at A;subst A;have H:¬(bc:Int)<s.size:=by omega
  simp+decide[int,aa,bb.cells,G,H,vr]
 have H:=bG G
 obtain⟨f,rfl⟩:∃ f',f=f'+1:=⟨f-1,by omega⟩
 rw[xX,gt G] at A
 have C:=zch o X (s.extract bc s.size) (by simp;omega)
 simp+decide[int,aa,bb.cells,G,H]
 refine⟨by omega,?_⟩
 refine bw C ?_
 cases I:qt o.au (s.extract bc s.size) o.au.length with
 |none=>
  rw[I] at A;simp only[oq] at A;subst A;simp+decide[int,aa,bb.cells,G,H,qo,vr]
 |some b=>
  rw[I] at A;simp only at A
  obtain⟨v,N,F⟩:=KA I;have K:=(Zo I).2;have E:(b:Int)<o.au.length:=by omega
  have M:o.au[b]=v:=by rw[ac K] at N;exact ph N
  have V:=Y v (ol N);have O:bc+v.bg.size<=s.size:=by
   unfold j6 at F;rw[nI,nD] at F;have:=F.1
   simp at this
   omega
  rw[N] at A;simp only[oL,nW] at A;have Q:¬(b:Int)<0:=by omega
  simp+decide[int,aa,bb.cells,zJ,G,H,qo,K,E,N,M,Q,bo.row,aB];exact⟨by omega,by unfold maxLen;omega,by omega,out++[b],bc+v.bg.size,⟨O,by simp;omega,f,by omega,by rw[A,pA];rfl⟩,by omega,by omega,by simp⟩
theorem DV{us:List bo}{s:ByteArray}:∀ {f bc:Nat},∀ b∈(xX us s f bc).1,b<us.length
 |0,_,b,h=>by cases h
 |f+1,bc,b,h=>by
  unfold xX at h;split at h
  .split at h
   .cases h
   .rename_i c H
    rcases nE.1 h with e | h
    .rw[e];exact(Zo H).2
    .exact DV b h
  .cases h
theorem DW{us:List bo}{s:ByteArray}:∀ {f bc:Nat},(xX us s f bc).1.length<=f
 |0,_=>nJ _
 |f+1,bc=>by
  unfold xX;split
  .split
   .exact nU _
   .rw[nP];exact Nat.succ_le_succ DW
  .exact nU _
def j7(us:List bo)(l:List Nat):List Int:=l.flatMap λb=>(us[b]?.map λv=>v.bi).getD []
def yZ(us:List bo)(s:ByteArray):List Int×Int×Int:=
 if s.size=0 then ([],0,4) else if (xX us s s.size 0).2<s.size then ([],(xX us s s.size 0).2,20) else if 24<(j7 us (xX us s s.size 0).1).length then ([],0,5) else (j7 us (xX us s s.size 0).1,0,0)
theorem OE{us:List bo}{l:List Nat}{k b:Nat}{v:bo}(h:k<l.length)(H:l[k]=b)(G:us[b]?=some v):j7 us (l.take (k+1))=j7 us (l.take k)++v.bi:=by
 unfold j7
 rw[yh h,oW,pQ,H,G]
 rfl
theorem DX{us:List bo}(hs:∀ u∈us,u.bi.length<=1048576):∀ l:List Nat,(j7 us l).length<=l.length*1048576
 | []=>by simp[j7]
 |b::l=>by
  have ih:=DX hs l;unfold j7 at ih ⊢;rw[pz,nO,nP];have:((us[b]?.map λv=>v.bi).getD []).length<=1048576:=by
   cases h:us[b]? with
   |none=>simp
   |some v=>exact hs v (ol h)
  omega
theorem DY(o:bb)(Y:eO o)(Z:∀ u∈o.au,0<u.bg.size)(s:ByteArray)(hs:s.size<=1024):aq prog 34 [.agg o.cells,.str s] (.bE [aa (yZ o.au s).1,int (yZ o.au s).2.1,int (yZ o.au s).2.2]):=by
 have A:=zhe o Y Z s (by omega)
 have H:=λb=>DV (us:=o.au) (s:=s) (f:=s.size) (bc:=0) b
 have O:=DW (us:=o.au) (s:=s) (f:=s.size) (bc:=0)
 refine aF func34 ?_
 unfold yZ
 generalize xX o.au s s.size 0=T at A H O
 obtain⟨l,e⟩:=T
 simp only at A H O
 by_cases B:s.size=0
 .have C:s=ByteArray.empty:=ByteArray.ext (tB (by simpa using B))
  subst C;simp+decide[f34,int,aa,bb.cells]
 rw[ge B]
 have C:(s.toList==[] )=false:=by
  rw[tP];intro e;have:s=ByteArray.empty:=dA (e.trans (by first | simp | (unfold ByteArray.toList;rw[ByteArray.toList.loop];rfl)))
  exact B (by rw[this];rfl)
 simp+decide[f34,int,aa,bb.cells,C]
 refine zg A ?_
 by_cases I:e<s.size
 .have M:=bG I
  simp+decide[int,aa,bb.cells,I,M,vr]
 have M:¬(e:Int)<s.size:=by omega
 rw[ge I]
 simp+decide[int,aa,bb.cells,I,M,vr]
 refine xP (λk:Nat=>{n:=45,next:=3,af:=[(2,.bp 0 0),(7,.d (vr l)),(9,.ar 2),(10,.d (int k))],own:=[(0,.box 28 (o.cells.map .d)),(2,.aQ 3 1 ((j7 o.au (l.take k)).map λn=>[int n]))],aA:=[2]}) l.length ?_ ?_
 .simp+decide[int,aa,bb.cells,j7,vr]
 intro k N
 refine cy ?_
 by_cases G:k<l.length
 case neg=>
  obtain rfl:k=l.length:=by omega
  rw[nH];generalize j7 o.au l=W;by_cases Q:24<W.length
  .have F:(24:Int)<W.length:=by omega
   simp+decide[int,aa,bb.cells,vr,Q,F]
  .have F:¬(24:Int)<W.length:=by omega
   simp+decide[int,aa,bb.cells,vr,Q,F]
 have E:=bG G
 obtain⟨b,eb,eb1⟩:=bN G
 have J:b<o.au.length:=by rw[<-eb];exact H _ (nF G)
 have K:(b:Int)<o.au.length:=by omega
 obtain⟨v,ev,ev1⟩:=bN J
 have X:=(Y.au o.au[b] (nF J)).2
 rw[ev] at X
 have V:=OE (us:=o.au) G eb ev1
 have L:=DX (us:=o.au) (λu P=>(Y.au u P).2) (l.take k)
 rw[nR] at L
 have L:(j7 o.au (l.take k)).length<=1024*1048576:=oC L (oY _ (by omega))
 generalize j7 o.au (l.take k)=W at V L
 simp+decide[int,aa,bb.cells,vr,zJ,bo.row,G,E,eb,eb1,J,K,ev,ev1,aB]
 refine jH 10 ?_
 simp+decide[int,aa,bb.cells,vr,zJ,bo.row,G,E,eb,eb1,J,K,ev,ev1,aB]
 exact⟨by omega,by unfold maxLen;omega,by omega,k+1,G,by omega,by omega,by rw[V,oF]⟩
def Yh(us:List bo):Nat:=us.foldl (λm u=>max m u.bg.size) 0
theorem zhf{us:List bo}{k:Nat}{u:bo}(h:k<us.length)(H:us[k]=u):Yh (us.take (k+1))=max (Yh (us.take k)) u.bg.size:=by
 unfold Yh
 rw[yh h,oI,H];rfl
theorem zhg(us:List bo):∀ m,m<=us.foldl (λm u=>max m u.bg.size) m/\∀ u∈us,u.bg.size<=us.foldl (λm u=>max m u.bg.size) m:=by
 induction us with
 |nil=>intro m;exact⟨nJ _,λu h=>by cases h⟩
 |cons v us ih=>
  intro m;obtain⟨H,G⟩:=ih (max m v.bg.size);rw[oK];refine⟨by omega,λu F=>?_⟩
  rcases nE.1 F with e | F
  .rw[e];omega
  .exact G u F
theorem zpe{us:List bo}{u:bo}(h:u∈us):u.bg.size<=Yh us:=(zhg us 0).2 u h
theorem zk5{us:List bo}{c:Nat}(h:∀ u∈us,u.bg.size<=c):∀ m,m<=c->us.foldl (λm u=>max m u.bg.size) m<=c:=by
 induction us with
 |nil=>intro m H;exact H
 |cons v us ih=>
  intro m H;rw[oK];exact ih (λu G=>h u (nG _ G)) _ (by have:=h v (nL ..);omega)
theorem zk6{s t:ByteArray}{bc:Nat}(h:j6 (s.extract bc s.size) t=true):t.size<=s.size-bc:=by
 unfold j6 at h
 rw[nI,nD] at h
 have:=h.1
 simp at this
 omega
theorem zrz{s:ByteArray}{bc n:Nat}(h:bc+n<=s.size):(s.extract bc s.size).extract 0 n=s.extract bc (bc+n):=by
 rw[ByteArray.extract_extract]
 congr 1
 omega
theorem DZ{s t:ByteArray}{bc n:Nat}(H:t.size=n)(h:bc+n<=s.size):j6 (s.extract bc s.size) t=true↔t=s.extract bc (bc+n):=by
 unfold j6
 rw[nI,nD,nD,H,zrz h]
 constructor
 .rintro⟨_,e⟩;exact e.symm
 .intro e;exact⟨by rw[AJ];omega,e.symm⟩
theorem C0{us:List bo}{t:ByteArray}(h:∀ u∈us,j6 t u.bg=false):∀ {k:Nat},qt us t k=none
 |0=>rfl
 |k+1=>by
  rw[qt];cases H:us[k]? with
  |none=>exact C0 h
  |some u=>
   simp only
   rw[ge (by rw[h u (ol H)];decide)]
   exact C0 h
theorem OG{us:List bo}{t:ByteArray}{i:Nat}{v:bo}(Q:us[i]?=some v)(T:j6 t v.bg=true)(H:∀ u∈us,j6 t u.bg=true->u.bg.size<=v.bg.size)
  (G:∀ u∈us.take i,j6 t u.bg=true->u.bg.size<v.bg.size):∀ {k:Nat},(k<=i->∀ b,qt us t k=some b->∃ w∈us.take i,us[b]?=some w/\j6 t w.bg=true)/\(i<k->qt us t k=some i)
 |0=>⟨(by intro _ b h;cases h),(by intro h;omega)⟩
 |k+1=>by
  obtain⟨V,X⟩:=OG Q T H G (k:=k);have O:i<us.length:=(nN.1 Q).1
  constructor
  .intro Y b h
   have K:k<us.length:=by omega
   have ek:us[k]?=some us[k]:=ac K
   have E:us[k]∈us.take i:=nT.2 ⟨k,by rw[nR];omega,by rw[sE]⟩
   rw[qt,ek] at h;simp only at h
   split at h
   .rename_i F
    split at h
    .obtain rfl:=ph h;exact⟨_,E,ek,F⟩
    .rename_i b' hb'
     split at h
     .obtain rfl:=ph h;exact⟨_,E,ek,F⟩
     .obtain rfl:=ph h;exact V (by omega) _ hb'
   .exact V (by omega) b h
  .intro Y
   rw[qt];by_cases J:k=i
   .subst J
    rw[Q];simp only
    rw[gt T];cases F:qt us t k with
    |none=>rfl
    |some b=>
     simp only
     obtain⟨w,Z,ew,L⟩:=V (nJ _) b F;rw[ew,oL,nW,gt (G w Z L)]
   .rw[X (by omega)]
    cases A:us[k]? with
    |none=>rfl
    |some u=>
     simp only
     split
     .rename_i M
      rw[Q,ge (by have:=H u (ol A) M;simp;omega)]
     .rfl
theorem zhh(o:bb)(P:eO o)(S:∀ u∈o.au,0<u.bg.size)(s:ByteArray)(hs:s.size<2^30):aq prog 169 [.agg o.cells,.str s] (.bE [vr (xX o.au s s.size 0).1,int (xX o.au s s.size 0).2]):=by
 refine aF func169 ?_
 have X:=P.cW.1
 obtain⟨T,eT⟩:∃ T,xX o.au s s.size 0=T:=⟨_,rfl⟩
 rw[eT]
 simp+decide[Tryz.f169,int,bb.cells,zJ]
 refine xP (λk:Nat=>{n:=68,next:=2,af:=[(1,.d (.str s)),(2,.bp 0 0),(6,.d (int (Yh (o.au.take k)))),(15,.d (zJ o.au)),(16,.d (int o.au.length)),(17,.d (int k))],own:=[(0,.box 28 (o.cells.map .d))]}) o.au.length ?_ ?_
 .simp+decide[int,zJ,bb.cells,Yh]
 intro k W
 refine cy ?_
 by_cases H:k<o.au.length
 case pos=>
  have G:=bG H;obtain⟨u,eu,eu1⟩:=bN H;have Y:=(P.au o.au[k] (nF H)).1;rw[eu] at Y;have hm:=zhf H eu;simp+decide[int,zJ,bb.cells,H,G,eu,eu1,bo.row,aB];refine⟨by omega,k+1,H,by omega,?_,by omega⟩
  rw[hm];split <;> omega
 obtain rfl:k=o.au.length:=by omega
 rw[nH]
 simp+decide[int,zJ,bb.cells]
 have Z:Yh o.au<=1048576:=zk5 (λu hu=>(P.au u hu).1) 0 (by omega)
 have V:=λu=>zpe (us:=o.au) (u:=u)
 generalize Yh o.au=most at Z V
 refine qg (λx:List Nat×Nat=>{n:=68,next:=3,af:=[(1,.d (.str s)),(2,.bp 0 0),(6,.d (int most)),(9,.ar 2),(10,.d (int x.2))],own:=[(0,.box 28 (o.cells.map .d)),(2,.aQ 3 1 (x.1.map λ(n:Nat)=>[int (n:Int)]))],aA:=[2]})
  (λx=>x.2<=s.size/\x.1.length<=x.2/\∃ f,s.size-x.2<=f/\T=(x.1++(xX o.au s f x.2).1,(xX o.au s f x.2).2)) (λx=>s.size-x.2) ([],0) ⟨nU _,nU _,s.size,by omega,by rw[<-eT];rfl⟩ ?_ ?_
 .simp+decide[int,aa,bb.cells,zJ]
 rintro⟨out,bc⟩ ⟨A,B,f,hf,hT⟩
 simp only at A B hf hT
 refine cy ?_
 by_cases H:bc<s.size
 case neg=>
  have hu:xX o.au s f bc=([],bc):=by
   cases f with
   |zero=>rfl
   |succ f=>rw[xX,ge H]
  rw[hu,oq] at hT;subst hT;have G:¬(bc:Int)<s.size:=by omega
  simp+decide[int,aa,bb.cells,H,G,vr]
 have G:=bG H
 obtain⟨f,rfl⟩:∃ f',f=f'+1:=⟨f-1,by omega⟩
 rw[xX,gt H] at hT
 simp+decide[int,aa,bb.cells,zJ,H,G,aB]
 refine⟨by omega,?_⟩
 refine qg (λn:Nat=>{n:=68,next:=3,af:=[(1,.d (.str s)),(2,.bp 0 0),(6,.d (int most)),(9,.ar 2),(10,.d (int bc)),(11,.d (int n))],own:=[(0,.box 28 (o.cells.map .d)),(2,.aQ 3 1 (out.map λ(n:Nat)=>[int (n:Int)]))],aA:=[2]})
  (λn=>n<=s.size-bc/\∀ u∈o.au,j6 (s.extract bc s.size) u.bg=true->u.bg.size<=n) (λn=>n) (min most (s.size-bc)) ⟨by omega,λu hu hb=>?_⟩ ?_ ?_
 .have h1:=V u hu
  have h2:=(zk6 hb);omega
 .simp+decide[int,aa,bb.cells,zJ]
  split <;> omega
 intro n ⟨hn,F⟩
 refine cy ?_
 by_cases C:n=0
 .subst C
  have I:qt o.au (s.extract bc s.size) o.au.length=none:=C0 λu hu=>by
   cases hb:j6 (s.extract bc s.size) u.bg with
   |false=>rfl
   |true=>have:=F u hu hb;have:=S u hu;omega
  rw[I] at hT;simp only[oq] at hT;subst hT;simp+decide[int,aa,bb.cells,zJ,vr]
 have L:(0:Int)<n:=by omega
 have K:0<n:=by omega
 simp+decide[int,aa,bb.cells,zJ,L,K]
 refine qg (λi:Nat=>{n:=68,next:=3,af:=[(1,.d (.str s)),(2,.bp 0 0),(6,.d (int most)),(9,.ar 2),(10,.d (int bc)),(11,.d (int n)),(42,.d (zJ o.au)),(43,.d (int o.au.length)),(44,.d (int i))],own:=[(0,.box 28 (o.cells.map .d)),(2,.aQ 3 1 (out.map λ(n:Nat)=>[int (n:Int)]))],aA:=[2]})
  (λi=>i<=o.au.length/\∀ u∈o.au.take i,u.bg≠s.extract bc (bc+n)) (λi=>o.au.length-i) 0 ⟨nU _,λu hu=>by simp at hu⟩ ?_ ?_
 .simp+decide[int,aa,bb.cells,zJ]
 intro i ⟨hi,J⟩
 refine cy ?_
 by_cases E:i<o.au.length
 case neg=>
  obtain rfl:i=o.au.length:=by omega
  rw[nH] at J;simp+decide[int,aa,bb.cells,zJ,aB];refine⟨by omega,n-1,⟨by omega,λu hu hb=>?_⟩,by omega,by omega⟩
  have h1:=F u hu hb;have h2:u.bg.size≠n:=λe=>J u hu ((DZ e (by omega)).1 hb)
  omega
 have M:=bG E
 obtain⟨u,eu,eu1⟩:=bN E
 simp+decide[int,aa,bb.cells,zJ,aB,E,M,eu,eu1,bo.row]
 have O:((bc:Int)+(n:Int)).toNat=bc+n:=by omega
 rw[O]
 refine⟨by omega,by omega,λhe=>?_,λhe=>?_⟩
 .have he:u.bg=s.extract bc (bc+n):=by first | exact dA he | exact he
  have Q:u.bg.size=n:=by rw[he,AJ];omega
  have N:=(DZ Q (by omega)).2 he
  have hF:=(OG (k:=o.au.length) eu1 N (λv hv hb=>by rw[Q];exact F v hv hb) (λv hv hb=>by
   have h1:=F v (oh hv) hb;have h2:v.bg.size≠n:=λe=>J v hv ((DZ e (by omega)).1 hb)
   omega)).2 E
  rw[hF] at hT;simp only at hT
  rw[eu1,oL,nW,Q] at hT;exact⟨by omega,by unfold maxLen;omega,by omega,out++[i],bc+n,⟨by omega,by simp;omega,f,by omega,by rw[hT,pA];rfl⟩,by omega,by omega,by simp⟩
 .refine⟨by omega,i+1,⟨E,λv hv=>?_⟩,by omega,by omega⟩
  rw[yh E,eu] at hv;rcases nM.1 hv with h | h
  .exact J v h
  .rw[nQ] at h
   rw[h];exact λe=>he (by rw[e])
theorem C2(o:bb)(Y:eO o)(Z:∀ u∈o.au,0<u.bg.size)(s:ByteArray)(hs:s.size<=1024):aq prog 119 [.agg o.cells,.str s] (.bE [aa (yZ o.au s).1,int (yZ o.au s).2.1,int (yZ o.au s).2.2]):=by
 have A:=zhh o Y Z s (by omega)
 have H:=λb=>DV (us:=o.au) (s:=s) (f:=s.size) (bc:=0) b
 have O:=DW (us:=o.au) (s:=s) (f:=s.size) (bc:=0)
 refine aF func119 ?_
 unfold yZ
 generalize xX o.au s s.size 0=T at A H O
 obtain⟨l,e⟩:=T
 simp only at A H O
 by_cases B:s.size=0
 .have C:s=ByteArray.empty:=ByteArray.ext (tB (by simpa using B))
  subst C;simp+decide[f119,int,aa,bb.cells]
 rw[ge B]
 have C:(s.toList==[] )=false:=by
  rw[tP];intro e;have:s=ByteArray.empty:=dA (e.trans (by first | simp | (unfold ByteArray.toList;rw[ByteArray.toList.loop];rfl)))
  exact B (by rw[this];rfl)
 simp+decide[f119,int,aa,bb.cells,C]
 refine zg A ?_
 by_cases I:e<s.size
 .have K:=bG I
  simp+decide[int,aa,bb.cells,I,K,vr]
 have K:¬(e:Int)<s.size:=by omega
 rw[ge I]
 simp+decide[int,aa,bb.cells,I,K,vr]
 refine xP (λk:Nat=>{n:=44,next:=3,af:=[(2,.bp 0 0),(9,.ar 2),(25,.d (vr l)),(26,.d (int l.length)),(27,.d (int k))],own:=[(0,.box 28 (o.cells.map .d)),(2,.aQ 3 1 ((j7 o.au (l.take k)).map λn=>[int n]))],aA:=[2]}) l.length ?_ ?_
 .simp+decide[int,aa,bb.cells,j7,vr]
 intro k N
 refine cy ?_
 by_cases F:k<l.length
 case neg=>
  obtain rfl:k=l.length:=by omega
  rw[nH];generalize j7 o.au l=W;by_cases Q:24<W.length
  .have G:(24:Int)<W.length:=by omega
   simp+decide[int,aa,bb.cells,vr,Q,G]
  .have G:¬(24:Int)<W.length:=by omega
   simp+decide[int,aa,bb.cells,vr,Q,G]
 have J:=bG F
 obtain⟨b,eb,eb1⟩:=bN F
 have L:b<o.au.length:=by rw[<-eb];exact H _ (nF F)
 have M:(b:Int)<o.au.length:=by omega
 obtain⟨v,ev,ev1⟩:=bN L
 have X:=(Y.au o.au[b] (nF L)).2
 rw[ev] at X
 have V:=OE (us:=o.au) F eb ev1
 have E:=DX (us:=o.au) (λu P=>(Y.au u P).2) (l.take k)
 rw[nR] at E
 have E:(j7 o.au (l.take k)).length<=1024*1048576:=oC E (oY _ (by omega))
 generalize j7 o.au (l.take k)=W at V E
 simp+decide[int,aa,bb.cells,vr,zJ,bo.row,F,J,eb,eb1,L,M,ev,ev1,aB]
 exact⟨by omega,by unfold maxLen;omega,by omega,k+1,F,by omega,by omega,by rw[V,oF]⟩
theorem Qk(us:List bo)(s:ByteArray):(yZ us s).1.length<=24:=by
 unfold yZ
 split
 .exact nU _
 .split
  .exact nU _
  .split
   .exact nU _
   .rename_i h;exact x_ h
def jr(g:aj)(s:ByteArray):List (List aG)×Int:=if (yZ g.bt.au s).2.2≠0 then ([],(yZ g.bt.au s).2.2) else yU g (yZ g.bt.au s).1
theorem zr0(g:aj)(H:aH g)(G:bC g)(s:ByteArray)(hs:s.size<=1024):aq prog 215 [g.d,.str s] (.bE [zG (jr g s).1,int (jr g s).2]):=by
 have F:=C2 g.bt G.bt H.fG s hs
 have E:=zou g H G (yZ g.bt.au s).1 (by have:=Qk g.bt.au s;omega)
 unfold jr
 generalize yZ g.bt.au s=z at F E
 obtain⟨w,a,e⟩:=z
 simp only at F E
 refine aF func215 ?_
 simp+decide[Tryz.f215,zj,aj.d,int,aa]
 refine zg F ?_
 by_cases K:e=0
 case neg=>simp+decide[int,aa,zG,K]
 subst K
 simp+decide[int,aa]
 refine zg E ?_
 simp+decide[int,aa,zG]
theorem VC(g:aj)(H:aH g)(G:bC g)(s:ByteArray)(hs:s.size<=1024):aq prog 184 [g.d,.str s] (.bE [zG (jr g s).1,int (jr g s).2]):=by
 have F:=DY g.bt G.bt H.fG s hs
 have E:=zk4 g H G (yZ g.bt.au s).1 (by have:=Qk g.bt.au s;omega)
 unfold jr
 generalize yZ g.bt.au s=z at F E
 obtain⟨w,a,e⟩:=z
 simp only at F E
 refine aF func184 ?_
 simp+decide[f184,zj,aj.d,int,aa]
 refine zg F ?_
 by_cases K:e=0
 case neg=>simp+decide[int,aa,zG,K]
 subst K
 simp+decide[int,aa]
 refine zg E ?_
 simp+decide[int,aa,zG]
theorem zhi{g:aj}(H:aH g)(w:List Int):(yU g w).1.length<=200/\∀ q∈(yU g w).1,q.length<=4:=by
 obtain⟨G,F⟩:=zrt H w
 by_cases E:(yU g w).2=0
 .exact⟨(F E).cW,λq K=>((F E).du q K).2.2⟩
 .rw[G E]
  exact⟨nU _,λq K=>by cases K⟩
theorem C3{g:aj}(H:aH g)(s:ByteArray):(jr g s).1.length<=200/\∀ q∈(jr g s).1,q.length<=4:=by
 unfold jr
 split
 .exact⟨nU _,λq G=>by cases G⟩
 .exact zhi H _
end Go.V

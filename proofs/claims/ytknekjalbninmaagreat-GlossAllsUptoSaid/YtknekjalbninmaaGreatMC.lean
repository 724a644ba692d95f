/- Contracts and plain laws of this seat: part MC. It needs no conditions. -/
import Derived.Test.YtknekjalbninmaaGreatMB
import Derived.Test.YtknekjalbninmaaGreatMA
import Derived.Test.YtknekjalbninmaaGreatW1
import Derived.Test.YtknekjalbninmaaGreatW3
import Derived.Test.YtknekjalbninmaaGreatS1
import Derived.Test.YtknekjalbninmaaGreatSn
set_option linter.all false
set_option maxHeartbeats 32000000
set_option maxRecDepth 100000
namespace Go.V.Doc
open Go Go.Proofs Go.Sort Go.RowKit Tryz
theorem FA(l:List Nt):PermIn 0 l.length l.toArray (vH l).toArray/\SortedIn vT 0 l.length (vH l).toArray:=by
 have:=insertionSort_holds HC l.toArray 0 l.length (nU _) (by simp)
 rw[Hz] at this
 exact this
theorem VB(l:List Nt):(vH l).length=l.length:=by
 have:=(FA l).1.1
 simpa using this
theorem Y3(l:List Nt):(vH l).Perm l:=by
 obtain⟨H,_,G⟩:=(FA l).1
 have F:=VB l
 have e1:(vH l).toArray.extract 0 l.length=(vH l).toArray:=by rw[show l.length=(vH l).toArray.size by simp[F]];simp
 have e2:l.toArray.extract 0 l.length=l.toArray:=by rw[show l.length=l.toArray.size by simp];simp
 rw[e1,e2] at G
 simpa using G
theorem zb7(l:List Nt):(vH l).Pairwise λa b=>vT b a=false:=by
 have hs:=(FA l).2
 have G:=VB l
 rw[od]
 intro i j hi hj H
 have:=hs i j (nU _) H (by omega)
 simpa[Ay,hi,hj] using this
theorem zq7(l:List Nt)(H:l.length<2^62):
  aU prog 172 [.ar 0,.d (int 0),.d (int l.length),.fn 113 []] [(0,.aQ 72 7 (l.map Nt.row))] 1 (.d (.bE [])) 1 [(0,.aQ 72 7 ((vH l).map Nt.row))] []:=by
 cases l with
 |nil=>
  have:vH []=[]:=nZ (VB [])
  rw[this];exact(aU.unit zq1)
 |cons a r=>exact ztc 72 (a::r) (by simp) (by omega) (VB _)
theorem zgj(l:List Nt)(F:l.length<20):
  aU prog 165 [.ar 0,.d (int l.length),.fn 113 []] [(0,.aQ 72 7 (l.map Nt.row))] 1 (.d (.bE [])) 1 [(0,.aQ 72 7 ((vH l).map Nt.row))] []:=by
 refine aU.unit (dd func165 (by simp[ah.a_,ah.lo]) ?_)
 have G:¬(20:Int)<=l.length:=by omega
 have H:¬(20:Int)<l.length:=by omega
 simp+decide[f165,int]
 refine cl (λ_:Unit=>{n:=63,next:=1,af:=[(0,.ar 0),(1,.d (int l.length)),(2,.fn 113 []),(6,.d (int 20)),(7,.d (int 0)),(8,.d (int 20))],own:=[(0,.aQ 72 7 (l.map Nt.row))],ai:=1})
  (λ_=>True) (λ_=>0) () trivial (by simp+decide[int]) ?_
 intro _ _
 simp+decide[int,G]
 refine zE.mut [0] [.ar 0,.d (int 0),.d (int l.length),.fn 113 []] [(0,.aQ 72 7 (l.map Nt.row))] (by rfl) (by simp[int]) (by simp) (by simp) (zq7 l (by omega)) ?_
 simp+decide
 refine cl (λ_:Unit=>{n:=63,next:=1,af:=[(1,.d (int l.length)),(6,.d (int 20))],own:=[(0,.aQ 72 7 ((vH l).map Nt.row))],ai:=1})
  (λ_=>True) (λ_=>0) () trivial (by simp+decide[int]) ?_
 intro _ _
 simp+decide[int,H]
theorem zjj(l:List Nt)(H:l.length<20):
  aU prog 112 [.ar 0,.fn 113 []] [(0,.aQ 72 7 (l.map Nt.row))] 1 (.d (.bE [])) 1 [(0,.aQ 72 7 ((vH l).map Nt.row))] []:=by
 refine aU.unit (dd func112 (by simp[ah.a_,ah.lo]) ?_)
 simp+decide[f112]
 refine zE.mut [0] [.ar 0,.d (int l.length),.fn 113 []] [(0,.aQ 72 7 (l.map Nt.row))] (by rfl) (by simp[int]) (by simp) (by simp) (zgj l H) ?_
 simp+decide
def yS(d:Dc)(id t:Int)(n:Nt):Bool:=decide (n.aZ=t)&&decide (n.aE=id)&&decide (0<=t)&&decide (t<d.al.length)
def yT(d:Dc)(id t:Int):List Nt:=vH (d.ae.filter (yS d id t))
def zH(l:List Nt):List Int:=l.map (·.id)
theorem zjk(d:Dc)(id t:Int)(L:d.ae.length<2^40)(K:(d.ae.filter (yS d id t)).length<20):
  eG prog 53 [zn d,int id,int t] 3 1 ((zH (yT d id t)).map λn=>[int n]):=by
 refine lh func53 (by simp) ?_
 simp+decide[f53,zn,Dc.row,int,aa,zw,zq]
 refine dg (λk:Nat=>{n:=61,next:=3,af:=[(1,.d (int id)),(2,.d (int t)),(3,.bp 0 0),(7,.ar 2),(14,.d (zq d.ae)),(15,.d (.int .i64 d.ae.length)),(16,.d (.int .i64 k))],own:=[(0,.box 53 (zO d)),(2,.aQ 72 7 (((d.ae.take k).filter (yS d id t)).map Nt.row))],aA:=[2]}) d.ae.length (by simp+decide[int,aa,zw,zq]) ?_
 intro k M
 by_cases H:k<d.ae.length
 .have G:=bG H
  have e1:d.ae[k]?=some d.ae[k]:=ac H
  have aI:(d.ae.take (k+1)).filter (yS d id t)=(d.ae.take k).filter (yS d id t)++(if yS d id t d.ae[k]=true then [d.ae[k]] else []):=by
   rw[bq H,pm];by_cases h:yS d id t d.ae[k]=true <;> simp[h]
  have F:((d.ae.take k).filter (yS d id t)).length<=k:=oC (oz _ _) (by rw[nR];omega)
  have no:yS d id t d.ae[k]=false->(d.ae.take (k+1)).filter (yS d id t)=(d.ae.take k).filter (yS d id t):=by
   intro h;rw[aI,ge (by simp[h]),oq]
  by_cases O:d.ae[k].aZ=t
  case neg=>
   have:=no (by simp[yS,O])
   simp+decide[zq,Nt.row,int,H,G,aB,O];exact⟨by omega,k+1,H,by omega,by omega,by rw[this]⟩
  by_cases Q:d.ae[k].aE=id
  case neg=>
   have:=no (by simp[yS,Q])
   simp+decide[zq,Nt.row,int,H,G,aB,O,Q];exact⟨by omega,k+1,H,by omega,by omega,by rw[this]⟩
  by_cases T:0<=t
  case neg=>
   have:=no (by simp[yS,T])
   simp+decide[zq,Nt.row,int,H,G,aB,O,Q,T];exact⟨by omega,k+1,H,by omega,by omega,by rw[this]⟩
  by_cases V:t<d.al.length
  case neg=>
   have:=no (by simp[yS,V])
   simp+decide[zq,zw,Nt.row,int,H,G,aB,O,Q,T,V];exact⟨by omega,k+1,H,by omega,by omega,by rw[this]⟩
  have X:yS d id t d.ae[k]=true:=by simp[yS,O,Q,T,V]
  rw[gt X] at aI;simp+decide[zq,zw,Nt.row,int,H,G,aB,O,Q,T,V];exact⟨by omega,by unfold maxLen;omega,by omega,k+1,H,by omega,by omega,by rw[aI];simp[Nt.row,int,O,Q]⟩
 .obtain rfl:k=d.ae.length:=by omega
  rw[nH];have E:(d.ae.filter (yS d id t)).length<=d.ae.length:=oz _ _
  simp+decide[int];refine zE.mut [2] [.ar 0,.fn 113 []] [(0,.aQ 72 7 ((d.ae.filter (yS d id t)).map Nt.row))] (by rfl) (by simp) (by simp) (by simp) (zjj _ (by omega)) ?_
  have J:=VB (d.ae.filter (yS d id t));unfold yT;rw[<-J] at E;generalize vH (d.ae.filter (yS d id t))=s at E ⊢;simp+decide[int];refine dg (λk:Nat=>{n:=61,next:=4,af:=[(10,.ar 3),(48,.ar 2),(49,.d (.int .i64 s.length)),(50,.d (.int .i64 k))],own:=[(2,.aQ 72 7 (s.map Nt.row)),(3,.aQ 3 1 ((zH (s.take k)).map λn=>[int n]))],aA:=[3,2]}) s.length (by simp+decide[int,zH]) ?_
  intro k M;by_cases H:k<s.length
  .have G:=bG H
   have e1:s[k]?=some s[k]:=ac H
   have aI:zH (s.take (k+1))=zH (s.take k)++[s[k].id]:=by unfold zH;rw[bq H,oF];rfl
   have F:(zH (s.take k)).length<=k:=by unfold zH;rw[om,nR];omega
   simp+decide[Nt.row,int,H,G,aB];exact⟨by omega,by unfold maxLen;omega,by omega,k+1,H,by omega,by omega,by rw[aI];simp⟩
  .obtain rfl:k=s.length:=by omega
   rw[nH];simp+decide[int]
theorem WG:∀ l:List Int,D.dj ((l.map λn=>[int n]).flatten)=true
 | []=>rfl
 |n::r=>by simp only[nK,oZ,nV,oP,D.dj,WG r];rfl
theorem zjl(d:Dc)(id t:Int)(G:d.ae.length<2^40)(H:(d.ae.filter (yS d id t)).length<20):uY prog 53 [zn d,int id,int t] (aa (zH (yT d id t))):=
 BW (zjk d id t G H) (WG _)
structure Fw(d:Dc):Prop where
 n:d.ae.length<2^40
 k:∀ id t,(d.ae.filter (yS d id t)).length<20
theorem XX{d:Dc}(H:d.ae.length<20):Fw d:=⟨by omega,λ_ _=>rP (oz _ _) H⟩
theorem YS(d:Dc)(id t:Int)(h:Fw d):uY prog 53 [zn d,int id,int t] (aa (zH (yT d id t))):=zjl d id t h.n (h.k id t)
end Go.V.Doc
namespace Go.V.Doc
open Go Go.Proofs Tryz
section
variable {d:Dc}
theorem gG(d:Dc){t:Nat}(h:t<d.al.length):zv d (t:Int)=d.al[t]:=by unfold zv;rw[pR,ac h];rfl
theorem b_.kinds(h:b_ d){t:Nat}(H:t<d.al.length):0<=(zv d t).kind/\(zv d t).kind<=4:=by
 have G:=h.cI.al t H
 rw[gG d H]
 unfold qM at G
 split at G
 .cases G
 .split at G
  .cases G
  .split at G
   .cases G
   .omega
theorem b_.up(h:b_ d){t:Nat}(H:t<d.al.length)(G:(zv d t).kind≠0):0<=(zv d t).aE/\(zv d t).aE.toNat<t:=by
 rw[gG d H] at G ⊢
 have:=Ft (h.cI.al t H) G
 rw[nR] at this
 omega
def eM(d:Dc)(t:Nat)(n:Nt):Prop:=n∈d.ae/\n.aZ=t
theorem uO{t:Nat}{n:Nt}:n∈zX d.ae t↔eM d t n:=by
 unfold zX eM
 rw[oA,nD]
def qO(d:Dc)(n:Nt):Nt:=(zp d.ae n.aE).1
theorem b_.dv(h:b_ d){t:Nat}{n:Nt}(H:eM d t n)(G:t<d.al.length)(F:(zv d t).kind≠0):eM d (zv d t).aE.toNat (qO d n)/\(qO d n).id=n.aE:=by
 have E:=(Vw (Zf h.cI H.1).df).2.1
 rw[H.2] at E
 obtain⟨K,J⟩:=E F
 have L:=u7 K
 have M:=h.up G F
 exact⟨⟨L.1,by rw[qO,J];omega⟩,L.2⟩
theorem b_.iU(h:b_ d){t:Nat}{n:Nt}(H:eM d t n)(G:(zv d t).kind=0):n.aE=0:=by
 have F:=(Vw (Zf h.cI H.1).df).1
 rw[H.2] at F
 exact F G
def jN(d:Dc)(t:Nat)(a b:Nt):Bool:=
 if a.aE≠b.aE then (if h:(zv d t).aE.toNat<t then jN d (zv d t).aE.toNat (qO d a) (qO d b) else false)
 else if zR (zv d t).kind=true then decide (a.fr<b.fr) else decide (a.cc<b.cc)
termination_by t
def vI(d:Dc)(t:Nat)(n:Nt):Int:=if zR (zv d t).kind=true then n.fr else n.cc
theorem jO{t:Nat}{a b:Nt}(h:a.aE=b.aE):jN d t a b=decide (vI d t a<vI d t b):=by
 rw[jN,ge (by simp[h])]
 unfold vI
 split <;> rfl
theorem ub{t:Nat}{a b:Nt}(h:a.aE≠b.aE)(H:(zv d t).aE.toNat<t):jN d t a b=jN d (zv d t).aE.toNat (qO d a) (qO d b):=by
 rw[jN,gt h,si H]
theorem I9{s:List Nt}{i j:Nat}(H:i<j)(hj:j<s.length)(G:(gN s i).aE=(gN s j).aE):jM s i<jM s j:=by
 have hi:i<s.length:=by omega
 have F:(s.take (i+1)).Sublist (s.take j):=by
  have:s.take (i+1)=(s.take j).take (i+1):=by rw[Bx];congr 1;omega
  rw[this];exact sH _ _
 have E:=(F.filter λn=>decide (n.aE=(gN s j).aE)).length_le
 rw[bq hi,pm,nO] at E
 have:[s[i]].filter (λn=>decide (n.aE=(gN s j).aE))=[s[i]]:=by
  rw[pT (by rw[<-qa hi];simpa using G)];rfl
 rw[this] at E
 unfold jM
 rw[G]
 simp only[sw] at E
 omega
theorem b_.bB(h:b_ d){t:Nat}(A:t<d.al.length){a b:Nt}(B:eM d t a)(C:eM d t b)(I:a.aE=b.aE)(N:vI d t a=vI d t b):a=b:=by
 apply oJ
 intro L
 have M:=WE.1 (h.ter t A)
 have E:=M.1 a (uO.2 B)
 have F:=M.2 a (uO.2 B)
 have K:a∈yc d.ae t a.aE:=by unfold yc;rw[oA];exact⟨B.1,by simp[B.2]⟩
 have J:b∈yc d.ae t a.aE:=by unfold yc;rw[oA];exact⟨C.1,by simp[C.2,I]⟩
 cases G:zR (zv d t).kind with
 |true=>
  unfold kD at E;rw[G,pK,Fh] at E;have X:=Vy (Zf h.cI B.1) (by rw[B.2];exact G)
  have Y:=Vy (Zf h.cI C.1) (by rw[C.2];exact G)
  simp only[yQ,nI,nD] at X Y;unfold vI at N;rw[gt G,gt G] at N;generalize yc d.ae t a.aE=S at E K J;obtain⟨i,hi,rfl⟩:=nT.1 K;obtain⟨j,hj,rfl⟩:=nT.1 J;have T:=od.1 E;rcases pU i j with P | rfl | P
  .exact T i j hi hj P ⟨by omega,by omega⟩
  .exact L rfl
  .exact T j i hj hi P ⟨by omega,by omega⟩
 |false=>
  unfold vI at N;rw[G] at N;simp only[ou,oU] at N;have Z:=h.kinds A;have k0:(zv d t).kind≠0:=by intro e;rw[e] at G;cases G
  have k1:(zv d t).kind≠1:=by intro e;rw[e] at G;cases G
  have k2:(zv d t).kind≠2:=by intro e;rw[e] at G;cases G
  by_cases k3:(zv d t).kind=3
  .have O:∀ n∈zX d.ae t,wQ (yc d.ae t n.aE)=true:=by
    intro n W;have:=M.2 n W
    rw[k3] at this;simpa[eN] using this
   have hs:=HU (zX d.ae t);have H:=HD (zX d.ae t);have hl:(xQ (zX d.ae t)).length<2^40:=by
    rw[Wx];have:(zX d.ae t).length<=d.ae.length:=oz _ _
    have:=h.cW
    omega
   have hz:∀ n∈xQ (zX d.ae t),n.fr=0:=by
    intro n W;have W:=uO.1 (H.mem_iff.1 W);exact(Fv (Zf h.cI W.1) (by rw[W.2];exact G)).1
   have V:=(I0 hs hl).1 ((I1 H hs hl hz).2 O);obtain⟨i,hi,ei⟩:=nT.1 (H.mem_iff.2 (uO.2 B));obtain⟨j,hj,ej⟩:=nT.1 (H.mem_iff.2 (uO.2 C));rw[<-qa hi] at ei;rw[<-qa hj] at ej;have r1:=V i hi;have r2:=V j hj;rw[ei] at r1;rw[ej] at r2;rcases pU i j with P | rfl | P
   .have:=I9 P hj (by rw[ei,ej,I]);omega
   .exact L (ei.symm.trans ej)
   .have:=I9 P hi (by rw[ei,ej,I]);omega
  .have k4:(zv d t).kind=4:=by omega
   have Q:¬1<(yc d.ae t a.aE).length:=by
    rw[k4] at F;simp[eN] at F;omega
   generalize yc d.ae t a.aE=S at Q K J;obtain⟨i,hi,rfl⟩:=nT.1 K;obtain⟨j,hj,rfl⟩:=nT.1 J;obtain rfl:i=j:=by omega
   exact L rfl
structure fa(d:Dc):Prop where
 cI:∀ j,(h:j<d.al.length)->qM (d.al.take j) d.al[j]=0
 cW:d.ae.length<=300
 e_:∀ n∈d.ae,0<=n.aZ/\n.aZ<d.al.length
 li:d.ae.Pairwise λa b=>a.id<b.id
 aE:∀ (t:Nat),t<d.al.length->(zv d t).kind≠0->∀ n,eM d t n->eM d (zv d t).aE.toNat (qO d n)/\(qO d n).id=n.aE
 top:∀ (t:Nat) n,eM d t n->(zv d t).kind=0->n.aE=0
 i_:∀ (t:Nat) n,eM d t n->zR (zv d t).kind=false->n.fr=0
 key:∀ (t:Nat),t<d.al.length->∀ a b,eM d t a->eM d t b->a.aE=b.aE->vI d t a=vI d t b->a=b
theorem b_.w(h:b_ d):fa d:=⟨h.cI.al,h.cW,λn G=>⟨(h.e_ n G).t0,(h.e_ n G).t1⟩,h.li,λt F E n G=>h.dv G F E,λt n G E=>h.iU G E,
 λt n G H=>(Fv (Zf h.cI G.1) (by rw[G.2];exact H)).1,λt F a b K J L E=>h.bB F K J L E⟩
theorem fa.up(h:fa d){t:Nat}(H:t<d.al.length)(G:(zv d t).kind≠0):0<=(zv d t).aE/\(zv d t).aE.toNat<t:=by
 rw[gG d H] at G ⊢
 have:=Ft (h.cI t H) G
 rw[nR] at this
 omega
theorem fa.dv(h:fa d){t:Nat}{n:Nt}(H:eM d t n)(G:t<d.al.length)(F:(zv d t).kind≠0):eM d (zv d t).aE.toNat (qO d n)/\(qO d n).id=n.aE:=h.aE t G F n H
theorem fa.iU(h:fa d){t:Nat}{n:Nt}(H:eM d t n)(G:(zv d t).kind=0):n.aE=0:=h.top t n H G
theorem fa.bB(h:fa d){t:Nat}(H:t<d.al.length){a b:Nt}(G:eM d t a)(F:eM d t b)(E:a.aE=b.aE)(K:vI d t a=vI d t b):a=b:=h.key t H a b G F E K
theorem fa.fx(h:fa d){a b:Nt}(H:a∈d.ae)(G:b∈d.ae)(e:a.id=b.id):a=b:=by
 obtain⟨i,hi,rfl⟩:=nT.1 H
 obtain⟨j,hj,rfl⟩:=nT.1 G
 have F:=od.1 h.li
 rcases pU i j with E | rfl | E
 .have:=F i j hi hj E;omega
 .rfl
 .have:=F j i hj hi E;omega
theorem fa.get(h:fa d){n:Nt}(H:n∈d.ae):zp d.ae n.id=(n,true):=by
 unfold zp
 cases G:d.ae.find? λm=>decide (m.id=n.id) with
 |none=>rw[ry] at G;exact absurd (G n H) (by simp)
 |some m=>
  have F:=qv G;have E:m.id=n.id:=by simpa using tK G
  rw[h.fx F H E]
structure mz(R:Nt->Nt->Bool)(M:Nt->Prop):Prop where
 mc:∀ a b,M a->M b->R a b=true->R b a=true->False
 trans:∀ a b c,M a->M b->M c->R a b=true->R b c=true->R a c=true
 mw:∀ a b,M a->M b->a≠b->R a b=true\/R b a=true
theorem fa.qb(h:fa d):∀ (t:Nat),t<d.al.length->mz (jN d t) (eM d t):=by
 intro t
 induction t using Nat.strongRecOn with
 |_ t ih=>
  intro K;by_cases J:(zv d t).kind=0
  .have L:∀ a b,eM d t a->eM d t b->a.aE=b.aE:=λa b M O=>by rw[h.iU M J,h.iU O J]
   refine⟨?_,?_,?_⟩
   .intro a b M O Q T
    rw[jO (L a b M O),nD] at Q;rw[jO (L b a O M),nD] at T;omega
   .intro a b c M O V Q T
    rw[jO (L a b M O),nD] at Q;rw[jO (L b c O V),nD] at T;rw[jO (L a c M V),nD];omega
   .intro a b M O F
    rw[jO (L a b M O),jO (L b a O M),nD,nD];have:¬vI d t a=vI d t b:=λe=>F (h.bB K M O (L a b M O) e)
    omega
  .have X:=h.up K J
   have ih':=ih _ X.2 (by omega)
   have pu:∀ a,eM d t a->eM d (zv d t).aE.toNat (qO d a)/\(qO d a).id=a.aE:=λa M=>h.dv M K J
   have une:∀ a b,eM d t a->eM d t b->a.aE≠b.aE->qO d a≠qO d b:=λa b M O F e=>F (by rw[<-(pu a M).2,<-(pu b O).2,e])
   have ueq:∀ a b,eM d t a->eM d t b->a.aE=b.aE->qO d a=qO d b:=λa b M O e=>h.fx (pu a M).1.1 (pu b O).1.1 (by rw[(pu a M).2,(pu b O).2,e])
   refine⟨?_,?_,?_⟩
   .intro a b M O Q T
    by_cases L:a.aE=b.aE
    .rw[jO L,nD] at Q
     rw[jO L.symm,nD] at T;omega
    .rw[ub L X.2] at Q
     rw[ub (se L) X.2] at T;exact ih'.mc _ _ (pu a M).1 (pu b O).1 Q T
   .intro a b c M O V Q T
    by_cases G:a.aE=b.aE
    .by_cases H:b.aE=c.aE
     .rw[jO G,nD] at Q
      rw[jO H,nD] at T;rw[jO (G.trans H),nD];omega
     .rw[ub H X.2] at T
      rw[ub (by rw[G];exact H) X.2,ueq a b M O G]
      exact T
    .rw[ub G X.2] at Q
     by_cases H:b.aE=c.aE
     .rw[ub (by rw[<-H];exact G) X.2,<-ueq b c O V H]
      exact Q
     .rw[ub H X.2] at T
      by_cases E:a.aE=c.aE
      .rw[ueq a c M V E] at Q
       exact(ih'.mc _ _ (pu c V).1 (pu b O).1 Q T).elim
      .rw[ub E X.2]
       exact ih'.trans _ _ _ (pu a M).1 (pu b O).1 (pu c V).1 Q T
   .intro a b M O F
    by_cases L:a.aE=b.aE
    .rw[jO L,jO L.symm,nD,nD]
     have:¬vI d t a=vI d t b:=λe=>F (h.bB K M O L e)
     omega
    .rw[ub L X.2,ub (se L) X.2]
     exact ih'.mw _ _ (pu a M).1 (pu b O).1 (une a b M O L)
theorem mz.YT{R:Nt->Nt->Bool}{M:Nt->Prop}(h:mz R M){a:Nt}(H:M a)(G:R a a=true):False:=h.mc a a H H G G
theorem mz.eq{R:Nt->Nt->Bool}{M:Nt->Prop}(h:mz R M){l m:List Nt}(H:∀ x∈l,M x)(G:l.Perm m)(F:l.Pairwise λa b=>R a b=true)(E:m.Pairwise λa b=>R a b=true):l=m:=
 sZ (le:=λa b=>R a b=true) (λa b K J r1 r2=>(h.mc a b (H a K) (H b (G.mem_iff.2 J)) r1 r2).elim) F E G
theorem mz.fI{R:Nt->Nt->Bool}{M:Nt->Prop}(h:mz R M){l:List Nt}(H:∀ x∈l,M x)(G:l.Pairwise λa b=>R a b=true):l.Nodup:=
 G.imp_of_mem λ{a b} F E K e=>h.YT (H a F) (by rw[e] at K ⊢;exact K)
theorem WH(h:fa d):d.ae.Nodup:=h.li.imp λ{a b} H e=>by rw[e] at H;omega
theorem Zg{id:Int}{t:Nat}(H:t<d.al.length){x:Nt}:x∈yT d id t↔eM d t x/\x.aE=id:=by
 unfold yT eM
 rw[(Y3 _).mem_iff,oA]
 simp only[yS,nI,nD]
 constructor
 .rintro⟨G,⟨⟨F,E⟩,_⟩,_⟩;exact⟨⟨G,F⟩,E⟩
 .rintro⟨⟨G,F⟩,E⟩;exact⟨G,⟨⟨F,E⟩,by omega⟩,by omega⟩
theorem WI(h:fa d){id:Int}{t:Nat}(E:t<d.al.length):(yT d id t).Pairwise λa b=>jN d t a b=true:=by
 have K:=zb7 (d.ae.filter (yS d id t))
 have J:(yT d id t).Nodup:=(Y3 _).nodup_iff.2 ((WH h).sublist oX)
 have L:=tu.2 ⟨K,J⟩
 refine L.imp_of_mem λ{a b} M O G=>?_
 obtain⟨M,pa⟩:=(Zg E).1 M
 obtain⟨O,pb⟩:=(Zg E).1 O
 have Q:a.aE=b.aE:=by rw[pa,pb]
 have F:=Ww.1 G.1
 have T:¬vI d t a=vI d t b:=λe=>G.2 (h.bB E M O Q e)
 rw[jO Q,nD]
 unfold vI at T ⊢
 cases H:zR (zv d t).kind with
 |true=>rw[H] at T;simp only[oV] at T ⊢;omega
 |false=>
  rw[H] at T;simp only[ou,oU] at T ⊢;have za:=h.i_ t a M H;have zb:=h.i_ t b O H;omega
def qP(d:Dc)(t:Nat):List Nt:=
 if (zv d t).kind=0 then yT d 0 t else if h:(zv d t).aE.toNat<t then (qP d (zv d t).aE.toNat).flatMap λp=>yT d p.id t else []
termination_by t
theorem gI(h:fa d):∀ (t:Nat),t<d.al.length->∀ x,x∈qP d t↔eM d t x:=by
 intro t
 induction t using Nat.strongRecOn with
 |_ t ih=>
  intro H x;rw[qP];by_cases G:(zv d t).kind=0
  .rw[gt G,Zg H]
   exact⟨λe=>e.1,λe=>⟨e,h.iU e G⟩⟩
  .have F:=h.up H G
   rw[ge G,si F.2,po];constructor
   .rintro⟨p,_,E⟩;exact((Zg H).1 E).1
   .intro E
    obtain⟨p1,p2⟩:=h.dv E H G;exact⟨qO d x,(ih _ F.2 (by omega) _).2 p1,(Zg H).2 ⟨E,p2.symm⟩⟩
theorem WJ(h:fa d):∀ (t:Nat),t<d.al.length->(qP d t).Pairwise λa b=>jN d t a b=true:=by
 intro t
 induction t using Nat.strongRecOn with
 |_ t ih=>
  intro E;rw[qP];by_cases K:(zv d t).kind=0
  .rw[gt K];exact WI h E
  .have J:=h.up E K
   have H:(zv d t).aE.toNat<d.al.length:=by omega
   rw[ge K,si J.2,rb];refine⟨λp _=>WI h E,(ih _ J.2 H).imp_of_mem λ{p q} L M G x O y Q=>?_⟩
   have L:=(gI h _ H p).1 L;have M:=(gI h _ H q).1 M;obtain⟨O,px⟩:=(Zg E).1 O;obtain⟨Q,py⟩:=(Zg E).1 Q;have F:x.aE≠y.aE:=by
    intro e;have:p=q:=h.fx L.1 M.1 (by rw[<-px,<-py,e])
    subst this;exact(h.qb _ H).YT L G
   have ux:qO d x=p:=h.fx (h.dv O E K).1.1 L.1 (by rw[(h.dv O E K).2,px])
   have uy:qO d y=q:=h.fx (h.dv Q E K).1.1 M.1 (by rw[(h.dv Q E K).2,py])
   rw[ub F J.2,ux,uy];exact G
theorem FB(h:fa d){t:Nat}(H:t<d.al.length):(qP d t).Perm (zX d.ae t):=by
 have G:(zX d.ae t).Nodup:=(WH h).sublist oX
 rw[sR ((h.qb t H).fI (λx F=>(gI h t H x).1 F) (WJ h t H)) G]
 intro x
 rw[gI h t H,uO]
theorem FC(h:fa d){t:Nat}(H:t<d.al.length):(qP d t).length<=d.ae.length:=by
 rw[(FB h H).length_eq];exact oz _ _
def vV(R:Nt->Nt->Bool)(n:Nt)(l:List Nt):Nat->Nat
 |0=>0
 |k+1=>if R n (gN l k)=true then vV R n l k else k+1
def Zh(R:Nt->Nt->Bool)(l:List Nt)(n:Nt):List Nt:=l.take (vV R n l l.length)++n::l.drop (vV R n l l.length)
theorem Ia{R:Nt->Nt->Bool}{n:Nt}{l:List Nt}:∀ (k:Nat),k<=l.length->vV R n l k<=k/\(∀ i,vV R n l k<=i->i<k->R n (gN l i)=true)/\(vV R n l k≠0->R n (gN l (vV R n l k-1))=false)
 |0,_=>⟨nJ _,λi H h2=>by omega,λh=>absurd rfl h⟩
 |k+1,hk=>by
  have ih:=Ia (R:=R) (n:=n) (l:=l) k (by omega)
  simp only[vV];split
  .rename_i G
   refine⟨by omega,λi H h2=>?_,ih.2.2⟩
   rcases pn (show i<=k by omega) with e | e
   .rw[e];exact G
   .exact ih.2.1 i H e
  .rename_i G
   exact⟨nJ _,λi H h2=>by omega,λ_=>by simpa using G⟩
theorem FD(R:Nt->Nt->Bool)(l:List Nt)(n:Nt):(Zh R l n).Perm (n::l):=by
 unfold Zh
 refine tz.trans ?_
 rw[oT]
theorem zds(R:Nt->Nt->Bool)(l:List Nt)(n:Nt):(Zh R l n).length=l.length+1:=by
 rw[(FD R l n).length_eq];rfl
theorem zdu{R:Nt->Nt->Bool}{M:Nt->Prop}(L:mz R M){l:List Nt}{n:Nt}(O:∀ x∈l,M x)(Q:M n)(K:n∉l)(hs:l.Pairwise λa b=>R a b=true):(Zh R l n).Pairwise λa b=>R a b=true:=by
 obtain⟨T,V,X⟩:=Ia (R:=R) (n:=n) (l:=l) l.length (nJ _)
 unfold Zh
 generalize vV R n l l.length=k at T V X
 have G:=od.1 hs
 have low:∀ x∈l.take k,R x n=true:=by
  intro x Y;obtain⟨i,hi,rfl⟩:=oG.1 Y;have F:i<l.length:=by omega
  have J:i<k:=by omega
  have H:k-1<l.length:=by omega
  have Z:=X (by omega)
  rw[qa H] at Z;have E:M l[k-1]:=O _ (nF H)
  have A:R l[k-1] n=true:=by
   rcases L.mw _ _ E Q (λe=>K (by rw[<-e];exact nF H)) with e | e
   .exact e
   .rw[Z] at e;cases e
  rcases pn (show i<=k-1 by omega) with e | e
  .subst e;exact A
  .exact L.trans _ _ _ (O _ (nF F)) E Q (G i (k-1) F H e) A
 have high:∀ x∈l.drop k,R n x=true:=by
  intro x Y;obtain⟨i,hi,rfl⟩:=nT.1 Y;rw[oO] at hi;rw[rm];have:=V (k+i) (by omega) (by omega)
  rwa [qa (by omega)] at this
 rw[pZ]
 refine⟨hs.sublist (sH _ _),?_,?_⟩
 .rw[pM]
  exact⟨high,hs.sublist (th _ _)⟩
 .intro a B b C
  rcases nE.1 C with e | C
  .rw[e];exact low a B
  .obtain⟨i,hi,rfl⟩:=oG.1 B
   obtain⟨j,hj,rfl⟩:=nT.1 C;rw[oO] at hj;rw[rm];exact G i (k+j) (by omega) (by omega) (by omega)
def vW(d:Dc)(t:Int)(l:List Nt)(n:Nt):List Nt:=if n.aZ=t then Zh (jN d t.toNat) l n else l
def uc(d:Dc)(t:Int):List Nt:=d.ae.foldl (vW d t) []
theorem FG(h:fa d){t:Nat}(J:t<d.al.length):∀ (m l:List Nt),m.Sublist d.ae->(∀ x∈m,x∉l)->(∀ x∈l,eM d t x)->l.Pairwise (λa b=>jN d t a b=true) ->
  (m.foldl (vW d t) l).Pairwise (λa b=>jN d t a b=true)/\(m.foldl (vW d t) l).Perm (zX m t++l)
 | [],l,_,_,_,hs=>⟨hs,by simp[zX]⟩
 |n::m,l,G,L,M,hs=>by
  have F:(n::m).Nodup:=(WH h).sublist G
  have E:=oE.1 F;rw[oK];have O:n∈d.ae:=G.subset (by simp)
  have H:m.Sublist d.ae:=(AC _ _).trans G
  unfold vW;by_cases e:n.aZ=t
  .rw[gt e]
   have Q:=FD (jN d (t:Int).toNat) l n;obtain⟨T,V⟩:=FG h J m (Zh (jN d (t:Int).toNat) l n) H (λx X K=>by
     rcases nE.1 (Q.mem_iff.1 K) with e' | e'
     .subst e';exact E.1 X
     .exact L x (by simp[X]) e')
    (λx X=>by
     rcases nE.1 (Q.mem_iff.1 X) with e' | e'
     .subst e';exact⟨O,e⟩
     .exact M x e')
    (zdu (h.qb t J) M ⟨O,e⟩ (L n (by simp)) hs)
   refine⟨T,V.trans ?_⟩
   have e2:zX (n::m) t=n::zX m t:=by unfold zX;rw[pT (by simpa using e)]
   rw[e2];exact(List.Perm.append_left _ Q).trans tz
  .rw[ge e]
   have e2:zX (n::m) t=zX m t:=by unfold zX;rw[ri (by simpa using e)]
   rw[e2];exact FG h J m l H (λx X=>L x (by simp[X])) M hs
theorem Ib(h:fa d){t:Nat}(H:t<d.al.length):uc d t=qP d t:=by
 obtain⟨G,F⟩:=FG h H d.ae [] (Ct _) (λx _=>by simp) (λx E=>by cases E) List.Pairwise.nil
 rw[oq] at F
 refine(h.qb t H).eq (λx E=>?_) (F.trans (FB h H).symm) G (WJ h t H)
 exact uO.1 (F.mem_iff.1 E)
theorem zn2(h:fa d){t:Int}(H:¬(0<=t/\t<d.al.length)):uc d t=[]:=by
 have:∀ (m l:List Nt),(∀ x∈m,x∈d.ae)->m.foldl (vW d t) l=l:=by
  intro m;induction m with
  |nil=>intro l _;rfl
  |cons n m ih=>
   intro l G;rw[oK];have F:=h.e_ n (G n (by simp))
   have e:¬n.aZ=t:=λe=>H ⟨by rw[<-e];exact F.1,by rw[<-e];exact F.2⟩
   rw[vW,ge e];exact ih l λx hx=>G x (by simp[hx])
 exact this _ _ λx hx=>hx
def WL(d:Dc)(t:Int):List Nt:=if 0<=t/\t<d.al.length then qP d t.toNat else []
theorem zq8(h:fa d)(t:Int):uc d t=WL d t:=by
 unfold WL
 split
 .rename_i ht
  obtain⟨k,rfl⟩:∃ k:Nat,t=k:=⟨t.toNat,by omega⟩
  rw[pR];exact Ib h (by omega)
 .rename_i ht;exact zn2 h ht
theorem zq9(h:fa d)(id t:Int):(WL d t).filter (λn=>decide (n.aE=id))=yT d id t:=by
 unfold WL
 split
 .rename_i H
  obtain⟨k,rfl⟩:∃ k:Nat,t=k:=⟨t.toNat,by omega⟩
  rw[pR];have G:k<d.al.length:=by omega
  refine(h.qb k G).eq (λx F=>(gI h k G x).1 (oA.1 F).1) ?_ ((WJ h k G).sublist oX) (WI h G)
  rw[sR (((h.qb k G).fI (λx F=>(gI h k G x).1 F) (WJ h k G)).sublist oX) ((h.qb k G).fI (λx F=>((Zg G).1 F).1) (WI h G))]
  intro x;rw[oA,gI h k G,Zg G,nD]
 .rename_i H
  have:d.ae.filter (yS d id t)=[]:=by
   rw[rp];intro x _ F;simp only[yS,nI,nD] at F;exact H ⟨F.1.2,F.2⟩
  unfold yT;rw[this];rfl
theorem zjm(h:fa d):∀ (t:Nat),t<d.al.length->∀ a b,eM d t a->eM d t b->aq prog 126 [zn d,.agg a.row,.agg b.row] (.bool (jN d t a b)):=by
 intro t
 induction t using Nat.strongRecOn with
 |_ t ih=>
  intro E a b K J;have L:=h.cW;refine aF func126 ?_
  by_cases M:a.aE=b.aE
  .have e1:d.al[t]?=some d.al[t]:=ac E
   have H:(t:Int)<d.al.length:=by omega
   have G:=K.2;rw[jO M];unfold vI;rw[gG d E];simp+decide[f126,zn,Dc.row,Nt.row,cD.row,int,aa,zw,zq,M,G,E,H];refine zg (v7 d.al[t].kind) ?_
   cases F:zR d.al[t].kind <;> simp+decide
  .have O:(zv d t).kind≠0:=λe=>M (by rw[h.iU K e,h.iU J e])
   have Q:=h.up E O;have T:=ih _ Q.2 (by omega) _ _ (h.dv K E O).1 (h.dv J E O).1
   rw[ub M Q.2];unfold qO at T ⊢;simp+decide[f126,zn,Dc.row,Nt.row,int,aa,zw,zq,M];refine zg (jL d a.aE (by omega)) ?_
   obtain⟨⟨x,ok⟩,eg⟩:∃ g,zp d.ae a.aE=g:=⟨_,rfl⟩;rw[eg] at T ⊢;simp+decide[cb,Nt.row,int];refine zg (jL d b.aE (by omega)) ?_
   obtain⟨⟨y,ok'⟩,eg'⟩:∃ g,zp d.ae b.aE=g:=⟨_,rfl⟩;rw[eg'] at T ⊢;simp+decide[cb,Nt.row,int];refine zg T ?_
   simp+decide
theorem WM(l:List Nt):(zH l).length=l.length:=by simp[zH]
theorem Ic(h:fa d)(X:Fw d):∀ (t:Nat),t<d.al.length->aq prog 72 [zn d,int t] (aa (zH (qP d t))):=by
 intro t
 induction t using Nat.strongRecOn with
 |_ t ih=>
  intro Y;refine fY func72 [2] ?_
  have e1:d.al[t]?=some d.al[t]:=ac Y
  have J:(t:Int)<d.al.length:=by omega
  have M:¬(d.al.length:Int)<=t:=by omega
  have O:¬(t:Int)<0:=by omega
  have Q:=X.n;have F:qP d t=if (zv d t).kind=0 then yT d 0 t else if h:(zv d t).aE.toNat<t then (qP d (zv d t).aE.toNat).flatMap λp=>yT d p.id t else []:=by rw[qP]
  by_cases Z:(zv d t).kind=0
  .rw[gt Z] at F
   rw[F];rw[gG d Y] at Z;simp+decide[f72,zn,Dc.row,cD.row,int,aa,zw,zq,Y,J,M,O,Z];refine zE.pure (by rfl) (YS d 0 t X).toR (by simp+decide[aa]) ?_
   simp+decide[aa]
  .have A:=h.up Y Z
   rw[ge Z,si A.2] at F;have H:=FC h Y;have B:=FC h (t:=(zv d t).aE.toNat) (by omega)
   have C:=ih _ A.2 (by omega)
   rw[F] at H ⊢;generalize qP d (zv d t).aE.toNat=L at H B C ⊢;obtain⟨p,I⟩:∃ p:Nat,(zv d t).aE=p:=⟨(zv d t).aE.toNat,by omega⟩
   rw[I,pR] at C;rw[gG d Y] at Z I;simp+decide[f72,zn,Dc.row,cD.row,int,aa,zw,zq,Y,J,M,O,Z,I];refine bw C ?_
   simp+decide[aa];have T:=WM L;refine dg (λk:Nat=>{n:=48,next:=3,af:=[(1,.d (int t)),(2,.bp 0 0),(5,.ar 2),(34,.d (aa (zH L))),(35,.d (.int .i64 L.length)),(36,.d (.int .i64 k))],own:=[(0,.box 53 (zO d)),(2,.aQ 3 1 ((zH ((L.take k).flatMap λp=>yT d p.id t)).map λn=>[int n]))],aA:=[2]}) L.length (by simp+decide[int,aa,zw,zq,zH]) ?_
   intro k Z;by_cases G:k<L.length
   .have E:=bG G
    have K:k<(zH L).length:=by omega
    have e2:(zH L)[k]?=some L[k].id:=by unfold zH;rw[pC,ac G];rfl
    have aI:zH ((L.take (k+1)).flatMap λp=>yT d p.id t)=zH ((L.take k).flatMap λp=>yT d p.id t)++zH (yT d L[k].id t):=by
     rw[bq G,oW];unfold zH;rw[oF];simp
    have N:(zH ((L.take (k+1)).flatMap λp=>yT d p.id t)).length<=d.ae.length:=by
     rw[WM];refine oC ?_ H
     have:L.flatMap (λp=>yT d p.id t)=(L.take (k+1)).flatMap (λp=>yT d p.id t)++(L.drop (k+1)).flatMap (λp=>yT d p.id t):=by rw[<-oW,oT]
     rw[this,nO];omega
    rw[aI,nO] at N;have V:(zH L)[k]'K=L[k].id:=by simp[zH]
    simp+decide[int,aa,G,E,V,T];refine zE.pure (by rfl) (YS d L[k].id t X).toR (by simp+decide[aa]) ?_
    simp+decide[int,aa,aB];refine⟨by omega,by unfold maxLen;omega,by omega,k+1,G,by omega,by omega,by rw[aI];simp⟩
   .obtain rfl:k=L.length:=by omega
    rw[nH];simp+decide[int,aa]
theorem FH(d:Dc)(t:Int):∀ (m l:List Nt),(m.foldl (vW d t) l).length<=m.length+l.length
 | [],l=>by simp
 |n::m,l=>by
  rw[oK];refine oC (FH d t m _) ?_
  unfold vW;split
  .rw[zds,nP];omega
  .rw[nP];omega
theorem Ie(h:fa d)(t:Int){m:List Nt}(hs:m.Sublist d.ae){x:Nt}:∀ {l:List Nt},x∈m.foldl (vW d t) l->x∈l\/(x∈d.ae/\x.aZ=t):=by
 induction m with
 |nil=>intro l H;exact .inl H
 |cons n m ih=>
  intro l H;rw[oK] at H;rcases ih ((AC _ _).trans hs) H with e | e
  .unfold vW at e
   split at e
   .rename_i G
    rcases nE.1 ((FD _ _ _).mem_iff.1 e) with e | e
    .subst e;exact .inr ⟨hs.subset (by simp),G⟩
    .exact .inl e
   .exact .inl e
  .exact .inr e
theorem If(R:Nt->Nt->Bool)(l:List Nt)(n:Nt):(Zh R l n).map Nt.row=(l.map Nt.row).take (vV R n l l.length)++[n.row]++(l.map Nt.row).drop (vV R n l l.length):=by
 unfold Zh
 rw[oF,nK,rG,tE];simp
theorem FI{l:List Nt}{r:List D}(h:r∈l.map Nt.row):r.length=7:=by
 obtain⟨x,_,rfl⟩:=nS.1 h;rfl
theorem VC(h:fa d)(t:Int):aq prog 75 [zn d,int t] (aa (zH (uc d t))):=by
 refine fY func75 [3] ?_
 have C:=h.cW
 simp+decide[f75,zn,Dc.row,int,aa,zw,zq]
 refine ZI [2] ?_
 refine dg (λi:Nat=>{n:=72,next:=3,af:=[(1,.d (int t)),(2,.bp 0 0),(5,.d (zq ((d.ae.take i).foldl (vW d t) []))),(6,.d (int i))],own:=[(0,.box 53 (zO d))]}) d.ae.length (by simp+decide[int,aa,zw,zq]) ?_
 intro i hi
 have H:=FH d t (d.ae.take i) []
 have K:=λx=>Ie h t (m:=d.ae.take i) (sH _ _) (x:=x) (l:=[])
 rw[nR,pc] at H
 by_cases G:i<d.ae.length
 case neg=>
  obtain rfl:i=d.ae.length:=by omega
  rw[nH];rw[nH] at H;show ev _ _ _ _
  unfold uc;generalize d.ae.foldl (vW d t) []=l at H ⊢;simp+decide[int,zq];refine dg (λk:Nat=>{n:=72,next:=4,af:=[(5,.d (zq l)),(9,.ar 3),(10,.d (int k))],own:=[(3,.aQ 3 1 ((zH (l.take k)).map λn=>[int n]))],aA:=[3]}) l.length (by simp+decide[int,zH,zq]) ?_
  intro k S;by_cases J:k<l.length
  .have Q:=bG J
   have e1:l[k]?=some l[k]:=ac J
   have aI:zH (l.take (k+1))=zH (l.take k)++[l[k].id]:=by unfold zH;rw[bq J,oF];rfl
   have P:(zH (l.take k)).length<=k:=by unfold zH;rw[om,nR];omega
   simp+decide[Nt.row,int,zq,J,Q,aB];exact⟨by omega,by unfold maxLen;omega,by omega,k+1,J,by omega,by omega,by rw[aI];simp⟩
  .obtain rfl:k=l.length:=by omega
   rw[nH];simp+decide[int,zq]
 have L:=bG G
 obtain⟨n,en'⟩:∃ n,d.ae[i]=n:=⟨_,rfl⟩
 have en:d.ae[i]?=some n:=by rw[ac G,en']
 have F:(d.ae.take (i+1)).foldl (vW d t) []=vW d t ((d.ae.take i).foldl (vW d t) []) n:=by
  rw[bq G,oI,en'];rfl
 generalize (d.ae.take i).foldl (vW d t) []=l at H K F ⊢
 by_cases E:n.aZ=t
 case neg=>
  rw[vW,ge E] at F;simp+decide[int,zq,Nt.row,G,L,en',E,aB];exact⟨by omega,i+1,G,by omega,by rw[F],by omega⟩
 have Z:n∈d.ae:=by rw[<-en'];exact nF G
 have T:=h.e_ n Z
 have W:t.toNat<d.al.length:=by have:=T.1;have:=T.2;omega
 have A:((t.toNat:Nat):Int)=t:=by have:=T.1;omega
 rw[vW,gt E] at F
 have I:∀ x∈l,eM d t.toNat x:=λx hx=>by
  rcases K x hx with e | e
  .cases e
  .exact⟨e.1,by rw[A];exact e.2⟩
 have N:eM d t.toNat n:=⟨Z,by rw[A];exact E⟩
 have hb:=λx (hx:x∈l)=>zjm h t.toNat W n x N (I x hx)
 generalize hR:jN d t.toNat=R at F hb
 simp+decide[int,zq,Nt.row,G,L,en',E]
 refine cl (λk:Nat=>{n:=72,next:=4,af:=[(1,.d (int t)),(2,.bp 0 0),(5,.d (zq l)),(6,.d (int i)),(7,.bp 3 0),(8,.d (int k))],own:=[(0,.box 53 (zO d)),(3,.box 72 (dz n))]})
  (λk=>k<=l.length/\vV R n l l.length=vV R n l k) (λk=>k) l.length (by simp) (by simp+decide[int,zq,E]) ?_
 rintro k ⟨S,hg⟩
 have V:∀ j:Nat,k=j+1->R n (gN l j)=true->vV R n l l.length=vV R n l j:=by
  rintro j rfl hr;rw[hg,vV,gt hr]
 have M:(k=0\/∃ j,k=j+1/\R n (gN l j)=false)->vV R n l l.length=k:=by
  rintro(rfl | ⟨j,rfl,hr⟩)
  .rw[hg];rfl
  .rw[hg,vV,ge (by simp[hr])]
 cases k
 case' zero=>
  have X:=M (.inl rfl);simp+decide[int,zq]
 case' succ j=>
  have O:j<l.length:=by omega
  have Y:(j:Int)<l.length:=by omega
  have e2:l[j]?=some l[j]:=ac O
  have j0:(0:Int)<(j:Int)+1:=by omega
  have j1:(j:Int)+1-1=j:=by omega
  have B:=hb l[j] (nF O);obtain⟨y,ey'⟩:∃ y,l[j]=y:=⟨_,rfl⟩;rw[ey'] at B;simp+decide[int,zq,Nt.row,O,Y,j0,j1,aB,ey'];refine⟨by omega,?_⟩
  refine bw B ?_
  cases hr:R n y
  case' true=>
   simp+decide
   exact⟨by unfold aB;omega,j,⟨by omega,V j rfl (by rw[qa O,ey'];exact hr)⟩,by omega⟩
  case' false=>
   have X:=M (.inr ⟨j,rfl,by rw[qa O,ey'];exact hr⟩)
   simp+decide
 all_goals
  refine zfm [4] ?_
  refine kh 12 [] ?_
  simp+decide[int,zq,Nt.row]
 .have hm:min (j+1) l.length=j+1:=by omega
  refine⟨⟨by omega,by omega⟩,⟨λr hr=>FI (oh hr),by omega,by unfold maxLen;omega⟩,⟨by omega,by unfold maxLen;omega⟩,⟨by omega,by omega⟩,⟨λr hr=>FI (oh (oH hr)),by omega,by unfold maxLen;omega⟩,by rfl,by unfold aB;omega,i+1,G,by omega,?_,by omega⟩
  rw[F,If,X];simp[Nt.row,int,oa]
 .exact⟨⟨λr hr=>FI (oh hr),by omega,by unfold maxLen;omega⟩,by rfl,by unfold aB;omega,i+1,G,by omega,by rw[F,If,X];simp[Nt.row,int,oa],by omega⟩
theorem Ig(h:fa d)(id t:Int):aq prog 56 [zn d,int id,int t] (aa (zH ((uc d t).filter λn=>decide (n.aE=id)))):=by
 refine fY func56 [2] ?_
 have J:=h.cW
 have Q:=VC h t
 have T:∀ x∈uc d t,x∈d.ae:=λx V=>by
  rcases Ie h t (Ct _) V with e | e
  .cases e
  .exact e.1
 have L:(uc d t).length<=d.ae.length:=by have:=FH d t d.ae [];rw[pc,rf] at this;exact this
 generalize uc d t=l at Q T L ⊢
 simp+decide[f56,zn,Dc.row,int,aa,zw,zq]
 refine zg Q ?_
 have F:=WM l
 simp+decide[aa]
 refine dg (λk:Nat=>{n:=43,next:=3,af:=[(1,.d (int id)),(2,.d (int t)),(3,.bp 0 0),(7,.ar 2),(8,.d (aa (zH l))),(9,.d (int k))],own:=[(0,.box 53 (zO d)),(2,.aQ 3 1 ((zH ((l.take k).filter λn=>decide (n.aE=id))).map λn=>[int n]))],aA:=[2]}) l.length (by simp+decide[int,aa,zw,zq,zH]) ?_
 intro k X
 by_cases H:k<l.length
 case neg=>
  obtain rfl:k=l.length:=by omega
  rw[nH];simp+decide[int,aa,F]
 have G:=bG H
 have E:k<(zH l).length:=by omega
 have e2:(zH l)[k]?=some l[k].id:=by unfold zH;rw[pC,ac H];rfl
 have K:(zH l)[k]'E=l[k].id:=by simp[zH]
 have M:=h.get (T _ (nF H))
 have aI:zH ((l.take (k+1)).filter λn=>decide (n.aE=id))=zH ((l.take k).filter λn=>decide (n.aE=id))++(if l[k].aE=id then [l[k].id] else []):=by
  rw[bq H,pm];unfold zH;rw[oF];by_cases e:l[k].aE=id <;> simp[e]
 have O:(zH ((l.take k).filter λn=>decide (n.aE=id))).length<=k:=by
  rw[WM];exact oC (oz _ _) (by rw[nR];omega)
 simp+decide[int,aa,G,F]
 refine kh 12 [] ?_
 simp+decide[int,aa,H,G,F,K]
 refine bw (jL d l[k].id (by omega)) ?_
 rw[M]
 by_cases e:l[k].aE=id
 .rw[gt e] at aI
  simp+decide[cb,Nt.row,int,aa,e,H,G,F,K,aB];exact⟨by rfl,by omega,by unfold maxLen;omega,by omega,k+1,H,by omega,by omega,by rw[aI];simp⟩
 .rw[ge e,oq] at aI
  simp+decide[cb,Nt.row,int,e,aB];exact⟨by rfl,by omega,k+1,H,by omega,by omega,by rw[aI]⟩
end
end Go.V.Doc
namespace Go.V.Doc
open Go Go.Proofs Tryz
theorem VD{α:Type}{l:List α}{k:Nat}(h:k<l.length):l.take (k+1)=l.take k++[l[k]]:=by
 rw[rT,ac h];rfl
def Zi{α:Type}(p:α->Bool)(l:List α):Int:=match l.findIdx? p with
 |some k=>k
 |none=>-1
theorem FM{α:Type}{p:α->Bool}{l:List α}{k:Nat}(h:k<l.length)(H:∀ e∈l.take k,p e=false)(G:p l[k]=true):l.findIdx? p=some k:=by
 rw[oN]
 refine⟨h,G,λj hj=>?_⟩
 have:=H l[j] (by rw[oG];exact⟨j,by omega,rfl⟩)
 simpa using this
theorem Ih{α:Type}{p:α->Bool}{l:List α}(H:∀ e∈l,p e=false):l.findIdx? p=none:=by
 rw[pj];exact H
def zy(l:List cD)(bV:Int):Int:=if bV=0 then -1 else Zi (λt=>decide (t.bV=bV)) l
theorem FN(l:List cD)(bV:Int)(G:l.length<2^62):aq prog 111 [zw l,int bV] (int (zy l bV)):=by
 refine aF func111 ?_
 simp+decide[f111,zw,int]
 refine cl (λk:Nat=>{n:=24,next:=0,af:=[(1,.d (int bV)),(7,.d (zw l)),(8,.d (.int .i64 l.length)),(9,.d (.int .i64 k))],own:=[]})
  (λk=>k<=l.length/\(bV≠0->∀ t∈l.take k,decide (t.bV=bV)=false)) (λk=>l.length-k) 0 (by simp) (by simp+decide[zw,int]) ?_
 intro k ⟨F,E⟩
 by_cases H:k<l.length
 .have e1:l[k]?=some l[k]:=ac H
  by_cases K:bV=0
  .subst K
   simp+decide[zw,cD.row,int,H,aB];exact⟨by omega,k+1,H,by omega,by omega⟩
  .by_cases J:l[k].bV=bV
   .have L:zy l bV=k:=by
     unfold zy Zi;rw[ge K,FM H (E K) (by simp[J])]
    simp+decide[zw,cD.row,int,H,K,J,L]
   .simp+decide[zw,cD.row,int,H,aB,K,J]
    refine⟨by omega,k+1,⟨H,λt M=>?_⟩,by omega,by omega⟩
    rw[VD H] at M;rcases nM.1 M with h | h
    .simpa using E K t h
    .rw[nQ] at h;rw[h];exact J
 .obtain rfl:k=l.length:=by omega
  rw[nH] at E;have L:zy l bV = -1:=by
   unfold zy Zi;by_cases K:bV=0
   .rw[gt K]
   .rw[ge K,Ih (E K)]
  simp+decide[zw,int,L]
theorem zgk(l:List cD)(bV:Int)(G:l.length<2^62):aq prog 114 [zw l,int bV] (int (zy l bV)):=by
 refine aF func114 ?_
 simp+decide[f114,zw,int]
 refine cl (λk:Nat=>{n:=24,next:=0,af:=[(0,.d (zw l)),(1,.d (int bV)),(5,.d (.int .i64 k))],own:=[]})
  (λk=>k<=l.length/\(bV≠0->∀ t∈l.take k,decide (t.bV=bV)=false)) (λk=>l.length-k) 0 (by simp) (by simp+decide[zw,int]) ?_
 intro k ⟨F,E⟩
 by_cases H:k<l.length
 .have e1:l[k]?=some l[k]:=ac H
  by_cases K:bV=0
  .subst K
   simp+decide[zw,int,H,aB];exact⟨by omega,k+1,H,by omega,by omega⟩
  .by_cases J:l[k].bV=bV
   .have L:zy l bV=k:=by
     unfold zy Zi;rw[ge K,FM H (E K) (by simp[J])]
    simp+decide[zw,cD.row,int,H,K,J,L]
   .simp+decide[zw,cD.row,int,H,aB,K,J]
    refine⟨by omega,k+1,⟨H,λt M=>?_⟩,by omega,by omega⟩
    rw[VD H] at M;rcases nM.1 M with h | h
    .simpa using E K t h
    .rw[nQ] at h;rw[h];exact J
 .obtain rfl:k=l.length:=by omega
  rw[nH] at E;have L:zy l bV = -1:=by
   unfold zy Zi;by_cases K:bV=0
   .rw[gt K]
   .rw[ge K,Ih (E K)]
  simp+decide[zw,int,L]
theorem gJ(d:Dc)(r:Int)(H:d.al.length<2^62):aq prog 57 [zn d,int r] (int (zy d.al r)):=by
 refine aF func57 ?_
 have G:=zgk d.al r H
 simp+decide[Tryz.f57,zn,Dc.row,int]
 refine zg G ?_
 simp+decide[int]
theorem zgl{P:Program}(F:P.follows .mixedOrders=true){id:Nat}{ops:List Oper}{st:St}{Q:DE->St->Prop}(H:ops≠[])(K:yO ops=true)(E:vF ops (ops.length-1)=true)(L:(ops.getLast H).guard=none)
  (G:(st.own.map (·.1)).Nodup) (h:Xz P ops st.next (ops.getLast H) ops.dropLast st (Q .normal)):aT P (.region id ops.toArray true) Q st:=by
 obtain⟨bJ,o,rfl⟩:∃ bJ o,ops=bJ++[o]:=⟨ops.dropLast,ops.getLast H,(su H).symm⟩
 have J:(bJ++[o]).getLast H=o:=by simp
 rw[J] at L h
 rw[By] at h
 refine TD F K ?_ L G h
 simpa using E
def ud(d:Dc):D:=.agg [int (zy d.al 2),int (zy d.al 3),int (zy d.al 4)]
theorem YU(d:Dc)(H:d.al.length<2^62):aq prog 52 [zn d] (ud d):=by
 refine aF func52 ?_
 have G:=FN d.al 2 H
 have F:=FN d.al 3 H
 have E:=FN d.al 4 H
 simp+decide[f52,zn,Dc.row,int]
 refine zgl mixed (by simp) (by rfl) (by rfl) (by rfl) (by simp) ?_
 simp+decide
 refine bw G ?_
 simp+decide[int]
 refine bw F ?_
 simp+decide[int]
 refine bw E ?_
 simp+decide[int,ud]
def yl(d:Dc):Bool:=decide (0<=zy d.al 2)&&(decide (0<=zy d.al 3)&&decide (0<=zy d.al 4))
theorem YW(d:Dc)(H:d.al.length<2^62):aq prog 20 [zn d] (.bool (yl d)):=by
 refine aF func20 ?_
 have h:=YU d H
 unfold yl
 simp+decide[Tryz.f20,zn,Dc.row,int]
 refine zg h ?_
 by_cases c2:0<=zy d.al 2
 .by_cases c3:0<=zy d.al 3
  .by_cases c4:0<=zy d.al 4
   .simp+decide[ud,int,c2,c3,c4]
   .simp+decide[ud,int,c2,c3,c4]
  .simp+decide[ud,int,c2,c3]
 .simp+decide[ud,int,c2]
theorem VE(d:Dc)(H:d.al.length<2^62):aq prog 21 [zn d] (.bool (yl d)):=by
 refine aF func21 ?_
 have G:=gJ d 2 H
 have F:=gJ d 3 H
 have E:=gJ d 4 H
 unfold yl
 simp+decide[Tryz.f21,zn,Dc.row,int]
 refine zg G ?_
 by_cases c2:0<=zy d.al 2
 .simp+decide[int,c2]
  refine zg F ?_
  by_cases c3:0<=zy d.al 3
  .simp+decide[int,c3]
   refine zg E ?_
   by_cases c4:0<=zy d.al 4
   .simp+decide[int,c4]
   .simp+decide[int,c4]
  .simp+decide[int,c3]
 .simp+decide[int,c2]
theorem WN(d:Dc)(id:Int)(H:d.ae.length<2^62):aq prog 58 [zn d,int id] (.str (zp d.ae id).1.cF):=by
 refine aF func58 ?_
 have h:=jL d id H
 simp+decide[f58,zn,Dc.row,int]
 refine zg h ?_
 simp+decide[cb,Nt.row,int]
def yB(d:Dc)(id:Int):Bool:=(zp d.ae id).2&&decide ((zp d.ae id).1.aZ=zy d.al 2)
theorem FO(d:Dc)(id:Int)(H:d.ae.length<2^62)(G:d.al.length<2^62):aq prog 55 [zn d,int id] (.bool (yB d id)):=by
 refine aF func55 ?_
 have h:=jL d id H
 have F:=gJ d 2 G
 unfold yB
 simp+decide[f55,zn,Dc.row,int]
 refine zg h ?_
 generalize zp d.ae id=r
 obtain⟨n,ok⟩:=r
 cases ok with
 |false=>simp+decide[cb,Nt.row,int]
 |true=>
  simp+decide[cb,Nt.row,int];refine bw F ?_
  simp+decide[int]
theorem FP(d:Dc)(id:Int)(H:d.ae.length<2^62)(G:d.al.length<2^62):aq prog 51 [zn d,int id] (.bE [.agg (zp d.ae id).1.row,.bool (yB d id)]):=by
 refine aF func51 ?_
 have h:=YM d id H
 have F:=YU d G
 unfold yB
 simp+decide[f51,zn,Dc.row,int]
 refine zg h ?_
 generalize zp d.ae id=r
 obtain⟨n,ok⟩:=r
 cases ok with
 |false=>
  simp+decide[cb,Nt.row,int];refine Z8 mixed 10 [1] (by rfl) (by rfl) (by rfl) (by rfl) (by simp) ?_
  simp+decide
 |true=>
  simp+decide[cb,Nt.row,int];refine Z8 mixed 10 [1] (by rfl) (by rfl) (by rfl) (by rfl) (by simp) ?_
  simp+decide
  refine bw F ?_
  simp+decide[int,ud]
def yC(l:List ByteArray):D:=.sl (l.map λs=>[.str s])
def vz(d:Dc)(id:Int):ByteArray:=(zp d.ae id).1.cF
def gK(d:Dc)(l:List Int):ByteArray:=l.foldl (λ_ k=>vz d k) .empty
def yy(d:Dc)(id:Int)(r:Int):List Int:=zH (yT d id (zy d.al r))
def XY(d:Dc)(w:Int):Bool:=yB d w&&yl d
theorem XZ(d:Dc)(id r:Int)(H:Fw d):(yy d id r).length<20:=by
 unfold yy zH yT
 rw[om,(Y3 _).length_eq]
 exact H.k _ _
theorem zup{d:Dc}{K:List Int}{j:Nat}(h:j<K.length):(K.take (j+1)).foldl (λ_ k=>vz d k) ByteArray.empty=vz d K[j]:=by
 rw[VD h,oI]
 rfl
def eJ(d:Dc)(L:List Int):List (List D):=L.map λm=>[D.str (vz d m)]
def iF(d:Dc)(L:List Int):List (List D):=L.map λm=>[D.str (gK d (yy d m 4))]
theorem zn3(d:Dc)(w:Int)(S:Fw d)(W:d.al.length<2^62):
  aq prog 18 [zn d,int w] (if XY d w=true then .bE [yC ((yy d w 3).map (vz d)),yC ((yy d w 3).map λm=>gK d (yy d m 4))] else .bE [yC [],yC []]):=by
 refine aF func18 ?_
 have B:=S.n
 have hg:=FP d w (by omega) W
 have hr:=YW d W
 have hf:=YU d W
 have X:=XZ d w 3 S
 unfold XY
 simp+decide[f18,zn,Dc.row,int]
 refine zg hg ?_
 cases hw:yB d w with
 |false=>simp+decide[Nt.row,int,yC]
 |true=>
  simp+decide[Nt.row,int];refine zg hr ?_
  cases N:yl d with
  |false=>simp+decide[yC]
  |true=>
   simp+decide
   refine zg hf ?_
   simp+decide[int,ud];refine zE.V8 (by rfl) (YS d w (zy d.al 3) S) ?_
   change ((yy d w 3).length<20) at X
   rw[show zH (yT d w (zy d.al 3))=yy d w 3 from rfl]
   generalize yy d w 3=L at X ⊢;simp+decide[aa];have P:aa d.fh = .sl (d.fh.map λn=>[.int .i64 n]):=rfl
   refine xP (λk:Nat=>{n:=82,next:=7,af:=[(2,.bp 0 0),(8,.bp 4 0),(9,.ar 5),(10,.ar 6),(39,.d (aa L)),(40,.d (int L.length)),(41,.d (int k))],own:=[(0,.box 53 (zO d)),(4,.box 112 [.d (int (zy d.al 2)),.d (int (zy d.al 3)),.d (int (zy d.al 4))]),(5,.aQ 9 1 (eJ d (L.take k))),(6,.aQ 9 1 (iF d (L.take k)))],aA:=[5,6]}) L.length ?_ ?_
   .simp+decide[int,aa,zO,eJ,iF]
   intro k C;refine cy ?_
   by_cases H:k<L.length
   case neg=>
    obtain rfl:k=L.length:=by omega
    simp+decide[int,aa,yC,eJ,iF,zO,vz]
   have J:=bG H;obtain⟨m,em,em1⟩:=bN H;have Y:=YM d m (by omega)
   have M:=YS d m (zy d.al 4) S;have O:=XZ d m 4 S;have aI:=VD H;rw[em] at aI;have ef:eJ d (L.take (k+1))=eJ d (L.take k)++[[.str (vz d m)]]:=by rw[aI];simp[eJ]
   have eg:iF d (L.take (k+1))=iF d (L.take k)++[[.str (gK d (yy d m 4))]]:=by rw[aI];simp[iF]
   have lf:(eJ d (L.take k)).length=k:=by simp[eJ];omega
   have lg:(iF d (L.take k)).length=k:=by simp[iF];omega
   generalize eJ d (L.take k)=F at ef lf;generalize iF d (L.take k)=G at eg lg;rw[show zH (yT d m (zy d.al 4))=yy d m 4 from rfl] at M
   have Q:vz d m=(zp d.ae m).1.cF:=rfl
   generalize yy d m 4=K at M O eg;generalize zp d.ae m=r at Y Q;obtain⟨nm,ok⟩:=r;simp only at Q
   simp+decide[int,aa,zO,H,J,em];refine zg Y ?_
   simp+decide[cb,Nt.row,int];refine zE.V8 (by rfl) M ?_
   simp+decide[aa];refine xP (λj:Nat=>{n:=82,next:=8,af:=[(2,.bp 0 0),(8,.bp 4 0),(9,.ar 5),(10,.ar 6),(39,.d (aa L)),(40,.d (int L.length)),(41,.d (int k)),(13,.bp 7 0),(15,.d (.str (gK d (K.take j)))),(55,.d (aa K)),(56,.d (int K.length)),(57,.d (int j))],own:=[(0,.box 53 (zO d)),(4,.box 112 [.d (int (zy d.al 2)),.d (int (zy d.al 3)),.d (int (zy d.al 4))]),(5,.aQ 9 1 F),(6,.aQ 9 1 G),(7,.box 72 (nm.row.map .d))],aA:=[5,6]}) K.length ?_ ?_
   .simp+decide[int,aa,zO,Nt.row,gK]
   intro j hj;refine cy ?_
   by_cases E:j<K.length
   case neg=>
    obtain rfl:j=K.length:=by omega
    rw[nH];simp+decide[int,aa,zO,Nt.row,aB];exact⟨by omega,by unfold maxLen;omega,by omega,by unfold maxLen;omega,by omega,k+1,H,by omega,by omega,by rw[ef,Q],by rw[eg]⟩
   have T:=bG E;obtain⟨q,eq,eq1⟩:=bN E;have Z:=zup (d:=d) E;rw[eq] at Z;have A:=YM d q (by omega)
   have V:vz d q=(zp d.ae q).1.cF:=rfl
   generalize zp d.ae q=r2 at A V;obtain⟨nq,okq⟩:=r2;simp only at V
   have I:gK d (K.take (j+1))=nq.cF:=by unfold gK;rw[Z,V]
   simp+decide[int,aa,zO,Nt.row,E,T,eq];refine zg A ?_
   simp+decide[cb,Nt.row,int,aB];exact⟨by omega,j+1,E,by omega,by rw[I],by omega⟩
def kE(d:Dc)(id:Int)(r:Int):List Int:=zH ((uc d (zy d.al r)).filter λn=>decide (n.aE=id))
def VF(d:Dc)(l:List Int):ByteArray:=match l with
 | []=>.empty
 |k::_=>vz d k
def Zj(d:Dc)(L:List Int):List (List D):=L.map λm=>[D.str (VF d (kE d m 4))]
theorem zdv(d:Dc)(Z:fa d)(w:Int)(A:d.al.length<2^62)(B:(kE d w 3).length<2^40):
  aq prog 19 [zn d,int w] (if (yl d&&yB d w)=true then .bE [yC ((kE d w 3).map (vz d)),yC ((kE d w 3).map λm=>VF d (kE d m 4))] else .bE [yC [],yC []]):=by
 refine aF func19 ?_
 have T:=Z.cW
 have C:=FO d w (by omega) A
 have I:=VE d A
 have N:=gJ d 3 A
 have P:=gJ d 4 A
 have S:=Ig Z w (zy d.al 3)
 simp+decide[f19,zn,Dc.row,int]
 refine zg I ?_
 cases X:yl d with
 |false=>simp+decide[yC]
 |true=>
  simp+decide
  refine zg C ?_
  cases Y:yB d w with
  |false=>simp+decide[yC]
  |true=>
   simp+decide
   refine bw N ?_
   simp+decide[int];refine bw S ?_
   rw[show zH ((uc d (zy d.al 3)).filter λn=>decide (n.aE=w))=kE d w 3 from rfl]
   generalize kE d w 3=L at B ⊢;simp+decide[aa];refine xP (λk:Nat=>{n:=66,next:=5,af:=[(2,.bp 0 0),(6,.ar 3),(7,.ar 4),(8,.d (aa L)),(9,.d (int k))],own:=[(0,.box 53 (zO d)),(3,.aQ 9 1 (eJ d (L.take k))),(4,.aQ 9 1 (Zj d (L.take k)))],aA:=[3,4]}) L.length ?_ ?_
   .simp+decide[int,aa,zO,eJ,Zj]
   intro k V;refine cy ?_
   by_cases H:k<L.length
   case neg=>
    obtain rfl:k=L.length:=by omega
    simp+decide[int,aa,yC,eJ,Zj,zO,vz]
   have E:=bG H;obtain⟨m,em,em1⟩:=bN H;have M:=WN d m (by omega)
   have J:=Ig Z m (zy d.al 4);have aI:=VD H;rw[em] at aI;have ef:eJ d (L.take (k+1))=eJ d (L.take k)++[[.str (vz d m)]]:=by rw[aI];simp[eJ]
   have eg:Zj d (L.take (k+1))=Zj d (L.take k)++[[.str (VF d (kE d m 4))]]:=by rw[aI];simp[Zj]
   have lf:(eJ d (L.take k)).length=k:=by simp[eJ];omega
   have lg:(Zj d (L.take k)).length=k:=by simp[Zj];omega
   generalize eJ d (L.take k)=F at ef lf;generalize Zj d (L.take k)=G at eg lg;rw[show zH ((uc d (zy d.al 4)).filter λn=>decide (n.aE=m))=kE d m 4 from rfl] at J
   rw[show(zp d.ae m).1.cF=vz d m from rfl] at M
   generalize kE d m 4=K at J eg;simp+decide[int,aa,zO,E];refine jH 8 ?_
   simp+decide[H,E,em];refine bw M ?_
   simp+decide
   refine⟨by omega,by unfold maxLen;omega,?_⟩
   refine bw P ?_
   simp+decide[int];refine bw J ?_
   cases K with
   |nil=>
    simp+decide[aa,aB];exact⟨by omega,by unfold maxLen;omega,by omega,k+1,H,by omega,by omega,by rw[ef],by rw[eg];rfl⟩
   |cons q K'=>
    have O:=WN d q (by omega)
    rw[show(zp d.ae q).1.cF=vz d q from rfl] at O
    have Q:(0:Int)<(K'.length:Int)+1:=by omega
    simp+decide[aa,Q];refine jH 7 ?_
    simp+decide[aB,Q];refine bw O ?_
    simp+decide
    exact⟨by omega,by unfold maxLen;omega,⟨by omega,by omega⟩,k+1,H,by omega,by omega,by rw[ef],by rw[eg];rfl⟩
theorem b_.label{d:Dc}(h:b_ d){t:Nat}(J:t<d.al.length)(k4:(zv d t).kind=4){a b:Nt}(L:eM d t a)(M:eM d t b)(O:a.aE=b.aE):a=b:=by
 apply oJ
 intro K
 have H:=(WE.1 (h.ter t J)).2 a (uO.2 L)
 have F:a∈yc d.ae t a.aE:=by unfold yc;rw[oA];exact⟨L.1,by simp[L.2]⟩
 have E:b∈yc d.ae t a.aE:=by unfold yc;rw[oA];exact⟨M.1,by simp[M.2,O]⟩
 have G:¬1<(yc d.ae t a.aE).length:=by
  rw[k4] at H;simp[eN] at H;omega
 generalize yc d.ae t a.aE=S at G F E
 obtain⟨i,hi,rfl⟩:=nT.1 F
 obtain⟨j,hj,rfl⟩:=nT.1 E
 obtain rfl:i=j:=by omega
 exact K rfl
theorem b_.xe{d:Dc}(h:b_ d){t:Nat}(H:t<d.al.length)(G:(d.al[t]).bV=4):(zv d t).kind=4:=by
 have F:=h.cI.al t H
 rw[gG d H]
 generalize d.al[t]=x at *
 unfold qM at F
 have key:∀ pr,gA pr x.kind x.bV=0->x.kind=4:=by
  intro pr E;unfold gA at E;rw[G] at E;simp at E
  exact oJ λhne=>by rw[ge hne] at E;cases E
 split at F
 .cases F
 .split at F
  .cases F
  .split at F
   .cases F
   .split at F
    .cases F
    .split at F
     .cases F
     .split at F
      .split at F
       .exact key _ F
       .cases F
      .split at F
       .cases F
       .split at F
        .cases F
        .exact key _ F
theorem FQ{α:Type}{p:α->Bool}{l:List α}(h:0<=Zi p l):∃ k:Nat,Zi p l=k/\∃ H:k<l.length,p l[k]=true:=by
 unfold Zi at h ⊢
 cases G:l.findIdx? p with
 |none=>rw[G] at h;simp at h
 |some k=>
  rw[oN] at G;obtain⟨H,F,_⟩:=G;exact⟨k,rfl,H,F⟩
theorem Ii{α:Type}:∀ {l:List α},l.Nodup->(∀ a∈l,∀ b∈l,a=b)->l.length<=1
 | [],_,_=>nU _
 | [a],_,_=>nJ _
 |a::b::l,H,h=>by
  have:=h a (by simp) b (by simp)
  subst this;simp at H
theorem zjn{d:Dc}(h:b_ d)(H:yl d=true)(m:Int):(yy d m 4).length<=1:=by
 unfold yl at H
 simp only[nI,nD] at H
 have G:=H.2.2
 unfold zy at G
 rw[ge (by decide)] at G
 obtain⟨t,et,F,E⟩:=FQ G
 rw[nD] at E
 have K:=h.xe F E
 have er:zy d.al 4=(t:Int):=by unfold zy;rw[ge (by decide),et]
 unfold yy zH
 rw[om,er]
 refine Ii ?_ ?_
 .exact(Y3 _).nodup_iff.2 ((WH h.w).sublist oX)
 .intro a J b L
  have J:=oA.1 ((Y3 _).mem_iff.1 J);have L:=oA.1 ((Y3 _).mem_iff.1 L);have ka:=J.2;have kb:=L.2;unfold yS at ka kb;simp only[nI,nD] at ka kb;exact h.label F K ⟨J.1,ka.1.1.1⟩ ⟨L.1,kb.1.1.1⟩ (by rw[ka.1.1.2,kb.1.1.2])
theorem zjo{d:Dc}{K:List Int}(h:K.length<=1):gK d K=VF d K:=by
 match K,h with
 | [],_=>rfl
 | [k],_=>rfl
theorem FR{d:Dc}(h:b_ d)(id r:Int):kE d id r=yy d id r:=by
 unfold kE yy
 rw[zq8 h.w,zq9 h.w]
theorem FT{d:Dc}(h:u6 d=true):d.ae.length<=14/\d.al.length<=6/\d.fh.length<=6/\b_ d:=by
 simp only[u6,nI,nD] at h
 exact⟨h.1.1.1,h.1.1.2,h.1.2,zji.1 (by rw[I5];exact h.2)⟩
theorem uf{d:Dc}(h:b_ d):d.al.length<=20:=by
 have:=h.al
 unfold ku at this
 split at this
 .cases this
 .omega
theorem b_.Ij{d:Dc}(h:b_ d){m:Nt}(G:m∈d.ae):∃ t:Nat,t<d.al.length/\m.aZ=t:=by
 have H:=Zf h.cI G
 exact⟨m.aZ.toNat,by have:=H.t0;have:=H.t1;omega,by have:=H.t0;omega⟩
def VG(d:Dc)(t:Nat)(n:Nt):List Nt:=n::(if h:(zv d t).kind≠0/\(zv d t).aE.toNat<t then VG d (zv d t).aE.toNat (qO d n) else [])
termination_by t
decreasing_by exact h.2
theorem ztf(d:Dc)(t:Nat)(n:Nt):VG d t n=n::(if h:(zv d t).kind≠0/\(zv d t).aE.toNat<t then VG d (zv d t).aE.toNat (qO d n) else []):=by rw[VG]
def qG(d:Dc)(n:Nt):List Nt:=VG d n.aZ.toNat n
def bH(d:Dc)(r:Nt×Bool):List Nt:=if r.2=true then qG d r.1 else []
theorem xB{d:Dc}(h:b_ d){n:Nt}(G:n∈d.ae):qG d n=n::bH d (zp d.ae n.aE)/\((zp d.ae n.aE).2=true->(zp d.ae n.aE).1∈d.ae/\(zp d.ae n.aE).1.aZ<n.aZ):=by
 obtain⟨t,H,et⟩:=h.Ij G
 unfold qG
 rw[et,pR,ztf]
 by_cases F:(zv d t).kind=0
 .have E:n.aE=0:=h.iU ⟨G,et⟩ F
  have K:(zp d.ae n.aE).2=false:=by
   cases J:(zp d.ae n.aE).2 with
   |false=>rfl
   |true=>
    obtain⟨g1,g2⟩:=u7 J;have:=(h.e_ _ g1).lo
    omega
  rw[dif_neg (λe=>e.1 F)]
  refine⟨?_,λe=>by rw[K] at e;cases e⟩
  unfold bH;rw[K];rfl
 .have L:=h.up H F
  obtain⟨p1,p2⟩:=h.dv ⟨G,et⟩ H F;have K:=ua h p1.1;rw[p2] at K;rw[si ⟨F,L.2⟩,K];refine⟨?_,λ_=>⟨p1.1,by have:=p1.2;rw[this];omega⟩⟩
  unfold bH qG;rw[gt rfl,p1.2,pR]
theorem VH{d:Dc}(h:b_ d):∀ (k:Nat) (n:Nt),n∈d.ae->n.aZ.toNat<=k->(∀ m∈qG d n,m∈d.ae)/\(qG d n).length<=n.aZ.toNat+1:=by
 intro k
 induction k with
 |zero=>
  intro n H G;obtain⟨F,E⟩:=xB h H;have K:(zp d.ae n.aE).2=false:=by
   cases J:(zp d.ae n.aE).2 with
   |false=>rfl
   |true=>
    have:=E J
    have:=(h.e_ _ this.1).t0
    omega
  rw[F];unfold bH;rw[K];exact⟨by simp[H],by simp⟩
 |succ k ih=>
  intro n H G;obtain⟨F,E⟩:=xB h H;rw[F];unfold bH;cases J:(zp d.ae n.aE).2 with
  |false=>exact⟨by simp[H],by simp⟩
  |true=>
   obtain⟨g1,g2⟩:=E J;have g0:=(h.e_ _ g1).t0;have:=ih _ g1 (by omega)
   rw[gt rfl];refine⟨λm L=>?_,by rw[nP];omega⟩
   rcases nE.1 L with rfl | L
   .exact H
   .exact this.1 m L
theorem zdw(d:Dc)(h:b_ d)(id:Int):aq prog 85 [zn d,int id] (aa (zH (bH d (zp d.ae id)))):=by
 have M:=uf h
 have F:=h.cW
 refine fY func85 [1] ?_
 simp+decide[f85,zn,Dc.row,int,zw]
 refine zg (jL d id (by omega)) ?_
 have O:=u7 (l:=d.ae) (id:=id)
 generalize zp d.ae id=r at O ⊢
 obtain⟨n,ok⟩:=r
 simp+decide[cb,Nt.row,int]
 refine cl (λx:List Nt×Nt×Bool=>{n:=38,next:=4,af:=[(2,.bp 0 0),(5,.ar 2),(6,.bp 3 0),(7,.d (.bool x.2.2)),(8,.d (int x.1.length))],own:=[(0,.box 53 (zO d)),(2,.aQ 3 1 ((zH x.1).map λn=>[int n])),(3,.box 72 (dz x.2.1))],aA:=[2]})
  (λx=>(x.2.2=true->x.2.1∈d.ae/\(x.1.length:Int)+x.2.1.aZ<d.al.length)/\x.1.length<=d.al.length/\x.1++bH d (x.2.1,x.2.2)=bH d (n,ok)) (λx=>d.al.length+1-x.1.length) ([],n,ok)
  ⟨λe=>⟨(O e).1,by have:=(h.e_ _ (O e).1).t1;simp only at this ⊢;simpa using this⟩,nU _,rfl⟩ (by simp+decide[int,zH,zw]) ?_
 rintro⟨out,c,b⟩ ⟨Q,T,V⟩
 simp only at Q T V
 have E:(zH out).length=out.length:=by simp[zH]
 have H:(out.length:Int)<=d.al.length:=by omega
 cases b with
 |false=>
  have K:bH d (n,ok)=out:=by rw[<-V];simp[bH]
  rw[K];simp+decide[int,aa,zw,H]
 |true=>
  obtain⟨G,J⟩:=Q rfl;obtain⟨X,Y⟩:=xB h G;have Z:=jL d c.aE (by omega)
  have c0:=(h.e_ c G).t0;generalize zp d.ae c.aE=g at X Y Z;obtain⟨p,pk⟩:=g;simp+decide[int,aa,zw,E,H];refine⟨by omega,by unfold maxLen;omega,?_⟩
  refine zg Z ?_
  have A:(out++[c])++bH d (p,pk)=bH d (n,ok):=by
   rw[<-V,pA];congr 1
   unfold bH;rw[gt rfl,X];rfl
  have B:List.map (λn=>[D.int .i64 n]) (zH out)++[[D.int .i64 c.id]]=List.map (λn=>[D.int .i64 n]) (zH (out++[c])):=by simp[zH]
  simp+decide[cb,Nt.row,int,aa,zw,aB];have L:(out++[c]).length=out.length+1:=by simp
  refine⟨by omega,out++[c],p,?_⟩
  cases pk with
  |false=>
   left
   exact⟨⟨by omega,A⟩,by omega,⟨rfl,by omega⟩,B,rfl,rfl,rfl,rfl,rfl,rfl,rfl⟩
  |true=>
   right
   have g2:=(Y rfl).2;have g3:=(Y rfl).1;simp only at g2 g3
   exact⟨⟨⟨g3,by omega⟩,by omega,A⟩,by omega,⟨rfl,by omega⟩,B,rfl,rfl,rfl,rfl,rfl,rfl,rfl⟩
theorem VI{d:Dc}(h:b_ d){n:Nt}(H:n∈d.ae):n∈qG d n:=by
 rw[(xB h H).1];exact nL
theorem VJ{d:Dc}(h:b_ d):∀ (k:Nat) (n:Nt),n∈d.ae->n.aZ.toNat<=k->∀ m∈bH d (zp d.ae n.aE),m.aZ<n.aZ:=by
 intro k
 induction k with
 |zero=>
  intro n H G m F;unfold bH at F;split at F
  .rename_i E
   have:=(xB h H).2 E
   have:=(h.e_ _ this.1).t0
   omega
  .cases F
 |succ k ih=>
  intro n H G m F;unfold bH at F;split at F
  .rename_i E
   obtain⟨K,J⟩:=(xB h H).2 E;have g0:=(h.e_ _ K).t0;rw[(xB h K).1] at F;rcases nE.1 F with rfl | F
   .exact J
   .have:=ih _ K (by omega) m F
    omega
  .cases F
theorem zdx{d:Dc}(h:b_ d):∀ (k:Nat) (n:Nt),n∈d.ae->n.aZ.toNat<=k->∀ m∈qG d n,∀ c∈qG d m,c∈qG d n:=by
 intro k
 induction k with
 |zero=>
  intro n F E m K c J;rw[(xB h F).1] at K;rcases nE.1 K with rfl | K
  .exact J
  .have:=VJ h _ n F (nJ _) m K
   have G:=(VH h _ n F (nJ _)).1 m (by rw[(xB h F).1];exact nG _ K)
   have:=(h.e_ _ G).t0
   omega
 |succ k ih=>
  intro n F E m K c J;rw[(xB h F).1] at K ⊢;rcases nE.1 K with rfl | K
  .rw[(xB h F).1] at J;exact J
  .refine nG _ ?_
   unfold bH at K ⊢;split at K
   .rename_i H
    rw[gt H];obtain⟨L,M⟩:=(xB h F).2 H;have g0:=(h.e_ _ L).t0;exact ih _ L (by omega) m K c J
   .cases K
theorem zjq{d:Dc}(h:b_ d):∀ (k:Nat) (n:Nt),n∈d.ae->n.aZ.toNat<=k->∀ a∈qG d n,∀ b∈qG d n,a∈qG d b\/b∈qG d a:=by
 intro k
 induction k with
 |zero=>
  intro n K J a L b M;have H:=L;have G:=M;rw[(xB h K).1] at L M;rcases nE.1 L with e | L
  .rw[e];exact .inr G
  .rcases nE.1 M with e | M
   .rw[e];exact .inl H
   .have:=VJ h _ n K (nJ _) a L
    have E:=(VH h _ n K (nJ _)).1 a (by rw[(xB h K).1];exact nG _ L)
    have:=(h.e_ _ E).t0
    omega
 |succ k ih=>
  intro n K J a L b M;have H:=L;have G:=M;rw[(xB h K).1] at L M;rcases nE.1 L with e | L
  .rw[e];exact .inr G
  .rcases nE.1 M with e | M
   .rw[e];exact .inl H
   .unfold bH at L M
    split at L
    .rename_i F
     rw[gt F] at M;obtain⟨O,Q⟩:=(xB h K).2 F;have g0:=(h.e_ _ O).t0;exact ih _ O (by omega) a L b M
    .cases L
end Go.V.Doc
namespace Go.V.Doc
open Go Go.Proofs Tryz
def wv(l:List Nt)(id:Int):List Int:=(l.filter λn=>decide (n.aE=id)).map (·.id)
def yX(l:List Nt):Nat->Int->List Int
 |0,_=>[]
 |f+1,id=>(wv l id).flatMap λk=>k::yX l f k
section
variable {d:Dc}
theorem Q0{l:List Nt}{id x:Int}:x∈wv l id↔∃ k∈l,k.aE=id/\k.id=x:=by
 unfold wv
 simp only[nS,oA,nD]
 exact⟨λ⟨k,⟨H,G⟩,F⟩=>⟨k,H,G,F⟩,λ⟨k,H,G,F⟩=>⟨k,⟨H,G⟩,F⟩⟩
theorem Y4(h:b_ d){n k:Nt}(H:n∈d.ae)(G:k∈d.ae)(F:k.aE=n.id):n.aZ<k.aZ:=by
 have:=(xB h G).2
 rw[F,ua h H] at this
 exact(this rfl).2
theorem FU(h:b_ d){n k:Nt}(H:n∈d.ae)(G:k∈d.ae)(F:k.aE=n.id):qG d k=k::qG d n:=by
 rw[(xB h G).1,F,ua h H];rfl
theorem Ik(h:b_ d){m:Nt}(H:m∈d.ae):(∃ p∈d.ae,p.id=m.aE/\bH d (zp d.ae m.aE)=qG d p/\p.aZ<m.aZ)\/bH d (zp d.ae m.aE)=[]:=by
 cases G:(zp d.ae m.aE).2 with
 |false=>right;unfold bH;rw[G];rfl
 |true=>
  left
  obtain⟨F,E⟩:=(xB h H).2 G;exact⟨_,F,(u7 G).2,by unfold bH;rw[gt G],E⟩
theorem zdy(h:b_ d):∀ (k:Nat) (m:Nt),m∈d.ae->m.aZ.toNat<=k->∀ n∈bH d (zp d.ae m.aE),∃ c∈qG d m,c.aE=n.id:=by
 intro k
 induction k with
 |zero=>
  intro m G F n E;have:=VJ h _ m G (nJ _) n E
  have H:=(VH h _ m G (nJ _)).1 n (by rw[(xB h G).1];exact nG _ E)
  have:=(h.e_ _ H).t0
  omega
 |succ k ih=>
  intro m G F n E;rcases Ik h G with⟨p,K,e1,e2,e3⟩ | e
  .rw[e2,(xB h K).1] at E
   rw[(xB h G).1,e2];rcases nE.1 E with rfl | E
   .exact⟨m,nL,e1.symm⟩
   .have:=(h.e_ _ K).t0
    obtain⟨c,J,ec⟩:=ih p K (by omega) n E
    exact⟨c,nG _ J,ec⟩
  .rw[e] at E;cases E
theorem WO(h:b_ d){m c:Nt}(H:m∈d.ae)(G:c∈qG d m):c∈d.ae:=(VH h _ m H (nJ _)).1 c G
theorem VK(h:b_ d):∀ (f:Nat) (n:Nt),n∈d.ae->(d.al.length:Int)-n.aZ<=f->∀ x,x∈yX d.ae f n.id↔∃ m∈d.ae,m.id=x/\n∈bH d (zp d.ae m.aE):=by
 intro f
 induction f with
 |zero=>intro n J L;have:=(h.e_ n J).t1;omega
 |succ f ih=>
  intro n J L x;unfold yX;rw[po];constructor
  .rintro⟨y,M,O⟩
   obtain⟨k,Q,T,rfl⟩:=Q0.1 M;have V:=Y4 h J Q T;have F:=FU h J Q T;rcases nE.1 O with rfl | O
   .refine⟨k,Q,rfl,?_⟩
    rw[T,ua h J];exact VI h J
   .obtain⟨m,X,rfl,H⟩:=(ih k Q (by omega) x).1 O
    refine⟨m,X,rfl,?_⟩
    rcases Ik h X with⟨p,E,e1,e2,e3⟩ | e
    .rw[e2] at H ⊢
     exact zdx h _ p E (nJ _) k H n (by rw[F];exact nG _ (VI h J))
    .rw[e] at H;cases H
  .rintro⟨m,X,rfl,K⟩
   obtain⟨k,Q,ek⟩:=zdy h _ m X (nJ _) n K;have G:=WO h X Q;have V:=Y4 h J G ek;refine⟨k.id,Q0.2 ⟨k,G,ek,rfl⟩,?_⟩
   rw[(xB h X).1] at Q;rcases nE.1 Q with rfl | Q
   .exact nL
   .exact nG _ ((ih k G (by omega) m.id).2 ⟨m,X,rfl,Q⟩)
theorem zdz(h:b_ d)(id:Int):(wv d.ae id).Nodup:=by
 unfold wv
 rw[qi,rq]
 exact(h.li.sublist oX).imp λ{a b} H=>by omega
theorem zjr(h:b_ d){n:Nt}(H:n∈d.ae):n∉bH d (zp d.ae n.aE):=λG=>by
 have:=VJ h _ n H (nJ _) n G
 omega
theorem WQ(h:b_ d){n c:Nt}(H:n∈d.ae)(G:c∈qG d n):c.aZ<=n.aZ:=by
 rw[(xB h H).1] at G
 rcases nE.1 G with rfl | G
 .exact wx _
 .have:=VJ h _ n H (nJ _) c G
  omega
theorem zjs(h:b_ d){n k1 k2 m:Nt}(H:n∈d.ae)(G:k1∈d.ae)(F:k2∈d.ae)(p1:k1.aE=n.id)(p2:k2.aE=n.id)(E:m∈d.ae)(c1:k1∈qG d m)(c2:k2∈qG d m):k1=k2:=by
 have t1:=Y4 h H G p1
 have t2:=Y4 h H F p2
 rcases zjq h _ m E (nJ _) k1 c1 k2 c2 with e | e
 .rw[FU h H F p2] at e
  rcases nE.1 e with e | e
  .exact e
  .have:=WQ h H e;omega
 .rw[FU h H G p1] at e
  rcases nE.1 e with e | e
  .exact e.symm
  .have:=WQ h H e;omega
theorem Il(h:b_ d):∀ (f:Nat) (n:Nt),n∈d.ae->(d.al.length:Int)-n.aZ<=f->(yX d.ae f n.id).Nodup:=by
 intro f
 induction f with
 |zero=>intro n G F;have:=(h.e_ n G).t1;omega
 |succ f ih=>
  intro n G F;unfold yX;have key:∀ x k,k∈d.ae->k.aE=n.id->x∈k.id::yX d.ae f k.id->∃ m∈d.ae,m.id=x/\k∈qG d m:=by
   intro x k E K J;have L:=Y4 h G E K;rcases nE.1 J with rfl | J
   .exact⟨k,E,rfl,VI h E⟩
   .obtain⟨m,M,e,O⟩:=(VK h f k E (by omega) x).1 J
    exact⟨m,M,e,by rw[(xB h M).1];exact nG _ O⟩
  rw[qi,rb];refine⟨λy Q=>?_,(zdz h n.id).imp_of_mem λ{a b} T V H x J y Q e=>?_⟩
  .obtain⟨k,E,K,rfl⟩:=Q0.1 Q
   have L:=Y4 h G E K;rw[pM];refine⟨λx J e=>?_,ih k E (by omega)⟩
   subst e;obtain⟨m,M,e,O⟩:=(VK h f k E (by omega) k.id).1 J
   obtain rfl:=VA h M E e;exact zjr h E O
  .subst e
   obtain⟨k1,X,p1,rfl⟩:=Q0.1 T;obtain⟨k2,Y,p2,rfl⟩:=Q0.1 V;obtain⟨m1,q1,e1,c1⟩:=key x k1 X p1 J;obtain⟨m2,q2,e2,c2⟩:=key x k2 Y p2 Q;obtain rfl:=VA h q1 q2 (by rw[e1,e2])
   exact H (by rw[zjs h G X Y p1 p2 q1 c1 c2])
theorem Im:∀ {l m:List Int},l.Nodup->(∀ x∈l,x∈m)->l.length<=m.length
 | [],m,_,_=>nU _
 |x::l,m,H,hs=>by
  rw[oE] at H;have G:=hs x nL;have:=Im (l:=l) (m:=m.erase x) H.2 λy F=>(List.mem_erase_of_ne λ(e:y=x)=>H.1 (by rw[<-e];exact F)).2 (hs y (nG _ F))
  rw[List.length_erase_of_mem G] at this;have:0<m.length:=AD G
  simp only[nP];omega
theorem zra(h:b_ d){f:Nat}{n:Nt}(H:n∈d.ae)(G:(d.al.length:Int)-n.aZ<=f):(yX d.ae f n.id).length<=d.ae.length:=by
 have:=Im (m:=zH d.ae) (Il h f n H G) λx F=>by
  obtain⟨m,E,e,_⟩:=(VK h f n H G x).1 F;unfold zH;rw[nS];exact⟨m,E,e⟩
 unfold zH at this
 rwa [om] at this
end
end Go.V.Doc
namespace Go.V.Doc
open Go Go.Proofs Tryz
abbrev yi:=Int×Nat×List Int
def vX:List yi->Int->List Int
 | [],_=>[]
 |g::L,p=>if g.1=p then g.2.2 else vX L p
def Zk(L:List yi):List (List D):=L.map λg=>[int g.1,aa g.2.2]
theorem Io(p:Int):∀ L:List yi,kN (int p) (Zk L)=some (if p∈L.map (·.1) then some (aa (vX L p)) else none)
 | []=>rfl
 |g::L=>by
  have ih:=Io p L;simp only[Zk,nK,kN,Z1,int,vX] at ih ⊢;by_cases h:p=g.1
  .simp[h]
  .have H:¬g.1=p:=λe=>h e.symm
   simp only[tS,h,H,nE,false_or,oU];simpa using ih
theorem zgm{L:List yi}{p:Int}(h:p∉L.map (·.1)):vX L p=[]:=by
 induction L with
 |nil=>rfl
 |cons g L ih=>
  simp only[nK,nE,Ck] at h;unfold vX;rw[ge (λe=>h.1 e.symm),ih h.2]
abbrev zuq:ah:=.fn 115 [.bp 0 0,.bp 1 0,.bp 2 0]
def ji(L:List yi)(acc:List Int):List (Nat×am):=
 [(0,.box 182 [.d (.mp (Zk L))]),(1,.box 31 [.ar 3]),(2,.box 183 [zuq]),(3,.aQ 3 1 (acc.map λn=>[int n]))]
def WR(L:List yi)(l:List Nt)(f:Nat)(id:Int):Prop:=∀ acc:List Int,(acc++yX l f id).length<=2^40 ->
 aU prog 115 [.d (int id),.bp 0 0,.bp 1 0,.bp 2 0] (ji L acc) 4 (.d (.bE [])) 4 (ji L (acc++yX l f id)) [3]
theorem zn4(L:List yi)(l:List Nt)(f:Nat)(id:Int)(O:vX L id=wv l id)(ih:∀ k∈wv l id,WR L l f k):WR L l (f+1) id:=by
 intro acc H
 refine aU.JW (dd func115 (by simp[ah.a_,ah.lo]) ?_)
 have Q:=Io id L
 simp only[int] at Q
 unfold yX at H ⊢
 by_cases T:id∈L.map (·.1)
 case neg=>
  rw[ge T] at Q;rw[<-O,zgm T];simp+decide[f115,ji,int,Q];refine qg (λ_:Unit=>{n:=23,next:=4,ai:=4,af:=[(10,.d (int 0)),(11,.d (int 0))],own:=ji L acc,aA:=[3]}) (λ_=>True) (λ_=>0) () trivial ?_ ?_
  .simp+decide[int,ji]
  intro _ _;refine cy ?_
  simp+decide[int,ji]
 rw[gt T,O] at Q
 generalize wv l id=ks at *
 have J:ks.length<=2^40:=by
  have V:ks.length<=(ks.flatMap λk=>k::yX l f k).length:=by
   clear Q H ih O;induction ks with
   |nil=>simp
   |cons k r ih=>simp only[pz,nO,nP];omega
  rw[nO] at H;omega
 simp+decide[f115,ji,int,Q,aa]
 refine xP (λk:Nat=>{n:=23,next:=4,ai:=4,af:=[(1,.bp 0 0),(2,.bp 1 0),(3,.bp 2 0),(9,.d (aa ks)),(10,.d (int ks.length)),(11,.d (int k))],own:=ji L (acc++(ks.take k).flatMap λk=>k::yX l f k),aA:=[3]}) ks.length ?_ ?_
 .simp+decide[int,aa,ji]
 intro k X
 refine cy ?_
 by_cases F:k<ks.length
 case neg=>
  obtain rfl:k=ks.length:=by omega
  rw[nH];simp+decide[int,aa,ji]
 have E:=bG F
 obtain⟨q,eq,e1⟩:=bN F
 have aI:(ks.take (k+1)).flatMap (λk=>k::yX l f k)=(ks.take k).flatMap (λk=>k::yX l f k)++(q::yX l f q):=by
  rw[nX F,oW,eq];simp
 have G:(acc++(ks.take (k+1)).flatMap λk=>k::yX l f k).length<=2^40:=by
  have:ks.flatMap (λk=>k::yX l f k)=(ks.take (k+1)).flatMap (λk=>k::yX l f k)++(ks.drop (k+1)).flatMap (λk=>k::yX l f k):=by
   rw[<-oW,oT]
  rw[this,<-pA,nO] at H;omega
 rw[aI] at G
 have Y:=ih q (by rw[<-eq];exact nF F) ((acc++(ks.take k).flatMap λk=>k::yX l f k)++[q]) (by simpa using G)
 have M:(acc++(ks.take k).flatMap λk=>k::yX l f k).length<2^40:=by
  rw[<-pA,nO,nP] at G;omega
 have K:acc++((ks.take k).flatMap (λk=>k::yX l f k)++q::yX l f q)=(acc++(ks.take k).flatMap λk=>k::yX l f k)++[q]++yX l f q:=by simp
 generalize acc++(ks.take k).flatMap (λk=>k::yX l f k)=A at *
 simp+decide[int,aa,ji,F,E,eq,maxLen]
 refine⟨by omega,by omega,?_⟩
 refine zE.mut [0,1,2,3] [.d (int q),.bp 0 0,.bp 1 0,.bp 2 0] (ji L (A++[q])) (by rfl) (by simp[int]) (by simp[ah.a_,ah.lo]) (by simp[ji,int];rfl) Y ?_
 simp+decide[int,ji,aB]
 exact⟨by omega,k+1,F,by omega,by omega,by rw[aI,<-oF (l₁:=acc),K];simp⟩
theorem ztg{d:Dc}(h:b_ d){L:List yi}(H:∀ p,vX L p=wv d.ae p):∀ (f:Nat) (n:Nt),n∈d.ae->(d.al.length:Int)-n.aZ<=f->WR L d.ae f n.id:=by
 intro f
 induction f with
 |zero=>intro n G F;have:=(h.e_ n G).t1;omega
 |succ f ih=>
  intro n G F;refine zn4 L _ f n.id (H _) λk E=>?_
  obtain⟨m,K,J,rfl⟩:=Q0.1 E;have:=Y4 h G K J
  exact ih m K (by omega)
def vn:List yi->Int->Int->Nat->List yi
 | [],p,x,nx=>[(p,nx,[x])]
 |g::L,p,x,nx=>if g.1=p then (g.1,g.2.1,g.2.2++[x])::L else g::vn L p x nx
def xT(L:List yi):List Int:=L.map (·.1)
def yD(L:List yi):List ah:=L.map λg=>.ar g.2.1
def xj(L:List yi):List (Nat×am):=L.map λg=>(g.2.1,.aQ 3 1 (g.2.2.map λn=>[int n]))
def zN(L:List yi):List Nat:=L.map (·.2.1)
def v8:List yi->Int->Option (Nat×List Int)
 | [],_=>none
 |g::L,p=>if g.1=p then some g.2 else v8 L p
theorem Ip(L:List yi)(p x:Int)(nx:Nat)(q:Int):vX (vn L p x nx) q=if p=q then vX L q++[x] else vX L q:=by
 induction L with
 |nil=>simp[vn,vX]
 |cons g L ih=>
  unfold vn;by_cases h:g.1=p
  .rw[gt h]
   simp only[vX];by_cases H:g.1=q
   .rw[gt H,gt H,gt (h.symm.trans H)]
   .rw[ge H,ge H,ge (λe=>H (h.trans e))]
  .rw[ge h]
   simp only[vX];by_cases H:g.1=q
   .rw[gt H,gt H,ge (λe=>h (H.trans e.symm))]
   .rw[ge H,ge H,ih]
theorem FV:∀ (L:List yi) (p:Int),kV (xT L) (yD L) p=(v8 L p).map λg=>ah.ar g.1
 | [],p=>rfl
 |g::L,p=>by
  have ih:=FV L p;simp only[xT,yD,nK,kV,v8] at ih ⊢;split
  .rfl
  .exact ih
theorem VL:∀ {L:List yi} {p:Int} {g:Nat×List Int},v8 L p=some g->(p,g)∈L
 | [],p,g,h=>by cases h
 |a::L,p,g,h=>by
  unfold v8 at h;split at h
  .rename_i e;cases h;rw[<-e];exact nL
  .exact nG _ (VL h)
theorem Iq:∀ {L:List yi} {p x:Int} {nx:Nat} {g:Nat×List Int},v8 L p=some g->xT (vn L p x nx)=xT L/\zN (vn L p x nx)=zN L
 | [],p,x,nx,g,h=>by cases h
 |a::L,p,x,nx,g,h=>by
  unfold v8 at h;unfold vn;split at h
  .rename_i e;rw[gt e];exact⟨rfl,rfl⟩
  .rename_i e
   rw[ge e];have:=Iq (x:=x) (nx:=nx) h
   simp only[xT,zN,nK] at this ⊢;exact⟨by rw[this.1],by rw[this.2]⟩
theorem Ir:∀ {L:List yi} {p x:Int} {nx:Nat} {g:Nat×List Int},v8 L p=some g->(zN L).Nodup->∀ i,zc (xj (vn L p x nx)) i=if i=g.1 then some (.aQ 3 1 ((g.2++[x]).map λn=>[int n])) else zc (xj L) i
 | [],p,x,nx,g,h,_,i=>by cases h
 |a::L,p,x,nx,g,h,H,i=>by
  unfold v8 at h;unfold vn;simp only[zN,nK,oE] at H;split at h
  .rename_i e
   cases h;rw[gt e];simp only[xj,nK,zc];by_cases G:a.2.1=i
   .rw[gt G,gt G.symm]
   .rw[ge G,ge (λe2=>G e2.symm),ge G]
  .rename_i e
   rw[ge e];have ih:=Ir (x:=x) (nx:=nx) h H.2 i;have F:g.1∈L.map (·.2.1):=nS.2 ⟨_,VL h,rfl⟩
   simp only[xj,nK,zc] at ih ⊢;by_cases G:a.2.1=i
   .have:¬i=g.1:=λe2=>H.1 (by rw[G,e2];exact F)
    rw[gt G,ge this,gt G]
   .rw[ge G,ge G,ih]
theorem Q5:∀ {L:List yi} {i:Nat} {o:am},zc (xj L) i=some o->i∈zN L/\∃ ks:List Int,o = .aQ 3 1 (ks.map λn=>[int n])
 | [],i,o,h=>by cases h
 |g::L,i,o,h=>by
  simp only[xj,nK,zc] at h;simp only[zN,nK,nE];split at h
  .rename_i e;cases h;exact⟨.inl e.symm,_,rfl⟩
  .have:=Q5 (L:=L) h;exact⟨.inr this.1,this.2⟩
theorem zjt{L:List yi}{p:Int}{g:Nat×List Int}(h:v8 L p=some g)(H:(zN L).Nodup):zc (xj L) g.1=some (.aQ 3 1 (g.2.map λn=>[int n])):=by
 induction L with
 |nil=>cases h
 |cons a L ih=>
  simp only[zN,nK,oE] at H;unfold v8 at h;simp only[xj,nK,zc];split at h
  .cases h;rw[gt rfl]
  .have G:g.1∈L.map (·.2.1):=nS.2 ⟨_,VL h,rfl⟩
   rw[ge (λe=>H.1 (by rw[e];exact G))]
   exact ih h H.2
theorem Is:∀ {L:List yi} {p x:Int} {nx:Nat} {g:Nat×List Int},v8 L p=some g->(zN L).Nodup->vw (xT L) (yI g.1 (yD L)) p (.ar g.1)=(xT L,yD L)
 | [],p,x,nx,g,h,_=>by cases h
 |a::L,p,x,nx,g,h,G=>by
  simp only[zN,nK,oE] at G;unfold v8 at h;have aC:∀ (M:List yi),g.1∉M.map (·.2.1)->yI g.1 (yD M)=yD M:=by
   intro M;induction M with
   |nil=>intro _;rfl
   |cons b M ih=>
    intro F;simp only[nK,nE,Ck] at F;simp only[yD,nK,yI,zA] at ih ⊢;rw[ge (λe=>F.1 e.symm),ih F.2]
  split at h
  .rename_i e
   cases h;simp only[xT,yD,nK,yI,vw,gt e];have:=aC L G.1
   simp only[yD] at this;rw[this]
  .rename_i e
   have ih:=Is (x:=x) (nx:=nx) h G.2;have E:g.1∈L.map (·.2.1):=nS.2 ⟨_,VL h,rfl⟩
   have H:¬a.2.1=g.1:=λe=>G.1 (by rw[e];exact E)
   simp only[xT,yD,nK,yI,zA,ge H,vw,ge e] at ih ⊢;rw[ih]
theorem WS:∀ {L:List yi} {p x:Int} {nx:Nat},v8 L p=none->vn L p x nx=L++[(p,nx,[x])]
 | [],p,x,nx,_=>rfl
 |a::L,p,x,nx,h=>by
  unfold v8 at h;unfold vn;split at h
  .cases h
  .rename_i e;rw[ge e,WS h];rfl
theorem Iu:∀ {L:List yi} {p:Int} {s:ah},v8 L p=none->vw (xT L) (yD L) p s=(xT L++[p],yD L++[s])
 | [],p,s,_=>rfl
 |a::L,p,s,h=>by
  unfold v8 at h;split at h
  .cases h
  .rename_i e
   have ih:=Iu (s:=s) h;simp only[xT,yD,nK,vw,ge e] at ih ⊢;rw[ih];rfl
theorem Iw{j:Nat}:∀ {L:List yi},j∉zN L->yI j (yD L)=yD L
 | [],_=>rfl
 |b::M,H=>by
  simp only[zN,nK,nE,Ck] at H;have ih:=Iw (L:=M) H.2;simp only[yD,nK,yI,zA] at ih ⊢;rw[ge (λe=>H.1 e.symm),ih]
theorem YX{α:Type}:∀ (l m:List (Nat×α)) (i:Nat),zc (l++m) i=(zc l i).or (zc m i)
 | [],m,i=>by simp[zc]
 |(t,x)::l,m,i=>by
  simp only[nV,zc];split
  .rfl
  .exact YX l m i
theorem zju{L:List yi}{p x:Int}{nx:Nat}(h:v8 L p=none)(H:nx∉zN L)(i:Nat):zc (xj (vn L p x nx)) i=if i=nx then some (.aQ 3 1 [[int x]]) else zc (xj L) i:=by
 rw[WS h]
 unfold xj
 rw[oF,YX]
 by_cases e:i=nx
 .subst e
  rw[gt rfl];cases G:zc (List.map (λg:yi=>(g.2.1,am.aQ 3 1 (g.2.2.map λn=>[int n]))) L) i with
  |none=>simp[zc]
  |some o=>exact absurd (Q5 (L:=L) G).1 H
 .rw[ge e]
  have e':¬nx=i:=λe2=>e e2.symm
  simp[zc,e']
end Go.V.Doc
namespace Go.V.Doc
open Go Go.Proofs Go.Sort Go.RowKit Tryz
abbrev WT(l:List Int):List (List D):=l.map λn=>[int n]
abbrev gP(l:List Int):D:=.fn 188 [.ptr [aa l]]
def vo(l:List Int):List ah:=[.junk,.junk,.bp 1 0,.junk,.junk,.junk,.d (gP l),.junk,.junk,.junk,.junk,.junk,.junk]
@[simp] theorem zs5(l:List Int):ah.a_ 2 (vo l):=by simp[vo,ah.a_,ah.lo]
@[simp] theorem zs6(l:List Int):ah.a_ 3 (vo l):=by simp[vo,ah.a_,ah.lo]
@[simp] theorem zs7(l:List Int):ah.a_ 4 (vo l):=by simp[vo,ah.a_,ah.lo]
noncomputable def jj(q:List Int):am:=.cN (.lp #[7] (jd f224) (je f224) .ready none) (vo q)
noncomputable def vY(q:List Int):List (Nat×am):=[(0,jj q),(1,.box 31 [.aW])]
@[simp] theorem zu6(l:List Int):yf (yE [0,1] 2) (vo l)=vo l:=rfl
@[simp] theorem zu7(l:List Int):yf (yE [0,1,3] 4) (vo l)=vo l:=rfl
@[simp] theorem zu8(l:List Int):yf (yE [0,1,2] 3) (vo l)=vo l:=rfl
noncomputable def Q6(q l:List Int):List (Nat×am):=[(0,jj q),(1,.box 31 [.ar 2]),(2,.aQ 3 1 (WT l))]
noncomputable def Y5(q l:List Int):List (Nat×am):=[(0,jj q),(1,.box 31 [.ar 3]),(3,.aQ 3 1 (WT l))]
theorem zjv(q:List Int)(n:Int):Yy prog 0 [.d (int n)] (vY q) 2 (.d (.bool true)) 4 (Y5 q [n]) [3]:=by
 refine JR (cells:=vo q) (ps:=#[7]) (a_s := jd f224) (bd:=je f224) rfl (by simp) (by simp[vo]) (by omega) (by simp[ah.a_,ah.lo]) ?_
 simp+decide[vY,Y5,jj,vo,jd,je,wI,f224,int]
theorem zn5(q l:List Int)(n:Int)(H:l.length<2^40):Yy prog 0 [.d (int n)] (Q6 q l) 3 (.d (.bool true)) 3 (Q6 q (l++[n])) [2]:=by
 refine JR (cells:=vo q) (ps:=#[7]) (a_s := jd f224) (bd:=je f224) rfl (by simp) (by simp[vo]) (by omega) (by simp[ah.a_,ah.lo]) ?_
 simp+decide[Q6,jj,vo,jd,je,wI,f224,int,maxLen]
 exact⟨by omega,by omega⟩
theorem zrb(l:List Int)(F:l≠[])(E:l.length<2^40):aU prog 188 [.yd 0,.d (.ptr [aa l])] (vY l) 2 (.d (.bE [])) 4 (Y5 l l) [3]:=by
 refine aU.JW (dd func188 (by simp[ah.a_,ah.lo]) ?_)
 simp+decide[f188,aa]
 refine xP (λk:Nat=>{n:=16,next:=if k=0 then 2 else 4,ai:=2,af:=[(0,.yd 0),(5,.d (aa l)),(6,.d (int l.length)),(7,.d (int k))],own:=if k=0 then vY l else Y5 l (l.take k),aA:=if k=0 then [] else [3]}) l.length (by simp+decide[int,aa,vY,jj]) ?_
 intro k K
 refine UJ ?_
 by_cases H:k<l.length
 case neg=>
  obtain rfl:k=l.length:=by omega
  have J:¬l.length=0:=λe=>F (nZ e)
  rw[nH];simp+decide[int,aa,J,Y5,jj]
 have G:=bG H
 obtain⟨m,em,e1⟩:=bN H
 have aI:l.take (k+1)=l.take k++[m]:=by rw[nX H,em]
 by_cases J:k=0
 .subst J
  have L:=zjv l m;simp+decide[int,aa,H,em,vY];refine ZJ.t_o 0 [0,1] [.d (int m)] (vY l) (by simp[ce]) (by simp[int]) (by simp[ah.a_,ah.lo]) (by simp[vY,jj];exact⟨rfl,rfl⟩) L ?_
  simp+decide[int,aB,Y5,jj];refine⟨1,H,by omega,?_⟩
  simp+decide
  rw[<-rG,aI];simp
 .have L:=zn5 l (l.take k) m (by rw[nR];omega)
  rw[<-aI] at L;simp+decide[int,aa,H,G,em,J,Y5];refine ZJ.t_o 0 [0,1,3] [.d (int m)] (Q6 l (l.take k)) (by simp[ce]) (by simp[int]) (by simp[ah.a_,ah.lo]) (by simp[Q6,jj,int];exact⟨rfl,rfl⟩) L ?_
  simp+decide[int,aB,Q6,jj];refine⟨by omega,k+1,H,by omega,?_⟩
  simp+decide
theorem zjw(l:List Int)(H:l≠[])(G:l.length<2^40):aU prog 224 [.aW,.d (.fn 188 [.ptr [aa l]])] [] 0 (.ar 4) 5 [(4,.aQ 3 1 (WT l))] [4]:=by
 refine Aq func224 rfl mu (by simp[ah.a_,ah.lo]) ?_
 refine Yx mixed 1 {n:=13,next:=2,af:=[(1,.d (.fn 188 [.ptr [aa l]])),(2,.bp 0 0)],own:=[(0,.box 31 [.aW])]} rfl ?_ ?_
 .simp+decide[f224,yo,aa]
 simp only[yK]
 refine UL (Yx mixed 1 {n:=13,next:=2,af:=[(2,.bp 0 0),(6,.d (.fn 188 [.ptr [aa l]]))],own:=[(0,.box 31 [.aW])]} rfl ?_ ?_)
 .simp+decide[yo,aa]
 simp only[yK]
 refine UM (UK (k:=0) (aD:=[2,0]) (args0:=[.yd 0,.d (.ptr [aa l])]) (aR:=vY l) (by rfl) (by simp[ce]) (by simp[ce]) (by simp[ah.a_,ah.lo]) ?_ (zrb l H G) ?_)
 .simp+decide[vY,jj,vo,jd,je,wI,f224]
 .simp+decide[Y5,jj]
theorem zgn(l:List Int)(H:l≠[])(G:l.length<2^40):eG prog 186 [.fn 188 [.ptr [aa l]]] 3 1 (WT l):=by
 refine lh func186 (by simp) ?_
 simp+decide[f186]
 refine zE.mut [] [.aW,.d (.fn 188 [.ptr [aa l]])] [] (by rfl) (by simp) (by simp[ah.a_,ah.lo]) (by simp) (zjw l H G) ?_
 simp+decide
abbrev lM(n:Int):List Value:=[.int .i64 n]
abbrev gQ(n:Int):List D:=[int n]
theorem Ix:cK lM gQ 1 where
 pos:=by decide
 len:=λ_=>rfl
 cB:=λx v hv=>by simp[lM] at hv;subst hv;rfl
 mH:=λ_=>rfl
 read:=λw E x=>by simp only[lM,int,zl,R];exact⟨_,_,rfl,rfl,rfl,rfl⟩
 fx:=λw E x vs h=>by
  simp only[int,zl,R] at h;obtain⟨_,_,rfl,_,rfl,rfl⟩:=h;rfl
def qQ(l:List Int):List Int:=l.mergeSort λx y=>decide (x<=y)
theorem Iy(l:List Int):flatK lM 1 l.toArray=(l.map (Value.int .i64)).toArray:=by
 have:=Ix.flatK l
 rw[<-Array.toList_inj,this]
 clear this
 induction l with
 |nil=>rfl
 |cons n r ih=>simpa[lM] using ih
theorem zb8(l:List Int):putCells id 0 (l.map (Value.int .i64)).toArray=putCells (Value.int .i64) 0 l.toArray:=by
 funext c
 unfold putCells
 congr 1
 funext k x
 by_cases h:k<l.length
 .simp[h]
 .simp[h]
theorem FX(l:List Int):(qQ l).length=l.length:=List.length_mergeSort l
theorem VM(l:List Int):(qQ l).Perm l:=List.mergeSort_perm l _
theorem zn6(l:List Int)(F:l≠[])(J:l.length<4611686018427387904):
  aU prog 187 [.ar 0] [(0,.aQ 3 1 (l.map gQ))] 1 (.d (.bE [])) 1 [(0,.aQ 3 1 ((qQ l).map gQ))] []:=by
 refine CO Ix nu F (FX l) ?_
 intro w E β vs H G g cap L M O
 simp only[zi] at H
 subst H
 have Q:Holds (Value.int .i64) w g 0 l.toArray:=by
  unfold HoldsK at O;rw[Iy] at O;intro j hj;have:=O j (by simpa using hj)
  have K:j<l.length:=by simpa using hj
  simpa[K] using this
 have:=Any.slices_Sort_int lR g 0 cap l w Q L J
 change Calls prog 187 _ _ _ at this
 refine this.mono λe w' T=>?_
 obtain⟨V,n,os,X⟩:=T
 refine⟨V,n,os,?_⟩
 rw[X]
 unfold sortWorldK putRowK putRow
 rw[Iy,zb8]
 rfl
theorem zgo(l:List Int)(hs:l.Pairwise λa b=>a<b)(L:l.length<2^40):
  aU prog 128 [.ar 0] [(0,.aQ 3 1 (l.map gQ))] 1 (.ar 0) 1 [(0,.aQ 3 1 (l.map gQ))] []:=by
 refine dd func128 (by simp[ah.a_,ah.lo]) ?_
 by_cases M:l.length<2
 .have G:(l.length:Int)<2:=by omega
  simp+decide[Tryz.f128,G]
 have G:¬(l.length:Int)<2:=by omega
 simp+decide[Tryz.f128,G]
 refine cl (λk:Nat=>{n:=61,next:=1,af:=[(0,.ar 0),(3,.d (int k))],own:=[(0,.aQ 3 1 (l.map gQ))],ai:=1})
  (λk=>1<=k/\k<=l.length) (λk=>l.length-k) 1 (by omega) (by simp+decide[int]) ?_
 rintro k ⟨J,O⟩
 by_cases H:k<l.length
 .have F:=bG H
  obtain⟨j,rfl⟩:∃ j,k=j+1:=⟨k-1,by omega⟩
  have hj:j<l.length:=by omega
  have E:(j:Int)<l.length:=by omega
  have e1:l[j+1]?=some l[j+1]:=ac H
  have e0:l[j]?=some l[j]:=ac hj
  have K:¬l[j+1]=l[j]:=by
   have:=od.1 hs j (j+1) hj H (by omega)
   omega
  have j1:((j:Int)+1-1)=j:=by omega
  have jn:((j:Int)+1).toNat=j+1:=by omega
  have j0:(0:Int)<=(j:Int)+1:=by omega
  simp+decide[int,H,hj,E,K,j1,jn,j0,aB];exact λ_=>⟨by omega,by omega,by omega,j+2,by omega,by omega,by omega⟩
 .obtain rfl:k=l.length:=by omega
  simp+decide[int]
theorem Iz(l:List Int):aq prog 130 [aa l] (gP l):=by
 refine aF func130 ?_
 simp+decide[f130,aa]
theorem GU(l:List Int)(H:l≠[])(G:l.length<2^40):eG prog 129 [.fn 188 [.ptr [aa l]]] 3 1 ((qQ l).map gQ):=by
 refine lh func129 (by simp) ?_
 simp+decide[Tryz.f129]
 refine zE.im (by rfl) (zgn l H G) (by simp) ?_
 simp+decide
 refine zE.mut [1] [.ar 0] [(0,.aQ 3 1 (l.map gQ))] (by rfl) (by simp) (by simp[ah.a_,ah.lo]) (by simp) (zn6 l H (by omega)) ?_
 simp+decide
theorem zb9(l:List Int)(H:l≠[])(G:l.length<2^40)(F:l.Nodup):uY prog 78 [aa l] (aa (qQ l)):=by
 have hs:(qQ l).Pairwise λa b=>a<b:=by
  have E:(qQ l).Pairwise λa b=>decide (a<=b)=true:=xz (λa b c E K=>by simp at *;omega) (λa b=>by simp;omega) l
  have K:(qQ l).Nodup:=(VM l).nodup_iff.2 F
  exact(tu.2 ⟨E,K⟩).imp λ{a b} h=>by have:=h.1;have:=h.2;simp at *;omega
 have J:eG prog 78 [aa l] 3 1 ((qQ l).map gQ):=by
  refine lh func78 (by simp) ?_
  simp+decide[f78];refine zg (Iz l) ?_
  simp+decide
  refine zE.im (by rfl) (GU l H G) (by simp[WG]) ?_
  simp+decide
  refine zE.mut [1] [.ar 0] [(0,.aQ 3 1 ((qQ l).map gQ))] (by rfl) (by simp) (by simp[ah.a_,ah.lo]) (by simp) (zgo (qQ l) hs (by rw[FX];omega)) ?_
  simp+decide
 exact BW J (WG _)
theorem zca{P:Program}{f:Nat}{ds:List D}(T sz:Nat){nx:Nat}{own':List (Nat×am)}{mv:List Nat}(h:aU P f (ds.map .d) [] 0 .aW nx own' mv):eG P f ds T sz []:=by
 refine⟨h.1,by simp,λw E vs F K=>?_⟩
 have J:ax E (.of w) (yW [] 0 0 []) (λ_=>.pointer none) vv w:=
  ⟨⟨λb L hmay=>hmay.elim (λh=>by have:w.heap.size<=b:=h;have:=F.1 b L;omega) (λh=>h),F.2.over (bh.dy λb h=>h.elim id False.elim)⟩,⟨nJ _,λ_ _ _=>rfl⟩,λ_=>rfl,rfl,rfl,cR.refl _,by simp[yW],by simp[yW],by simp[yW],by intro t s M;simp[yW,zc] at M⟩
 have H:bh w E w (Ex E (λ_=>Value.pointer none) []):=bh.dy λb L=>L.elim id λ⟨_,_,O,_⟩=>by cases O
 refine(h.2 E (.of w) _ w vs rfl J (zi.Z3 (zI.over H _ _ K))).mono λe w' Q=>?_
 obtain⟨β',v,rfl,G,_,hs⟩:=Q
 simp only[Sm] at hs
 exact⟨v,[],rfl,G.below.below,⟨by simp,.inl ⟨hs,rfl⟩⟩,λb L=>by rw[hs] at L;simp[bP] at L,by simp[zl]⟩
theorem zn7:aU prog 188 [.yd 0,.d (.ptr [aa []])] (vY []) 2 (.d (.bE [])) 2 (vY []) []:=by
 refine aU.JW (dd func188 (by simp[ah.a_,ah.lo]) ?_)
 simp+decide[f188,aa]
 refine qg (λ_:Unit=>{n:=16,next:=2,ai:=2,af:=[(6,.d (int 0)),(7,.d (int 0))],own:=vY []}) (λ_=>True) (λ_=>0) () trivial (by simp+decide[int,vY,jj]) ?_
 intro _ _
 refine UJ ?_
 simp+decide[int,vY,jj]
theorem zgp:aU prog 224 [.aW,.d (gP [])] [] 0 .aW 3 [] []:=by
 refine Aq func224 rfl mu (by simp[ah.a_,ah.lo]) ?_
 refine Yx mixed 1 {n:=13,next:=2,af:=[(1,.d (gP [])),(2,.bp 0 0)],own:=[(0,.box 31 [.aW])]} rfl ?_ ?_
 .simp+decide[f224,yo]
 simp only[yK]
 refine UL (Yx mixed 1 {n:=13,next:=2,af:=[(2,.bp 0 0),(6,.d (gP []))],own:=[(0,.box 31 [.aW])]} rfl ?_ ?_)
 .simp+decide[yo]
 simp only[yK]
 refine UM (UK (k:=0) (aD:=[2,0]) (args0:=[.yd 0,.d (.ptr [aa []])]) (aR:=vY []) (by rfl) (by simp[ce]) (by simp[ce]) (by simp[ah.a_,ah.lo]) ?_ zn7 ?_)
 .simp+decide[vY,jj,vo,jd,je,wI,f224]
 .simp+decide[vY,jj]
theorem zrd:aU prog 248 [.aW,.d (int 0),.d (int 0)] [] 0 (.bE []) 0 [] []:=by
 refine dd func248 (by simp[ah.a_,ah.lo]) ?_
 simp+decide[f248,int]
 refine⟨by unfold aB;omega,cl (λ_:Unit=>{n:=49,next:=0,af:=[(2,.d (int 0)),(6,.d (int 1))],own:=[]})
  (λ_=>True) (λ_=>0) () trivial (by simp+decide[int]) ?_⟩
 intro _ _
 simp+decide[int]
theorem zre:aU prog 225 [.aW,.d (int 0),.d (int 0),.d (int 0)] [] 0 (.bE []) 0 [] []:=by
 refine dd func225 (by simp[ah.a_,ah.lo]) ?_
 simp+decide[f225,int]
 refine cl (λ_:Unit=>{n:=134,next:=0,af:=[(0,.aW),(1,.d (int 0)),(2,.d (int 0))],own:=[]})
  (λ_=>True) (λ_=>0) () trivial (by simp+decide[int]) ?_
 intro _ _
 simp+decide[int]
 refine⟨by unfold aB;omega,?_⟩
 refine zE.mut [] [.aW,.d (int 0),.d (int 0)] [] (by rfl) (by simp[int]) (by simp) (by simp) zrd ?_
 simp+decide
theorem zn8:aU prog 187 [.aW] [] 0 (.bE []) 0 [] []:=by
 refine dd func187 (by simp[ah.a_,ah.lo]) ?_
 simp+decide[f187,wC,show IntKind.wrap .u64 0=0 from rfl]
 refine zg zq2 ?_
 simp+decide[int]
 refine zE.mut [] [.aW,.d (int 0),.d (int 0),.d (int 0)] [] (by rfl) (by simp[int]) (by simp) (by simp) zre ?_
 simp+decide
theorem zd0:aU prog 128 [.aW] [] 0 .aW 0 [] []:=by
 refine dd func128 (by simp[ah.a_,ah.lo]) ?_
 simp+decide[Tryz.f128]
theorem zd1:aU prog 186 [.d (gP [])] [] 0 .aW 3 [] []:=by
 refine dd func186 (by simp[ah.a_,ah.lo]) ?_
 simp+decide[f186]
 refine zE.mut [] [.aW,.d (gP [])] [] (by rfl) (by simp) (by simp[ah.a_,ah.lo]) (by simp) zgp ?_
 simp+decide
theorem zgq:aU prog 129 [.d (gP [])] [] 0 .aW 3 [] []:=by
 refine dd func129 (by simp[ah.a_,ah.lo]) ?_
 simp+decide[Tryz.f129]
 refine zE.mut [] [.d (gP [])] [] (by rfl) (by simp) (by simp[ah.a_,ah.lo]) (by simp) zd1 ?_
 simp+decide
 refine zE.mut [] [.aW] [] (by rfl) (by simp) (by simp[ah.a_,ah.lo]) (by simp) zn8 ?_
 simp+decide
theorem za6:uY prog 78 [aa []] (aa []):=by
 have h:aU prog 78 [.d (aa [])] [] 0 .aW 3 [] []:=by
  refine dd func78 (by simp[ah.a_,ah.lo]) ?_
  simp+decide[f78];refine zg (Iz []) ?_
  simp+decide
  refine zE.mut [] [.d (gP [])] [] (by rfl) (by simp) (by simp) (by simp) zgq ?_
  simp+decide
  refine zE.mut [] [.aW] [] (by rfl) (by simp) (by simp[ah.a_,ah.lo]) (by simp) zd0 ?_
  simp+decide
 exact BW (zca (ds:=[.sl []]) 3 1 h) rfl
theorem zjx:qQ []=[]:=by simp[qQ]
theorem IA(l:List Int)(H:l.length<2^40)(G:l.Nodup):uY prog 78 [aa l] (aa (qQ l)):=by
 by_cases h:l=[]
 .subst h;rw[zjx];exact za6
 .exact zb9 l h H G
end Go.V.Doc
namespace Go.V.Doc
open Go Go.Proofs Tryz
section
variable {P:Program} {st:St} {Q:DE->St->Prop}
theorem za7{f:Nat}{fn:Func}{c:Code}(F:P.funcs[f]?=some fn)(K:fn.body=some c)(G:aN P f=true){args:List D}{r:D}
  (h:aT P c (cJ (eF P fn.results.toList r)) (ct fn.ntmps args)):aq P f args r:=by
 refine⟨G,λw E vs J L=>?_⟩
 refine calls_of_wp F K ?_
 refine wp_mono (h E (.of w) _ _ w (ax.iM J L)) ?_
 rintro e a' w' ⟨de,st',β',M,O,H⟩
 cases e <;> cases de <;> simp only[yq] at M
 .obtain⟨v,Q,T⟩:=kT H O
  exact⟨H.defers,v,Q,v,rfl,H.below.below,T⟩
 .exact O.elim
 .obtain⟨v,Q,T⟩:=kT H O
  exact⟨H.defers,v,Q,v,rfl,H.below.below,T⟩
def WU{α:Type}(S:α->St)(inv:α->Prop)(Q:DE->St->Prop):DE->St->Prop
 |.normal,st=>∃ x,inv x/\dx st (S x)
 |e,st=>Q e st
theorem IB{α:Type}{x y:Code}(S:α->St)(inv:α->Prop)(h:aT P x (WU S inv Q) st)(G:∀ z,inv z->aT P y Q (S z)):aT P (.seq x y) Q st:=by
 intro X w0 β a w F
 refine wp_seq (wp_mono (h X w0 β a w F) ?_)
 rintro e a' w' ⟨de,st',β',E,K,H⟩
 cases e <;> cases de <;> simp only[yq] at E
 .obtain⟨z,J,L⟩:=K
  exact G z J X w0 β' a' w' (H.dY L)
 .subst E;exact⟨.exit _,st',β',rfl,K,H⟩
 .exact⟨.ret,st',β',trivial,K,H⟩
theorem FY{c:Code}{id T e sz:Nat}(h:st.ay id=some (.box T [.aW]))(E:aT P c Q {st.new (.aQ e sz []) with own:=zT id (.box T [.ar st.next]) (st.new (.aQ e sz [])).own}):aT P c Q st:=by
 intro X w0 β a w K
 refine E X w0 (λi=>if i=st.next then .slice none 0 0 else β i) a w ?_
 have G:=K.Xn e sz
 obtain⟨cq,_,b,vs,J,L,M,hs,O⟩:=K.dm h
 have F:¬st.next=id:=by omega
 have H:¬id=st.next:=by omega
 have V:(st.new (.aQ e sz [])).ay id=some (.box T [.aW]):=by simp only[St.ay,St.new,zc,ge F];exact h
 refine G.db V (b:=b) (by simp only[ge H];rw[J];rfl) L (λ_ _=>rfl) rfl rfl rfl rfl (jv.refl _) (by simp[am.lo,ah.a_,ah.lo,St.new]) ?_
 refine⟨b,vs,by simp only[ge H];exact J,L,M,?_,O⟩
 simp only[zi,Sm] at hs ⊢
 simpa using hs
theorem IC{α:Type}{S:α->St}{inv:α->Prop}:WU S inv Q .normal st = ∃ x,inv x/\dx st (S x):=rfl
theorem ID{α:Type}{S:α->St}{inv:α->Prop}(i:Nat):WU S inv Q (.exit i) st=Q (.exit i) st:=rfl
theorem IE{α:Type}{S:α->St}{inv:α->Prop}:WU S inv Q .ret st=Q .ret st:=rfl
theorem zgr{c:Code}{id T:Nat}(h:st.ay id=some (.map T []))(H:aT P c Q {st with own:=zT id (.cN (.mq []) []) st.own}):aT P c Q st:=
 λX w0 β a w hm=>H X w0 β a w (hm.mq0 h)
end
theorem IF{st:St}{m:Nat}:∀ {l:List (Nat×ah)},(∀ t s,(t,s)∈l->zc st.af t=some s/\ah.lo m s)->Xt st m l
 | [],_=>trivial
 |(t,s)::r,h=>by
  obtain⟨H,G⟩:=h t s nL;unfold Xt;rw[H];exact⟨rfl,G,IF λt s F=>h t s (nG _ F)⟩
theorem IG{st:St}{m:Nat}:∀ {l:List (Nat×am)},(∀ t s,(t,s)∈l->zc st.own t=some s/\t<m/\s.lo m)->jE st m l
 | [],_=>trivial
 |(t,s)::r,h=>by
  obtain⟨H,G,F⟩:=h t s nL;unfold jE;rw[H];exact⟨rfl,G,F,IG λt s E=>h t s (nG _ E)⟩
theorem Y6{α:Type}:∀ {l:List (Nat×α)} {t:Nat} {s:α},(l.map (·.1)).Nodup->(t,s)∈l->zc l t=some s
 | [],t,s,_,h=>by cases h
 |(u,x)::r,t,s,H,h=>by
  simp only[nK,oE] at H;rcases nE.1 h with e | h
  .cases e;simp[zc]
  .have:¬u=t:=λe=>H.1 (by rw[e];exact nS.2 ⟨_,h,rfl⟩)
   simp only[zc,ge this];exact Y6 H.2 h
theorem VN{st st':St}(H:st'.n=st.n)(G:st'.ai=st.ai)(F:st'.ai<=st'.next)(E:∀ id∈st.aA,id∈st'.aA)(K:(st'.own.map (·.1)).Nodup)
  (hs:∀ t s,(t,s)∈st'.af->zc st.af t=some s/\ah.lo st'.next s) (J:∀ t s,(t,s)∈st'.own->zc st.own t=some s/\t<st'.next/\s.lo st'.next):dx st st':=
 ⟨⟨H,G,F,E⟩,K,IF hs,IG J⟩
attribute [local simp] IC ID IE
def ye(d:Dc)(L:List yi):List (Nat×am):=[(0,.box 53 (zO d)),(2,.cN (.mq (xT L)) (yD L)),(3,.box 182 [.mp 2])]
def xC(d:Dc)(id:Int)(x:Nat×List yi×Nat):St:=
 {n:=46,next:=x.2.2,af:=[(1,.d (int id)),(2,.bp 0 0),(5,.bp 3 0),(14,.d (zq d.ae)),(15,.d (int d.ae.length)),(16,.d (int x.1))],own:=ye d x.2.1++xj x.2.1,aA:=zN x.2.1}
structure fU(d:Dc)(x:Nat×List yi×Nat):Prop where
 le:x.1<=d.ae.length
 nx:4<=x.2.2
 aD:∀ i∈zN x.2.1,4<=i/\i<x.2.2
 fI:(zN x.2.1).Nodup
 md:∀ p,vX x.2.1 p=wv (d.ae.take x.1) p
theorem fU.own{d:Dc}{x:Nat×List yi×Nat}(h:fU d x){id:Int}:((xC d id x).own.map (·.1)).Nodup/\∀ t s,(t,s)∈(xC d id x).own->zc (xC d id x).own t=some s/\t<x.2.2/\s.lo x.2.2:=by
 obtain⟨k,L,nx⟩:=x
 obtain⟨F,E,K,J,M⟩:=h
 simp only at F E K J M
 have H:((xC d id (k,L,nx)).own.map (·.1)).Nodup:=by
  have e:(xC d id (k,L,nx)).own.map (·.1)=[0,2,3]++zN L:=by simp[xC,ye,xj,zN,rZ]
  rw[e,rX];refine⟨by decide,J,λa O b Q e=>?_⟩
  subst e;have:=(K a Q).1
  simp at O
  omega
 refine⟨H,λt s T=>⟨Y6 H T,?_⟩⟩
 have G:ah.a_ nx (yD L):=by
  clear H T J M;induction L with
  |nil=>simp[yD,ah.a_]
  |cons g L ih=>
   have:=ih λi hi=>K i (by simp only[zN,nK,nE] at hi ⊢;exact .inr hi)
   simp only[yD,nK,ah.a_,ah.lo] at this ⊢;exact⟨(K g.2.1 (by simp[zN])).2,this⟩
 simp only[xC,ye,nV,oP,nE] at T
 rcases T with e | e | e | T
 .cases e;exact⟨by simp only;omega,by simp[am.lo,ah.a_,ah.lo]⟩
 .cases e;exact⟨by simp only;omega,by simpa[am.lo] using G⟩
 .cases e;exact⟨by simp only;omega,by simp[am.lo,ah.a_,ah.lo];omega⟩
 .obtain⟨g,V,e⟩:=nS.1 T
  cases e;exact⟨(K g.2.1 (nS.2 ⟨g,V,rfl⟩)).2,by simp[am.lo]⟩
theorem VO{d:Dc}{m:Nat}{x:Nat×List yi×Nat}(G:fU d (m,x.2)){id:Int}{st:St}(F:st.n=46)(E:st.ai=0)(K:∀ i∈st.aA,i∈zN x.2.1)
  (hs:∀ t s,(t,s)∈(xC d id x).af->zc st.af t=some s) (J:∀ t s,zc (xC d id x).own t=some s->zc st.own t=some s):dx st (xC d id x):=by
 have L:=G.own (id:=id)
 refine VN F.symm E.symm (nU _) K L.1 (λt s M=>⟨hs t s M,?_⟩) (λt s M=>⟨J t s (L.2 t s M).1,(L.2 t s M).2⟩)
 have H:=G.nx
 simp only at H
 simp only[xC,nE,pw,rD,rd] at M ⊢
 rcases M with⟨_,rfl⟩ | ⟨_,rfl⟩ | ⟨_,rfl⟩ | ⟨_,rfl⟩ | ⟨_,rfl⟩ | ⟨_,rfl⟩ <;> simp[ah.lo] <;> omega
def zD(d:Dc)(id:Int)(k:Nat)(L:List yi)(nx:Nat)(n:Nt):St:=
 {n:=46,next:=nx+1,af:=[(1,.d (int id)),(2,.bp 0 0),(5,.bp 3 0),(7,.bp nx 0),(14,.d (zq d.ae)),(15,.d (int d.ae.length)),(16,.d (int k))],own:=(nx,.box 72 (dz n))::(ye d L++xj L),aA:=zN L}
theorem fU.zth{d:Dc}{x:Nat×List yi×Nat}(h:fU d x):x.2.2∉zN x.2.1:=λH=>by have:=(h.aD _ H).2;omega
theorem zjy{d:Dc}{id:Int}{k:Nat}{L:List yi}{nx:Nat}{n:Nt}(H:fU d (k,L,nx)){st:St}(G:st.n=46)(F:st.ai=0)(E:∀ i∈st.aA,i∈zN L)
  (hs:∀ t s,(t,s)∈(zD d id k L nx n).af->zc st.af t=some s) (K:st.own=(zD d id k L nx n).own):dx st (zD d id k L nx n):=by
 have J:=H.own (id:=id)
 have M:=H.nx
 simp only at M
 have O:((zD d id k L nx n).own.map (·.1)).Nodup:=by
  have e:(zD d id k L nx n).own.map (·.1)=nx::(xC d id (k,L,nx)).own.map (·.1):=rfl
  rw[e,oE];refine⟨λQ=>?_,J.1⟩
  obtain⟨⟨t,s⟩,T,V⟩:=nS.1 Q;have:=(J.2 t s T).2.1
  simp only at V this
  omega
 refine VN G.symm F.symm (nU _) E O (λt s Q=>⟨hs t s Q,?_⟩) (λt s Q=>⟨by rw[K];exact Y6 O Q,?_⟩)
 .simp only[zD,nE,pw,rD,rd] at Q ⊢
  rcases Q with⟨_,rfl⟩ | ⟨_,rfl⟩ | ⟨_,rfl⟩ | ⟨_,rfl⟩ | ⟨_,rfl⟩ | ⟨_,rfl⟩ | ⟨_,rfl⟩ <;> simp[ah.lo] <;> omega
 .rcases nE.1 Q with e | Q
  .cases e
   exact⟨by simp only[zD];omega,by simp[am.lo,ah.a_,ah.lo]⟩
  .have:=(J.2 t s Q).2
   simp only at this
   exact⟨by simp only[zD];omega,am.jA (by simp only[zD];omega) this.2⟩
theorem II:∀ {L:List yi} {p:Int} {g:Nat×List Int},v8 L p=some g->vX L p=g.2
 | [],p,g,h=>by cases h
 |a::L,p,g,h=>by
  unfold v8 at h;unfold vX;split at h
  .rename_i e;cases h;rw[gt e]
  .rename_i e;rw[ge e];exact II h
theorem IJ(L:List yi):yD L=(zN L).map ah.ar:=by simp[yD,zN]
theorem zrf{d:Dc}{L L':List yi}{nx:Nat}{g:Nat×List Int}{ob:am}{bx:am}(E:xT L'=xT L)(hi:zN L'=zN L)(K:∀ i,zc (xj L') i=if i=g.1 then some ob else zc (xj L) i)
  (J:∀ i∈zN L,4<=i/\i<nx) (O:g.1∈zN L) (G:4<=nx):∀ t s,zc (ye d L'++xj L') t=some s->zc (zT 2 (.cN (.mq (xT L)) (yD L)) (qf g.1 ob ((nx,bx)::(ye d L++xj L)))) t=some s:=by
 intro t s hs
 have F:=J _ O
 rw[ZE,Yv]
 rw[YX] at hs
 by_cases t2:t=2
 .subst t2
  simp[ye,zc] at hs;rw[gt rfl,<-hs,E,IJ,IJ,hi]
 rw[ge t2]
 by_cases t0:t=0
 .subst t0
  have b0:¬0=g.1:=by omega
  have n0:¬nx=0:=by omega
  simp[ye,zc] at hs;subst hs;simp[ye,zc,n0,b0,qx,yI,zA,zO]
 by_cases t3:t=3
 .subst t3
  have b0:¬3=g.1:=by omega
  have b2:¬2=g.1:=by omega
  have n0:¬nx=3:=by omega
  simp[ye,zc] at hs;subst hs;simp[ye,zc,n0,b0,b2,qx,yI,zA]
 have e0:¬0=t:=λe=>t0 e.symm
 have e2:¬2=t:=λe=>t2 e.symm
 have e3:¬3=t:=λe=>t3 e.symm
 simp[ye,zc,e0,e2,e3] at hs
 have H:¬nx=t:=by
  intro e;rw[<-e,K,ge (by omega)] at hs
  have:=(J _ (Q5 hs).1).2
  omega
 simp only[ye,nV,oP,zc,ge H,ge e0,ge e2,ge e3]
 rw[K] at hs
 by_cases e:t=g.1
 .rw[gt e] at hs
  cases hs;cases Q:zc (xj L) t with
  |none=>
   exfalso
   rw[e] at Q;have:∀ M:List yi,g.1∈zN M->zc (xj M) g.1≠none:=by
    intro M;induction M with
    |nil=>intro h;simp[zN] at h
    |cons a M ih=>
     intro h;simp only[zN,nK,nE] at h;simp only[xj,nK,zc];by_cases T:a.2.1=g.1
     .rw[gt T];simp
     .rw[ge T];exact ih (h.resolve_left λe=>T e.symm)
   exact this L O Q
  |some o=>simp[e]
 .rw[ge e] at hs
  obtain⟨_,ks,rfl⟩:=Q5 hs;rw[hs];simp[e,qx]
theorem zn9{d:Dc}{L:List yi}{p x:Int}{nx:Nat}{bx:am}{o0:am}(E:v8 L p=none)(K:∀ i∈zN L,4<=i/\i<nx)(F:4<=nx):
  ∀ t s,zc (ye d (vn L p x (nx+1))++xj (vn L p x (nx+1))) t=some s ->
   zc (zT 2 (.cN (.mq (xT L++[p])) (yD L++[.ar (nx+1)])) (qf (nx+1) (.aQ 3 1 [[int x]]) ((nx+1,o0)::(nx,bx)::(ye d L++xj L)))) t=some s:=by
 intro t s hs
 have H:nx+1∉zN L:=λJ=>by have:=(K _ J).2;omega
 have M:=zju (x:=x) (nx:=nx+1) E H
 rw[ZE,Yv]
 rw[YX] at hs
 by_cases t2:t=2
 .subst t2
  simp[ye,zc] at hs;rw[gt rfl,<-hs,WS E];simp[xT,yD]
 rw[ge t2]
 by_cases t0:t=0
 .subst t0
  have b0:¬0=nx+1:=by omega
  have n0:¬nx=0:=by omega
  simp[ye,zc] at hs;subst hs;simp[ye,zc,n0,qx,yI,zA,zO]
 by_cases t3:t=3
 .subst t3
  have b0:¬nx+1=3:=by omega
  have b1:¬3=nx+1:=by omega
  have b2:¬2=nx+1:=by omega
  have n0:¬nx=3:=by omega
  simp[ye,zc] at hs;subst hs;simp only[ye,nV,oP,zc,ge b0,ge n0];simp[b1,b2,qx,yI,zA]
 have e0:¬0=t:=λe=>t0 e.symm
 have e2:¬2=t:=λe=>t2 e.symm
 have e3:¬3=t:=λe=>t3 e.symm
 simp[ye,zc,e0,e2,e3] at hs
 rw[M] at hs
 by_cases e:t=nx+1
 .subst e
  rw[gt rfl] at hs;cases hs;simp[zc]
 rw[ge e] at hs
 have G:¬nx=t:=by
  intro e;rw[<-e] at hs;have:=(K _ (Q5 hs).1).2
  omega
 have en:¬nx+1=t:=λe2=>e e2.symm
 obtain⟨_,ks,rfl⟩:=Q5 hs
 simp only[ye,nV,oP,zc,ge en,ge G,ge e0,ge e2,ge e3,hs]
 simp[e,qx]
theorem IK(id:Nat)(x:D):∀ (l:List (Nat×am)) (t:Nat),zc (qw id x l) t=if t=id then none else (zc l t).map (Zz id x)
 | [],t=>by simp[qw,zc]
 |(k,o)::r,t=>by
  have ih:=IK id x r t;unfold qw;by_cases e:k=id
  .rw[gt e,ih]
   by_cases e2:t=id
   .rw[gt e2,gt e2]
   .have:¬k=t:=λe3=>e2 (e3.symm.trans e)
    rw[ge e2,ge e2];simp only[zc,ge this]
  .rw[ge e]
   simp only[zc];by_cases e2:k=t
   .have:¬t=id:=λe3=>e (e2.trans e3)
    rw[gt e2,gt e2,ge this];rfl
   .rw[ge e2,ge e2,ih]
def xU(d:Dc)(id:Int)(nx:Nat)(M:List Nat)(L1 L2:List yi):St:=
 {n:=46,next:=nx,af:=[(1,.d (int id)),(2,.bp 0 0),(5,.bp 3 0)],own:=[(0,.box 53 (zO d)),(2,.cN (.mq (xT (L1++L2))) ((L1.map λg=>ah.d (aa g.2.2))++yD L2)),(3,.box 182 [.mp 2])]++xj L2,aA:=M}
theorem IL(j:Nat)(x:D):∀ L:List yi,xZ j x (L.map λg=>ah.d (aa g.2.2))=L.map λg=>ah.d (aa g.2.2)
 | []=>rfl
 |g::L=>by simp only[nK,xZ,bX,IL j x L]
theorem IM(j:Nat)(x:D):∀ l m:List ah,xZ j x (l++m)=xZ j x l++xZ j x m
 | [],m=>rfl
 |s::l,m=>by simp only[nV,xZ,IM j x l m]
theorem IN{j:Nat}{x:D}:∀ {L:List yi},j∉zN L->xZ j x (yD L)=yD L
 | [],_=>rfl
 |g::L,h=>by
  simp only[zN,nK,nE,Ck] at h;have ih:=IN (x:=x) (L:=L) h.2;have:¬g.2.1=j:=λe=>h.1 e.symm
  simp only[yD,nK,xZ,bX,ge this] at ih ⊢;rw[ih]
theorem IP{X:Nat->Prop}{w0:bz}{β:Nat->Value}{a:Act}{w:World}{d:Dc}{id:Int}{nx:Nat}{M:List Nat}(T:4<=nx):∀ (L2 L1:List yi),(∀ i∈zN L2,4<=i/\i<nx)->(zN L2).Nodup->ax X w0 (xU d id nx M L1 L2) β a w->ax X w0 (xU d id nx M (L1++L2) []) β a w
 | [],L1,_,_,A=>by rw[oq];exact A
 |g::L2,L1,B,H,A=>by
  have e:L1++g::L2=(L1++[g])++L2:=by simp
  rw[e];simp only[zN,nK,oE] at H;have C:=B g.2.1 (by simp[zN])
  have E:g.2.1∉zN L2:=H.1
  have G:∀ i∈zN L2,4<=i/\i<nx:=λi hi=>B i (by simp only[zN,nK,nE] at hi ⊢;exact .inr hi)
  refine IP T L2 (L1++[g]) G H.2 ?_
  have n0:¬0=g.2.1:=by omega
  have n2:¬2=g.2.1:=by omega
  have n3:¬3=g.2.1:=by omega
  have J:(xU d id nx M L1 (g::L2)).ay g.2.1=some (.aQ 3 1 (g.2.2.map λn=>[int n])):=by
   simp only[St.ay,xU,xj,nK,nV,oP,zc,ge n0,ge n2,ge n3,oV]
  have I:=A.vP g.2.1;unfold St.vP at I;rw[J] at I;refine I.dY (VN rfl rfl (nU _) (λ_ h=>h) ?_ ?_ ?_)
  .have:(xU d id nx M (L1++[g]) L2).own.map (·.1)=[0,2,3]++zN L2:=by simp[xU,xj,zN,rZ]
   rw[this,rX];refine⟨by decide,H.2,λa N b P e=>?_⟩
   subst e;have:=(G a P).1
   simp at N
   omega
  .intro t s A
   simp only[xU,nE,pw,rD,rd] at A;rcases A with⟨rfl,rfl⟩ | ⟨rfl,rfl⟩ | ⟨rfl,rfl⟩ <;> simp[xU,ga,bX,zc,ah.lo] <;> omega
  .intro t s F
   have V:ah.a_ nx ((L1++[g]).map (λg=>ah.d (aa g.2.2))++yD L2):=by
    have S:∀ (l m:List ah),ah.a_ nx l->ah.a_ nx m->ah.a_ nx (l++m):=by
     intro l;induction l with
     |nil=>intro m _ h;exact h
     |cons a l ih=>intro m S W;simp only[nV,ah.a_] at S ⊢;exact⟨S.1,ih m S.2 W⟩
    refine S _ _ ?_ ?_
    .generalize L1++[g]=L
     induction L with
     |nil=>simp[ah.a_]
     |cons a l ih=>simp only[nK,ah.a_,ah.lo];exact⟨trivial,ih⟩
    .clear J I F H E A e
     induction L2 with
     |nil=>simp[yD,ah.a_]
     |cons a l ih=>
      simp only[yD,nK,ah.a_,ah.lo];exact⟨(G a.2.1 (by simp[zN])).2,ih (λi hi=>B i (by simp only[zN,nK,nE] at hi ⊢;rcases hi with h | h;exact .inl h;exact .inr (.inr h))) (λi hi=>G i (by simp only[zN,nK,nE] at hi ⊢;exact .inr hi))⟩
   simp only[xU,nV,oP,nE] at F;rw[IK];rcases F with e | e | e | F
   .cases e;exact⟨by rw[ge n0];simp[xU,zc,Zz,xZ,bX,zO],by simp only[xU];omega,by simp[am.lo,ah.a_,ah.lo]⟩
   .cases e
    refine⟨?_,by simp only[xU];omega,by simp only[am.lo];exact V⟩
    rw[ge n2];have hc:yD (g::L2)=ah.ar g.2.1::yD L2:=rfl
    simp only[xU,nV,oP,zc,oV,oL,Zz,show ¬(0:Nat)=2 by decide,oU,IM,IL,hc,xZ,bX,IN E]
    simp[aa,int]
   .cases e;exact⟨by rw[ge n3];simp[xU,zc,Zz,xZ,bX,n2],by simp only[xU];omega,by simp[am.lo,ah.a_,ah.lo,xU];omega⟩
   .obtain⟨q,hq,e⟩:=nS.1 F
    cases e;have O:q.2.1∈zN L2:=nS.2 ⟨q,hq,rfl⟩
    have Z:=G _ O;have Q:¬q.2.1=g.2.1:=λe=>E (by rw[<-e];exact O)
    have K:¬g.2.1=q.2.1:=λe=>Q e.symm
    have Y:zc (xj L2) q.2.1=some (.aQ 3 1 (q.2.2.map λn=>[int n])):=Y6 (by simpa[xj,zN,rZ] using H.2) (nS.2 ⟨q,hq,rfl⟩)
    refine⟨?_,by simp only[xU];omega,by simp[am.lo]⟩
    rw[ge Q];have m0:¬0=q.2.1:=by omega
    have m2:¬2=q.2.1:=by omega
    have m3:¬3=q.2.1:=by omega
    have hc:xj (g::L2)=(g.2.1,am.aQ 3 1 (g.2.2.map λn=>[int n]))::xj L2:=rfl
    simp only[xU,nV,oP,zc,ge m0,ge m2,ge m3,hc,ge K,Y];rfl
def YY(d:Dc)(id:Int)(L:List yi):St:=
 {n:=46,next:=4,af:=[(1,.d (int id)),(2,.bp 0 0),(5,.bp 3 0)],own:=[(0,.box 53 (zO d)),(3,.box 182 [.d (.mp (Zk L))])],aA:=zN L}
theorem zd2{P:Program}{c:Code}{Q:DE->St->Prop}{d:Dc}{id:Int}{m:Nat}{x:Nat×List yi×Nat}(K:fU d (m,x.2))(h:aT P c Q (YY d id x.2.1)):aT P c Q (xC d id x):=by
 intro X w0 β a w J
 obtain⟨k,L,nx⟩:=x
 have M:∀ i∈zN L,4<=i/\i<nx:=K.aD
 have G:(zN L).Nodup:=K.fI
 have E:4<=nx:=K.nx
 have O:=K.own (id:=id)
 have m0:ax X w0 (xU d id nx (zN L) [] L) β a w:=by
  refine J.dY (VN rfl rfl (nU _) (λ_ h=>h) O.1 ?_ O.2)
  intro t s J;simp only[xU,nE,pw,rD,rd] at J;rcases J with⟨rfl,rfl⟩ | ⟨rfl,rfl⟩ | ⟨rfl,rfl⟩ <;> simp[xC,xU,zc,ah.lo] <;> omega
 have m1:=IP E L [] M G m0
 rw[oP] at m1
 have F:(xU d id nx (zN L) L []).ay 2=some (.cN (.mq (xT L)) ((L.map λg=>aa g.2.2).map ah.d)):=by simp[xU,St.ay,zc,yD,rZ]
 have m2:=(m1.mqD (T:=182) F).vP 2
 have V:((xT L).zip (L.map λg=>aa g.2.2)).map (λp=>[D.int .i64 p.1,p.2])=Zk L:=by
  clear J m0 m1 m2 F O K h M G;induction L with
  |nil=>rfl
  |cons g L ih=>simp only[xT,Zk,nK,Co,int] at ih ⊢;rw[ih]
 rw[V] at m2
 have H:St.ay {xU d id nx (zN L) L [] with own:=zT 2 (.map 182 (Zk L)) (xU d id nx (zN L) L []).own} 2=some (.map 182 (Zk L)):=by simp[xU,St.ay,zc,zT]
 unfold St.vP at m2
 rw[H] at m2
 refine h X w0 β a w (m2.dY (VN rfl rfl (nU _) (λ_ h=>h) (by simp[YY]) ?_ ?_))
 .intro t s J
  simp only[YY,nE,pw,rD,rd] at J;rcases J with⟨rfl,rfl⟩ | ⟨rfl,rfl⟩ | ⟨rfl,rfl⟩ <;> simp[YY,xU,ga,bX,zc,ah.lo]
 .intro t s J
  simp only[YY,nE,pw,rD,rd] at J;rcases J with⟨rfl,rfl⟩ | ⟨rfl,rfl⟩ <;> simp[YY,xU,zT,qw,Zz,xZ,bX,zc,ah.lo,ah.a_,am.lo,xj,zO]
end Go.V.Doc
namespace Go.V.Doc
open Go Go.Proofs Tryz
attribute [local simp] IC ID IE
theorem zoa(d:Dc)(h:b_ d)(hl:d.ae.length<2^40)(n:Nt)(hn:n∈d.ae)(f:Nat)(hf:(d.al.length:Int)-n.aZ<=f)(hc:(yX d.ae f n.id).length<2^40):aq prog 59 [zn d,int n.id] (aa (qQ (yX d.ae f n.id))):=by
 obtain⟨id,cq⟩:∃ id,n.id=id:=⟨_,rfl⟩
 have hG:=YM d n.id (by omega)
 rw[ua h hn] at hG
 have N:=hc
 have hS:=IA (yX d.ae f n.id) hc (Il h f n hn hf)
 have J:∀ L:List yi,(∀ p,vX L p=wv d.ae p)->WR L d.ae f n.id:=λL hL=>ztg h hL f n hn hf
 rw[cq] at hG N hS J hc ⊢
 refine za7 func59 rfl c_59 ?_
 refine jb mixed 2 {n:=46,next:=4,af:=[(1,.d (int id)),(2,.bp 0 0),(5,.bp 3 0)],own:=[(0,.box 53 (zO d)),(2,.map 182 []),(3,.box 182 [.mp 2])]} rfl ?_ ?_
 .simp+decide[f59,yo,zn,Dc.row,int,zq,zw]
 simp only[f59,yK]
 refine zgr (id:=2) rfl ?_
 refine IB (xC d id) (λx=>fU d x/\x.1=d.ae.length) ?_ ?_
 .refine jb mixed 1 (xC d id (0,[],4)) rfl ?_ ?_
  .simp+decide[yo,xC,ye,xT,yD,xj,zN,zT,int,zq]
  simp only[yK];refine ZH (qg (xC d id) (fU d) (λx=>d.ae.length-x.1) (0,[],4) ?_ ?_ ?_)
  .exact⟨nU _,by simp,by simp[zN],by simp[zN],by simp[vX,wv]⟩
  .simp+decide[xC,ye,xT,yD,xj,zN]
  intro x hx;by_cases K:x.1<d.ae.length
  case neg=>
   have hk:x.1=d.ae.length:=by have:=hx.le;omega
   refine cy ?_
   simp+decide[xC,int,hk,-dx];refine⟨x.1,x.2.1,x.2.2,⟨hx,hk⟩,?_⟩
   refine VO (x:=(x.1,x.2.1,x.2.2)) hx rfl rfl (λ_ h=>h) ?_ (λ_ _ h=>h)
   intro t s hm;simp only[xC,nE,pw,rD,rd] at hm;rcases hm with⟨rfl,rfl⟩ | ⟨rfl,rfl⟩ | ⟨rfl,rfl⟩ | ⟨rfl,rfl⟩ | ⟨rfl,rfl⟩ | ⟨rfl,rfl⟩ <;> simp[zc,hk,int]
  refine jb mixed 2 (xC d id x) rfl ?_ ?_
  .have G:(x.1:Int)<d.ae.length:=by omega
   simp+decide[yo,xC,int,G,-dx];refine VO (x:=x) hx rfl rfl (λ_ h=>h) ?_ (λ_ _ h=>h)
   intro t s hm;simp only[xC,nE,pw,rD,rd] at hm;rcases hm with⟨rfl,rfl⟩ | ⟨rfl,rfl⟩ | ⟨rfl,rfl⟩ | ⟨rfl,rfl⟩ | ⟨rfl,rfl⟩ | ⟨rfl,rfl⟩ <;> simp[zc,int]
  simp only[yK];refine IB (λy:List yi×Nat=>xC d id (x.1,y)) (λy=>fU d (x.1+1,y)) ?_ ?_
  .refine ZH ?_
   obtain⟨k,L,nx⟩:=x;obtain⟨n,en,e1⟩:=bN K;refine JL (zD d id k L nx n) ?_ ?_
   .refine cy ?_
    have G:(k:Int)<d.ae.length:=by omega
    simp+decide[xC,int,zq,Nt.row,K,G,en,-dx];refine zjy hx rfl rfl (λ_ h=>h) ?_ rfl
    intro t s hm;simp only[zD,nE,pw,rD,rd] at hm;rcases hm with⟨rfl,rfl⟩ | ⟨rfl,rfl⟩ | ⟨rfl,rfl⟩ | ⟨rfl,rfl⟩ | ⟨rfl,rfl⟩ | ⟨rfl,rfl⟩ | ⟨rfl,rfl⟩ <;> simp[zc,int,zq]
   .have P:nx∉zN L:=hx.zth
    have h4:4<=nx:=hx.nx
    have H:∀ i∈zN L,4<=i/\i<nx:=hx.aD
    have M:(zN L).Nodup:=hx.fI
    have a0:¬nx=0:=by omega
    have a2:¬nx=2:=by omega
    have a3:¬nx=3:=by omega
    cases hf:v8 L n.aE with
    |some g=>
     have T:g.1∈zN L:=nS.2 ⟨_,VL hf,rfl⟩
     have H2:=H _ T;have b0:¬0=g.1:=by omega
     have b2:¬2=g.1:=by omega
     have b3:¬3=g.1:=by omega
     have bn:¬nx=g.1:=by omega
     have c2:¬g.1=2:=by omega
     have c3:¬g.1=3:=by omega
     have c0:¬g.1=0:=by omega
     have cn:¬g.1=nx:=by omega
     obtain⟨S,hS⟩:∃ S:St,S = {zD d id k L nx n with af:=(20,.mp 2)::(21,.bp nx 2)::(22,.d (int n.aE))::(23,.mp 2)::(24,.bp nx 2)::(25,.d (int n.aE))::(26,.ar g.1)::(27,.bp nx 0)::(28,.d (int n.id))::(29,.d (.sl [[int n.id]]))::(zD d id k L nx n).af}:=⟨_,rfl⟩;refine E7 mixed 11 10 S ((S.aV g.1 (.aQ 3 1 ((g.2++[n.id]).map λn=>[int n]))).put (some 30) (.ar g.1)) 30 (.ar g.1) (zA g.1) (λst=>(st.aV g.1 (.aQ 3 1 ((g.2++[n.id]).map λn=>[int n]))).put (some 30) (.ar g.1)) _ (by rfl) (by rfl) (by rfl) (by rfl) (by rfl) rfl rfl rfl ?_ (An S g.1 30 _) ?_ ?_ ?_
     .intro X w0 β a w hm
      subst hS;refine⟨rfl,rfl,rfl,rfl,rfl,λt s hs hj hL=>?_⟩
      simp only[zc] at hs;split at hs
      .rename_i e;exact(hL 0 _ (by omega) rfl (congrArg some e)).elim
      split at hs
      .rename_i e;exact(hL 1 _ (by omega) rfl (congrArg some e)).elim
      split at hs
      .rename_i e;exact(hL 2 _ (by omega) rfl (congrArg some e)).elim
      split at hs
      .rename_i e;exact(hL 3 _ (by omega) rfl (congrArg some e)).elim
      split at hs
      .rename_i e;exact(hL 4 _ (by omega) rfl (congrArg some e)).elim
      split at hs
      .rename_i e;exact(hL 5 _ (by omega) rfl (congrArg some e)).elim
      split at hs
      .rename_i e;exact(hL 6 _ (by omega) rfl (congrArg some e)).elim
      split at hs
      .rename_i e;exact(hL 7 _ (by omega) rfl (congrArg some e)).elim
      split at hs
      .rename_i e;exact(hL 8 _ (by omega) rfl (congrArg some e)).elim
      split at hs
      .rename_i e;exact(hL 9 _ (by omega) rfl (congrArg some e)).elim
      exact hs
     .intro i o hi W ho
      have:i=0\/i=1\/i=2\/i=3\/i=4\/i=5\/i=6\/i=7\/i=8\/i=9:=by omega
      rcases this with rfl | rfl | rfl | rfl | rfl | rfl | rfl | rfl | rfl | rfl <;> simp only[td,pY,pB] at ho <;> subst ho
      .refine qY (s:=.mp 2) rfl rfl (by subst hS;simp[zD]) (by subst hS;simp[ah.lo,zD] <;> omega) ⟨by rfl,?_⟩ (by subst hS;simp[zc]) (.inr ⟨by subst hS;simp[St.put,St.aV,zD],by subst hS;simp[St.put,St.aV,ah.lo,zD] <;> omega,⟨by rfl,?_⟩,by subst hS;simp[zc,St.put,St.aV,xu,zA,zD,b0,b2,b3,bn]⟩)
       .subst hS;simp+decide[zD,ye,zc,St.val,St.ay,int,a3]
       .subst hS;simp+decide[zD,ye,zc,St.val,St.ay,St.put,St.aV,qf,qx,yI,zA,xu,int,a3,b0,b2,b3,bn]
      .refine qY (s:=.bp nx 2) rfl rfl (by subst hS;simp[zD]) (by subst hS;simp[ah.lo,zD] <;> omega) ⟨by rfl,?_⟩ (by subst hS;simp[zc]) (.inr ⟨by subst hS;simp[St.put,St.aV,zD],by subst hS;simp[St.put,St.aV,ah.lo,zD] <;> omega,⟨by rfl,?_⟩,by subst hS;simp[zc,St.put,St.aV,xu,zA,zD,b0,b2,b3,bn]⟩)
       .subst hS;simp+decide[zD,ye,zc,St.val,int]
       .subst hS;simp+decide[zD,ye,zc,St.val,St.put,St.aV,qf,qx,yI,zA,xu,int,b0,b2,b3,bn]
      .refine qY (s:=.d (int n.aE)) rfl rfl (by subst hS;simp[zD]) (by subst hS;simp[ah.lo] <;> omega) ⟨by rfl,?_⟩ (by subst hS;simp[zc]) (.inr ⟨by subst hS;simp[St.put,St.aV,zD],by subst hS;simp[ah.lo] <;> omega,⟨by rfl,?_⟩,by subst hS;simp[zc,St.put,St.aV,xu,zA,zD,b0,b2,b3,bn]⟩)
       .subst hS;simp+decide[zD,ye,zc,St.val,St.ay,int]
       .subst hS;simp+decide[zD,ye,zc,St.val,St.ay,St.put,St.aV,qf,qx,yI,zA,xu,int,b0,b2,b3,bn]
      .refine qY (s:=.mp 2) rfl rfl (by subst hS;simp[zD]) (by subst hS;simp[ah.lo,zD] <;> omega) ⟨by rfl,?_⟩ (by subst hS;simp[zc]) (.inl ⟨5,by rfl⟩)
       subst hS;simp+decide[zD,ye,zc,St.val,St.ay,int,a3]
      .refine qY (s:=.bp nx 2) rfl rfl (by subst hS;simp[zD]) (by subst hS;simp[ah.lo,zD] <;> omega) ⟨by rfl,?_⟩ (by subst hS;simp[zc]) (.inl ⟨5,by rfl⟩)
       subst hS;simp+decide[zD,ye,zc,St.val,int]
      .refine qY (s:=.d (int n.aE)) rfl rfl (by subst hS;simp[zD]) (by subst hS;simp[ah.lo] <;> omega) ⟨by rfl,?_⟩ (by subst hS;simp[zc]) (.inl ⟨5,by rfl⟩)
       subst hS;simp+decide[zD,ye,zc,St.val,St.ay,int]
      .refine⟨rfl,26,.ar g.1,rfl,.inl ⟨5,by rfl⟩,?_,by subst hS;intro s' h1 _;simp[zc] at h1;exact h1.symm⟩
       intro X w0 st β a w hn H0 F hk hm;have V:st.val (.tmp 23) = .mp 2:=by simp only[St.val];rw[hk 23 (by simp[aX,Op.operands]) (.mp 2) (by subst hS;simp[zc]) (by simp)];rfl
       have Y:st.val (.tmp 25) = .d (.int .i64 n.aE):=by simp only[St.val];rw[hk 25 (by simp[aX,Op.operands]) (.d (int n.aE)) (by subst hS;simp[zc]) (by simp)];rfl
       have O:st.ay 2=some (.cN (.mq (xT L)) (yD L)):=by simp only[St.ay];rw[F];subst hS;simp[zD,ye,zc,a2]
       refine Aj hm rfl (by intro t ht;cases ht;rw[hn];subst hS;simp[zD]) V O Y (kt:=3) (et:=31) (by kernel_rfl) lZ mr rfl rfl rfl (by kernel_rfl) ?_
       rw[FV,hf];rfl
      .refine qY (s:=.bp nx 0) rfl rfl (by subst hS;simp[zD]) (by subst hS;simp[ah.lo,zD] <;> omega) ⟨by rfl,?_⟩ (by subst hS;simp[zc]) (.inl ⟨5,by rfl⟩)
       subst hS;simp+decide[zD,ye,zc,St.val,int]
      .refine qY (s:=.d (int n.id)) rfl rfl (by subst hS;simp[zD]) (by subst hS;simp[ah.lo] <;> omega) ⟨by rfl,?_⟩ (by subst hS;simp[zc]) (.inl ⟨5,by rfl⟩)
       subst hS;simp+decide[zD,ye,zc,St.val,St.ay,int]
      .refine qY (s:=.d (.sl [[int n.id]])) rfl rfl (by subst hS;simp[zD]) (by subst hS;simp[ah.lo] <;> omega) ⟨by rfl,?_⟩ (by subst hS;simp[zc]) (.inl ⟨5,by rfl⟩)
       subst hS;simp+decide[zD,ye,zc,St.val,int]
     .intro X w0 L' st hN hk β a w hm
      have Z:zc st.af 26=some (.ar g.1):=hk 26 (by simp[aX,Op.operands,Call.operands]) (.ar g.1) (by subst hS;simp[zc]) (by simp)
      have A:zc st.af 29=some (.d (.sl [[int n.id]])):=hk 29 (by simp[aX,Op.operands,Call.operands]) (.d (.sl [[int n.id]])) (by subst hS;simp[zc]) (by simp)
      have O:zc st.own g.1=some (.aQ 3 1 (g.2.map λn=>[int n])):=by
       rw[hN.own];subst hS;simp only[zD,ye,nV,oP,zc,ge bn,ge b0,ge b2,ge b3];exact zjt hf M
      have Hb:g.2.length<=k:=by
       rw[<-II hf,hx.md n.aE];unfold wv;rw[om];exact oC (oz _ _) (by rw[nR];exact tM _ _)
      have B:st.n=46:=by rw[hN.n];subst hS;rfl
      refine wi hm ?_
      simp+decide[yz,B,Z,A,O,int,maxLen];exact⟨by omega,by omega⟩
     .refine Ao rfl rfl rfl ?_
      intro X w0 β a w hm;refine Ak hm rfl rfl (id:=2) (bB:=xT L) (cells:=yI g.1 (yD L)) (n:=n.aE) ?_ ?_ ?_ (kt:=3) (et:=31) (by kernel_rfl) lZ rfl ?_
      .subst hS;simp[St.val,St.put,St.aV,xu,zA,zc,b2]
      .subst hS;simp only[St.ay,St.put,St.aV];rw[Yv];simp[zD,ye,zc,a2,b2,qx]
      .subst hS;simp[St.val,St.put,St.aV,xu,zA,zc,int]
      .have hv:((S.aV g.1 (.aQ 3 1 ((g.2++[n.id]).map λn=>[int n]))).put (some 30) (.ar g.1)).val (.tmp 30) = .ar g.1:=by simp[St.val,St.put,zc]
       rw[hv,Is (x:=n.id) (nx:=nx) hf M];have hh:=Iq (x:=n.id) (nx:=nx) hf;have hU:fU d (k+1,vn L n.aE n.id nx,nx+1):=by
        refine⟨K,by simp only;omega,λi hi=>?_,by simp only;rw[hh.2];exact M,λp=>?_⟩
        .simp only at hi ⊢
         rw[hh.2] at hi;have:=H i hi
         omega
        .simp only
         rw[Ip,hx.md p,nX K,en];unfold wv;rw[pm,oF];by_cases e:n.aE=p
         .simp[e]
         .simp[e]
       refine⟨(vn L n.aE n.id nx,nx+1),hU,?_⟩
       refine VO (x:=(k,vn L n.aE n.id nx,nx+1)) hU (by subst hS;rfl) (by subst hS;rfl) ?_ ?_ ?_
       .subst hS
        simp only[hh.2,St.put,St.aV,zD,nE];rintro i (rfl | hi)
        .exact T
        .exact hi
       .subst hS
        intro t s hm;simp only[xC,nE,pw,rD,rd] at hm;rcases hm with⟨rfl,rfl⟩ | ⟨rfl,rfl⟩ | ⟨rfl,rfl⟩ | ⟨rfl,rfl⟩ | ⟨rfl,rfl⟩ | ⟨rfl,rfl⟩ <;> simp[St.put,St.aV,zc,zD,xu,zA,b0,b2,b3]
       .subst hS
        exact zrf hh.1 hh.2 (Ir hf M) H T h4
    |none=>
     have a1:¬nx=1:=by omega
     have b1:¬1=nx:=by omega
     have b2:¬2=nx:=by omega
     have b3:¬3=nx:=by omega
     have Q:nx+1∉zN L:=λhm=>by have:=(H _ hm).2;omega
     obtain⟨S,hS⟩:∃ S:St,S = {zD d id k L nx n with af:=(20,.mp 2)::(21,.bp nx 2)::(22,.d (int n.aE))::(23,.mp 2)::(24,.bp nx 2)::(25,.d (int n.aE))::(26,.aW)::(27,.bp nx 0)::(28,.d (int n.id))::(29,.d (.sl [[int n.id]]))::(zD d id k L nx n).af}:=⟨_,rfl⟩;have H1:S.next=nx+1:=by subst hS;rfl
     refine E7 mixed 11 10 S (((S.new (.aQ 3 1 [])).aV S.next (.aQ 3 1 [[int n.id]])).put (some 30) (.ar S.next)) 30 (.ar S.next) (zA S.next) (λst=>((st.new (.aQ 3 1 [])).aV st.next (.aQ 3 1 [[int n.id]])).put (some 30) (.ar st.next)) _ (by rfl) (by rfl) (by rfl) (by rfl) (by rfl) rfl rfl rfl ?_ (zqp S 30 _ _) ?_ ?_ ?_
     .intro X w0 β a w hm
      subst hS;refine⟨rfl,rfl,rfl,rfl,rfl,λt s hs hj hL=>?_⟩
      simp only[zc] at hs;split at hs
      .rename_i e;exact(hL 0 _ (by omega) rfl (congrArg some e)).elim
      split at hs
      .rename_i e;exact(hL 1 _ (by omega) rfl (congrArg some e)).elim
      split at hs
      .rename_i e;exact(hL 2 _ (by omega) rfl (congrArg some e)).elim
      split at hs
      .rename_i e;exact(hL 3 _ (by omega) rfl (congrArg some e)).elim
      split at hs
      .rename_i e;exact(hL 4 _ (by omega) rfl (congrArg some e)).elim
      split at hs
      .rename_i e;exact(hL 5 _ (by omega) rfl (congrArg some e)).elim
      split at hs
      .rename_i e;exact(hL 6 _ (by omega) rfl (congrArg some e)).elim
      split at hs
      .rename_i e;exact(hL 7 _ (by omega) rfl (congrArg some e)).elim
      split at hs
      .rename_i e;exact(hL 8 _ (by omega) rfl (congrArg some e)).elim
      split at hs
      .rename_i e;exact(hL 9 _ (by omega) rfl (congrArg some e)).elim
      exact hs
     .intro i o hi W ho
      have:i=0\/i=1\/i=2\/i=3\/i=4\/i=5\/i=6\/i=7\/i=8\/i=9:=by omega
      rcases this with rfl | rfl | rfl | rfl | rfl | rfl | rfl | rfl | rfl | rfl <;> simp only[td,pY,pB] at ho <;> subst ho
      .refine qY (s:=.mp 2) rfl rfl (by subst hS;simp[zD]) (by subst hS;simp[ah.lo,zD] <;> omega) ⟨by rfl,?_⟩ (by subst hS;simp[zc]) (.inr ⟨by subst hS;simp[St.put,St.aV,St.new,zD],by subst hS;simp[St.put,St.aV,St.new,ah.lo,zD] <;> omega,⟨by rfl,?_⟩,by subst hS;simp[zc,St.put,St.aV,St.new,xu,zA,zD,a0,a1,a2]⟩)
       .subst hS;simp+decide[zD,ye,zc,St.val,St.ay,int,a3]
       .subst hS;simp+decide[zD,ye,zc,St.val,St.ay,St.put,St.aV,St.new,qf,qx,yI,zA,xu,int,a0,a1,a2,a3]
      .refine qY (s:=.bp nx 2) rfl rfl (by subst hS;simp[zD]) (by subst hS;simp[ah.lo,zD] <;> omega) ⟨by rfl,?_⟩ (by subst hS;simp[zc]) (.inr ⟨by subst hS;simp[St.put,St.aV,St.new,zD],by subst hS;simp[St.put,St.aV,St.new,ah.lo,zD] <;> omega,⟨by rfl,?_⟩,by subst hS;simp[zc,St.put,St.aV,St.new,xu,zA,zD,a0,a1,a2]⟩)
       .subst hS;simp+decide[zD,ye,zc,St.val,int]
       .subst hS;simp+decide[zD,ye,zc,St.val,St.put,St.aV,St.new,qf,qx,yI,zA,xu,int,a0,a1,a2]
      .refine qY (s:=.d (int n.aE)) rfl rfl (by subst hS;simp[zD]) (by subst hS;simp[ah.lo] <;> omega) ⟨by rfl,?_⟩ (by subst hS;simp[zc]) (.inr ⟨by subst hS;simp[St.put,St.aV,St.new,zD],by subst hS;simp[ah.lo] <;> omega,⟨by rfl,?_⟩,by subst hS;simp[zc,St.put,St.aV,St.new,xu,zA,zD,a0,a1,a2]⟩)
       .subst hS;simp+decide[zD,ye,zc,St.val,St.ay,int]
       .subst hS;simp+decide[zD,ye,zc,St.val,St.ay,St.put,St.aV,St.new,qf,qx,yI,zA,xu,int,a0,a1,a2]
      .refine qY (s:=.mp 2) rfl rfl (by subst hS;simp[zD]) (by subst hS;simp[ah.lo,zD] <;> omega) ⟨by rfl,?_⟩ (by subst hS;simp[zc]) (.inl ⟨5,by rfl⟩)
       subst hS;simp+decide[zD,ye,zc,St.val,St.ay,int,a3]
      .refine qY (s:=.bp nx 2) rfl rfl (by subst hS;simp[zD]) (by subst hS;simp[ah.lo,zD] <;> omega) ⟨by rfl,?_⟩ (by subst hS;simp[zc]) (.inl ⟨5,by rfl⟩)
       subst hS;simp+decide[zD,ye,zc,St.val,int]
      .refine qY (s:=.d (int n.aE)) rfl rfl (by subst hS;simp[zD]) (by subst hS;simp[ah.lo] <;> omega) ⟨by rfl,?_⟩ (by subst hS;simp[zc]) (.inl ⟨5,by rfl⟩)
       subst hS;simp+decide[zD,ye,zc,St.val,St.ay,int]
      .refine⟨rfl,26,.aW,rfl,.inl ⟨5,by rfl⟩,?_,by subst hS;intro s' h1 _;simp[zc] at h1;exact h1.symm⟩
       intro X w0 st β a w hn H0 F hk hm;have V:st.val (.tmp 23) = .mp 2:=by simp only[St.val];rw[hk 23 (by simp[aX,Op.operands]) (.mp 2) (by subst hS;simp[zc]) (by simp)];rfl
       have Y:st.val (.tmp 25) = .d (.int .i64 n.aE):=by simp only[St.val];rw[hk 25 (by simp[aX,Op.operands]) (.d (int n.aE)) (by subst hS;simp[zc]) (by simp)];rfl
       have O:st.ay 2=some (.cN (.mq (xT L)) (yD L)):=by simp only[St.ay];rw[F];subst hS;simp[zD,ye,zc,a2]
       refine Aj hm rfl (by intro t ht;cases ht;rw[hn];subst hS;simp[zD]) V O Y (kt:=3) (et:=31) (by kernel_rfl) lZ mr rfl rfl rfl (by kernel_rfl) ?_
       rw[FV,hf];rfl
      .refine qY (s:=.bp nx 0) rfl rfl (by subst hS;simp[zD]) (by subst hS;simp[ah.lo,zD] <;> omega) ⟨by rfl,?_⟩ (by subst hS;simp[zc]) (.inl ⟨5,by rfl⟩)
       subst hS;simp+decide[zD,ye,zc,St.val,int]
      .refine qY (s:=.d (int n.id)) rfl rfl (by subst hS;simp[zD]) (by subst hS;simp[ah.lo] <;> omega) ⟨by rfl,?_⟩ (by subst hS;simp[zc]) (.inl ⟨5,by rfl⟩)
       subst hS;simp+decide[zD,ye,zc,St.val,St.ay,int]
      .refine qY (s:=.d (.sl [[int n.id]])) rfl rfl (by subst hS;simp[zD]) (by subst hS;simp[ah.lo] <;> omega) ⟨by rfl,?_⟩ (by subst hS;simp[zc]) (.inl ⟨5,by rfl⟩)
       subst hS;simp+decide[zD,ye,zc,St.val,int]
     .intro X w0 L' st hN hk β a w hm
      have Z:zc st.af 26=some .aW:=hk 26 (by simp[aX,Op.operands,Call.operands]) .aW (by subst hS;simp[zc]) (by simp)
      have A:zc st.af 29=some (.d (.sl [[int n.id]])):=hk 29 (by simp[aX,Op.operands,Call.operands]) (.d (.sl [[int n.id]])) (by subst hS;simp[zc]) (by simp)
      have B:st.n=46:=by rw[hN.n];subst hS;rfl
      refine wi hm ?_
      simp+decide[yz,B,Z,A,int,maxLen]
     .refine Ao rfl rfl rfl ?_
      intro X w0 β a w hm;refine Ak hm rfl rfl (id:=2) (bB:=xT L) (cells:=yI (nx+1) (yD L)) (n:=n.aE) ?_ ?_ ?_ (kt:=3) (et:=31) (by kernel_rfl) lZ rfl ?_
      .subst hS;simp[St.val,St.put,St.aV,St.new,xu,zA,zc,zD,a1]
      .subst hS;simp only[St.ay,St.put,St.aV,St.new];rw[Yv];simp[zD,ye,zc,a1,a2,qx]
      .subst hS;simp[St.val,St.put,St.aV,St.new,xu,zA,zc,int]
      .have hv:(((S.new (.aQ 3 1 [])).aV S.next (.aQ 3 1 [[int n.id]])).put (some 30) (.ar S.next)).val (.tmp 30) = .ar (nx+1):=by simp[St.val,St.put,zc,H1]
       rw[hv,Iw Q,Iu hf];have C:=WS (x:=n.id) (nx:=nx+1) hf;have E:zN (vn L n.aE n.id (nx+1))=zN L++[nx+1]:=by rw[C];simp[zN]
       have hU:fU d (k+1,vn L n.aE n.id (nx+1),nx+2):=by
        refine⟨K,by simp only;omega,λi hi=>?_,?_,λp=>?_⟩
        .simp only at hi ⊢
         rw[E,nM,nQ] at hi;rcases hi with hi | rfl
         .have:=H i hi;omega
         .omega
        .simp only
         rw[E,rX];refine⟨M,by simp,λa ha b hb e=>?_⟩
         rw[nQ] at hb;subst hb;subst e;exact Q ha
        .simp only
         rw[Ip,hx.md p,nX K,en];unfold wv;rw[pm,oF];by_cases e:n.aE=p
         .simp[e]
         .simp[e]
       refine⟨(vn L n.aE n.id (nx+1),nx+2),hU,?_⟩
       refine VO (x:=(k,vn L n.aE n.id (nx+1),nx+2)) hU (by subst hS;rfl) (by subst hS;rfl) ?_ ?_ ?_
       .subst hS
        simp only[E,St.put,St.aV,St.new,zD,nE,nM,pw,rD];rintro i (rfl | hi)
        .exact .inr rfl
        .exact .inl hi
       .subst hS
        intro t s hm;simp only[xC,nE,pw,rD,rd] at hm;rcases hm with⟨rfl,rfl⟩ | ⟨rfl,rfl⟩ | ⟨rfl,rfl⟩ | ⟨rfl,rfl⟩ | ⟨rfl,rfl⟩ | ⟨rfl,rfl⟩ <;> simp[St.put,St.aV,St.new,zc,zD,xu,zA,a1,a2]
       .subst hS
        exact zn9 hf H h4
  .intro y hy
   refine cy ?_
   simp+decide[xC,int,aB,-dx];refine⟨by omega,x.1+1,y.1,y.2,hy,by omega,?_⟩
   refine VO (x:=(x.1+1,y)) hy rfl rfl (λ_ h=>h) ?_ (λ_ _ h=>h)
   intro t s hm;simp only[xC,nE,pw,rD,rd] at hm;rcases hm with⟨rfl,rfl⟩ | ⟨rfl,rfl⟩ | ⟨rfl,rfl⟩ | ⟨rfl,rfl⟩ | ⟨rfl,rfl⟩ | ⟨rfl,rfl⟩ <;> simp[zc,int]
 .intro x hx
  refine zd2 (m:=x.1) hx.1 ?_
  have hC:=J x.2.1 (λp=>by rw[hx.1.md p,hx.2,nH])
  generalize x.2.1=L at hC;refine jb mixed 4 {n:=46,next:=7,af:=[(1,.d (int id)),(10,.bp 5 0),(11,.bp 6 0)],own:=[(3,.box 182 [.d (.mp (Zk L))]),(5,.box 31 [.aW]),(6,.box 183 [.fn 115 [.bp 3 0,.bp 5 0,.bp 6 0]])],aA:=zN L} rfl ?_ ?_
  .simp+decide[yo,YY,int,-dx]
   refine zg hG ?_
   simp+decide[cb,Nt.row,int]
  simp only[yK];refine FY (id:=5) (e:=3) (sz:=1) rfl ?_
  refine cy ?_
  have I:=hC [] (by rw[oP];omega)
  rw[oP] at I;generalize yX d.ae f id=R at *;simp+decide[int];refine zE.mut [3,5,6,7] [.d (int id),.bp 0 0,.bp 1 0,.bp 2 0] (ji L []) (by rfl) (by simp[int]) (by simp[ah.a_,ah.lo]) (by simp[ji,int];rfl) I ?_
  simp+decide[int,ji];refine zE.V8 (by rfl) hS ?_
  simp+decide
theorem IQ{P:Program}{f:Nat}{ds:List D}{s:ah}{k T sz nx:Nat}{rows:List (List D)}{mv:List Nat}{r:D}(h:aU P f (ds.map .d) [] 0 s nx [(k,.aQ T sz rows)] mv)(J:∀ w E β v,Sm w E β (bX k (.sl rows) s) v->R w E r v):aq P f ds r:=by
 refine⟨h.1,λw E vs L M=>?_⟩
 have O:ax E (.of w) (yW [] 0 0 []) (λ_=>.pointer none) vv w:=
  ⟨⟨λb Q hmay=>hmay.elim (λh=>by have:w.heap.size<=b:=h;have:=L.1 b Q;omega) (λh=>h),L.2.over (bh.dy λb h=>h.elim id False.elim)⟩,⟨nJ _,λ_ _ _=>rfl⟩,λ_=>rfl,rfl,rfl,cR.refl _,by simp[yW],by simp[yW],by simp[yW],by intro t s J;simp[yW,zc] at J⟩
 have G:bh w E w (Ex E (λ_=>Value.pointer none) []):=bh.dy λb Q=>Q.elim id λ⟨_,_,V,_⟩=>by cases V
 refine(h.2 E (.of w) _ w vs rfl O (zi.Z3 (zI.over G _ _ M))).mono λe w' X=>?_
 obtain⟨β',v,rfl,H,F,hs⟩:=X
 let fO:St:={n:=1,next:=nx,af:=[(0,s)],own:=[(k,.aQ T sz rows)],aA:=mv}
 have m1:ax E (.of w) fO β' {tmps:=#[v],defers:=[]} w':=by
  refine⟨H.bU,H.bI,H.cB,rfl,rfl,H.below,H.bB,H.own,H.apart,λt s' hs'=>?_⟩
  simp only[fO,zc] at hs';split at hs'
  .rename_i e;subst e;cases hs';exact⟨F,by simpa using hs⟩
  .cases hs'
 have m2:=m1.vP k
 have K:fO.ay k=some (.aQ T sz rows):=by simp[fO,St.ay,zc]
 unfold St.vP at m2
 rw[K] at m2
 have Y:=(m2.af 0 (bX k (.sl rows) s) (by simp[fO,ga,zc])).2
 have Z:R w' (Ex E β' (qw k (.sl rows) fO.own)) r v:=J _ _ _ _ (by simpa using Y)
 exact⟨v,rfl,H.below.below,Z.over (bh.dy λb Q=>Or.inl Q) _ _⟩
theorem IR{P:Program}{f:Nat}{ds:List D}{s:ah}{k T sz nx:Nat}{rows:List (List D)}{mv:List Nat}{x y:D}(h:aU P f (ds.map .d) [] 0 s nx [(k,.aQ T sz rows)] mv)(H:bX k (.sl rows) s = .bE [.d x,.d y]):aq P f ds (.bE [x,y]):=
 IQ h λw E β v hv=>by
  rw[H] at hv;simp only[Sm,zi] at hv;simp only[R,zI];simpa using hv
theorem zaa{P:Program}{f:Nat}{ds:List D}{s:ah}{k T sz nx:Nat}{rows:List (List D)}{mv:List Nat}{r:D}(h:aU P f (ds.map .d) [] 0 s nx [(k,.aQ T sz rows)] mv)(H:bX k (.sl rows) s = .d r):aq P f ds r:=
 IQ h λw E β v hv=>by
  rw[H] at hv;simpa only [Sm] using hv
def jP(d:Dc)(m:Int):List Int:=m::qQ (yX d.ae d.al.length m)
def YZ(d:Dc)(w:Int):List Int:=(yy d w 3).flatMap (jP d)
def X0(d:Dc)(w:Int)(n:Nt):Bool:=decide (n.id∈YZ d w)
def zK(d:Dc)(w:Int):List Nt:=d.ae.filter λn=>!X0 d w n
def xk(d:Dc)(w:Int):Dc:={d with ae:=zK d w}
theorem FZ{d:Dc}(h:b_ d){w r m:Int}(H:m∈yy d w r):∃ n∈d.ae,n.id=m/\n.aZ=zy d.al r/\n.aE=w:=by
 unfold yy zH yT at H
 obtain⟨n,G,rfl⟩:=nS.1 H
 have G:=oA.1 ((Y3 _).mem_iff.1 G)
 have F:=G.2
 unfold yS at F
 simp only[nI,nD] at F
 exact⟨n,G.1,rfl,F.1.1.1,F.1.1.2⟩
theorem IT{d:Dc}(h:b_ d){n:Nt}(H:n∈d.ae):(yX d.ae d.al.length n.id).length<=300:=by
 have:=(h.e_ n H).t0
 exact oC (zra h H (by omega)) h.cW
theorem zjz{d:Dc}(h:b_ d){w m:Int}(H:m∈yy d w 3):(jP d m).length<=301:=by
 obtain⟨n,G,rfl,_⟩:=FZ h H
 unfold jP
 rw[nP,FX]
 have:=IT h G
 omega
theorem IU{d:Dc}(h:b_ d){w:Int}:∀ l:List Int,(∀ m∈l,m∈yy d w 3)->(l.flatMap (jP d)).length<=301*l.length
 | [],_=>nJ _
 |m::l,H=>by
  have G:=zjz h (H m nL);have F:=IU h l λm E=>H m (nG _ E)
  simp only[pz,nO,nP];omega
abbrev Q7(l:List Int):List (List D):=l.map λn=>[int n]
theorem zgs{d:Dc}(H:d.ae.length<2^40)(G:d.al.length<2^40)(w:Int)(F:yl d=false):aq prog 22 [zn d,int w] (.bE [zn ⟨0,.empty,0,0,[],[],[]⟩,int 14]):=by
 refine aF func22 ?_
 have E:=YW d (by omega)
 rw[F] at E
 simp+decide[Tryz.f22,zn,Dc.row,int]
 refine zg E ?_
 simp+decide
 exact⟨rfl,rfl,rfl⟩
theorem zgt{d:Dc}(H:d.ae.length<2^40)(G:d.al.length<2^40)(w:Int)(F:yl d=true)(E:yB d w=false):aq prog 22 [zn d,int w] (.bE [zn ⟨0,.empty,0,0,[],[],[]⟩,int 9]):=by
 refine aF func22 ?_
 have K:=YW d (by omega)
 have J:=FP d w (by omega) (by omega)
 rw[F] at K
 rw[E] at J
 simp+decide[Tryz.f22,zn,Dc.row,int]
 refine zg K ?_
 simp+decide
 refine zg J ?_
 simp+decide[Nt.row,int]
 exact⟨rfl,rfl,rfl⟩
abbrev zeroCells:List ah:=[.d (int 0),.d (.str ⟨#[]⟩),.d (int 0),.d (int 0),.aW,.aW,.aW]
def xJ(d:Dc)(w:Int)(ks:List Int)(x:Nat×List Int):St:=
 {n:=67,next:=4,af:=[(1,.d (int w)),(2,.bp 0 0),(4,.bp 1 0),(8,.ar 3),(32,.d (aa ks)),(33,.d (int ks.length)),(34,.d (int x.1))],own:=[(0,.box 53 (zO d)),(1,.box 53 zeroCells),(3,.aQ 3 1 (Q7 x.2))],aA:=[3]}
def qR(d:Dc)(w:Int)(ks:List Int)(k:Nat)(G:List Int)(m:Int):St:=
 {xJ d w ks (k,G) with af:=(10,.d (int m))::(xJ d w ks (k,G)).af}
theorem IV{d:Dc}(h:b_ d)(w:Int)(hr:yl d=true)(hw:yB d w=true)(hc:Fw d):
  aU prog 22 [.d (zn d),.d (int w)] [] 0 (.bE [.agg [.d (int d.id),.d (.str d.name),.d (int d.len),.d (int d.iG),.d (aa d.fh),.d (zw d.al),.ar 4],.d (int 0)]) 6 [(4,.aQ 72 7 ((zK d w).map Nt.row))] [3,4]:=by
 have Q:=h.cW
 have T:=uf h
 have M:=YW d (by omega)
 have hg:=FP d w (by omega) (by omega)
 have V:=YU d (by omega)
 have hk:=YS d w (zy d.al 3) hc
 have Y:=XZ d w 3 hc
 rw[show zH (yT d w (zy d.al 3))=yy d w 3 from rfl] at hk
 rw[hr] at M
 rw[hw] at hg
 refine dd func22 (by simp[ah.a_,ah.lo]) ?_
 simp+decide[Tryz.f22,zn,Dc.row,int]
 refine zg M ?_
 simp+decide
 refine zg hg ?_
 simp+decide[Nt.row,int]
 refine bw V ?_
 simp+decide[ud,int]
 refine zfn (by rfl) (by rfl) hk ?_
 have hU:∀ m∈yy d w 3,aq prog 59 [zn d,int m] (aa (qQ (yX d.ae d.al.length m))):=by
  intro m hm;obtain⟨n,hn,e,_⟩:=FZ h hm;have:=(h.e_ n hn).t0
  have:=IT h hn
  rw[<-e];exact zoa d h (by omega) n hn _ (by omega) (by omega)
 have K:=λl hl=>IU h (w:=w) l hl
 have J:zK d w=d.ae.filter λn=>!decide (n.id∈(yy d w 3).flatMap (jP d)):=rfl
 generalize zK d w=C at J ⊢
 generalize yy d w 3=ks at Y hU K J
 simp+decide[aa]
 refine xP (λk:Nat=>xJ d w ks (k,(ks.take k).flatMap (jP d))) ks.length ?_ ?_
 .simp+decide[xJ,int,aa]
 intro k hk
 by_cases H:k<ks.length
 case neg=>
  obtain rfl:k=ks.length:=by omega
  rw[nH];refine cy ?_
  have Z:=K ks λm hm=>hm
  generalize ks.flatMap (jP d)=G at Z J;subst J;simp+decide[xJ,int,zq];refine xP (λk:Nat=>{n:=67,next:=5,af:=[(2,.bp 0 0),(4,.bp 1 0),(8,.ar 3),(11,.ar 4),(48,.d (zq d.ae)),(49,.d (int d.ae.length)),(50,.d (int k))],own:=[(0,.box 53 (zO d)),(1,.box 53 zeroCells),(3,.aQ 3 1 (Q7 G)),(4,.aQ 72 7 (((d.ae.take k).filter λn=>!decide (n.id∈G)).map Nt.row))],aA:=[3,4]}) d.ae.length ?_ ?_
  .simp+decide[int,zq]
  intro k hk;refine cy ?_
  by_cases H:k<d.ae.length
  case neg=>
   obtain rfl:k=d.ae.length:=by omega
   rw[nH];simp+decide[int,zq];exact rfl
  have E:=bG H;obtain⟨n,en,e1⟩:=bN H;have hH:=EF G n.id (by omega)
  have aI:(d.ae.take (k+1)).filter (λn=>!decide (n.id∈G))=(d.ae.take k).filter (λn=>!decide (n.id∈G))++(if n.id∈G then [] else [n]):=by
   rw[nX H,pm,en];by_cases e:n.id∈G <;> simp[e]
  have A:((d.ae.take k).filter λn=>!decide (n.id∈G)).length<=k:=oC (oz _ _) (by rw[nR];exact tM _ _)
  generalize (d.ae.take k).filter (λn=>!decide (n.id∈G))=F at aI A
  simp+decide[int,zq,Nt.row,H,E,en];refine zg hH ?_
  by_cases hg:n.id∈G
  .rw[gt hg,oq] at aI
   simp+decide[aB,hg];exact⟨by omega,k+1,H,by omega,by omega,by rw[aI]⟩
  .rw[ge hg] at aI
   simp+decide[int,aB,hg,maxLen];exact⟨by omega,by omega,by omega,k+1,H,by omega,by omega,by rw[aI];simp[Nt.row,int]⟩
 have E:=bG H
 obtain⟨m,em,em1⟩:=bN H
 have O:m∈ks:=by rw[<-em];exact nF H
 have aI:(ks.take (k+1)).flatMap (jP d)=(ks.take k).flatMap (jP d)++jP d m:=by
  rw[nX H,oW,em];simp
 have B:((ks.take k).flatMap (jP d)).length<=301*20:=by
  have:=K (ks.take k) λm hm=>oh hm
  rw[nR] at this;omega
 have L:=K [m] (by simpa using O)
 simp only[pz,List.flatMap_nil,oq,nP,pc] at L
 have I:=hU m O
 generalize (ks.take k).flatMap (jP d)=G at aI B
 refine jb mixed 2 (xJ d w ks (k,G)) rfl ?_ ?_
 .simp+decide[yo,xJ,int,aa,E]
 simp only[yK]
 refine JL (xJ d w ks (k,G++jP d m)) ?_ ?_
 .refine ZH (JL (qR d w ks k G m) ?_ ?_)
  .refine cy ?_
   simp+decide[xJ,qR,int,aa,H,E,em]
  .obtain⟨S,hS⟩:∃ S:St,S = {qR d w ks k G m with af:=(38,.ar 3)::(39,.d (int m))::(40,.d (.sl [[int m]]))::(42,.d (zn d))::(43,.d (int m))::(qR d w ks k G m).af}:=⟨_,rfl⟩
   refine E7 mixed 6 3 S ((S.aV 3 (.aQ 3 1 (Q7 (G++[m])))).put (some 41) (.ar 3)) 41 (.ar 3) (zA 3) (λst=>(st.aV 3 (.aQ 3 1 (Q7 (G++[m])))).put (some 41) (.ar 3)) _ (by rfl) (by rfl) (by rfl) (by rfl) (by rfl) rfl rfl rfl ?_ (An S 3 41 _) ?_ ?_ ?_
   .intro X w0 β a w hm
    subst hS;refine⟨rfl,rfl,rfl,rfl,rfl,λt s hs hj hL=>?_⟩
    simp only[zc] at hs;split at hs
    .rename_i e;exact(hL 0 _ (by omega) rfl (congrArg some e)).elim
    split at hs
    .rename_i e;exact(hL 1 _ (by omega) rfl (congrArg some e)).elim
    split at hs
    .rename_i e;exact(hL 2 _ (by omega) rfl (congrArg some e)).elim
    split at hs
    .rename_i e;exact(hL 4 _ (by omega) rfl (congrArg some e)).elim
    split at hs
    .rename_i e;exact(hL 5 _ (by omega) rfl (congrArg some e)).elim
    exact hs
   .intro i o hi H2 ho
    have:i=0\/i=1\/i=2\/i=4\/i=5:=by omega
    rcases this with rfl | rfl | rfl | rfl | rfl <;> simp only[td,pY,pB] at ho <;> subst ho
    .refine qY (s:=.ar 3) rfl rfl (by subst hS;simp[qR,xJ]) (by subst hS;simp[ah.lo,qR,xJ]) ⟨by rfl,?_⟩ (by subst hS;simp[zc]) (.inl ⟨5,by rfl⟩)
     subst hS;simp+decide[qR,xJ,zc,St.val]
    .refine qY (s:=.d (int m)) rfl rfl (by subst hS;simp[qR,xJ]) (by subst hS;simp[ah.lo]) ⟨by rfl,?_⟩ (by subst hS;simp[zc]) (.inl ⟨5,by rfl⟩)
     subst hS;simp+decide[qR,xJ,zc,St.val]
    .refine qY (s:=.d (.sl [[int m]])) rfl rfl (by subst hS;simp[qR,xJ]) (by subst hS;simp[ah.lo]) ⟨by rfl,?_⟩ (by subst hS;simp[zc]) (.inl ⟨5,by rfl⟩)
     subst hS;simp+decide[qR,xJ,zc,St.val,int]
    .refine qY (s:=.d (zn d)) rfl rfl (by subst hS;simp[qR,xJ]) (by subst hS;simp[ah.lo]) ⟨by rfl,?_⟩ (by subst hS;simp[zc]) (.inr ⟨by subst hS;simp[St.put,St.aV,qR,xJ],by subst hS;simp[ah.lo],⟨by rfl,?_⟩,by subst hS;simp[zc,St.put,St.aV,xu,zA,qR,xJ]⟩)
     .subst hS;simp+decide[qR,xJ,zc,St.val,St.ay,zn,Dc.row]
     .subst hS;simp+decide[qR,xJ,zc,St.val,St.ay,St.put,St.aV,qf,qx,yI,zA,xu,zn,Dc.row]
    .refine qY (s:=.d (int m)) rfl rfl (by subst hS;simp[qR,xJ]) (by subst hS;simp[ah.lo]) ⟨by rfl,?_⟩ (by subst hS;simp[zc]) (.inr ⟨by subst hS;simp[St.put,St.aV,qR,xJ],by subst hS;simp[ah.lo],⟨by rfl,?_⟩,by subst hS;simp[zc,St.put,St.aV,xu,zA,qR,xJ]⟩)
     .subst hS;simp+decide[qR,xJ,zc,St.val]
     .subst hS;simp+decide[qR,xJ,zc,St.val,St.put,St.aV,zA,xu]
   .intro X w0 L' st hN hk β a w hm
    have N:zc st.af 38=some (.ar 3):=hk 38 (by simp[aX,Op.operands,Call.operands]) (.ar 3) (by subst hS;simp[zc]) (by simp)
    have P:zc st.af 40=some (.d (.sl [[int m]])):=hk 40 (by simp[aX,Op.operands,Call.operands]) (.d (.sl [[int m]])) (by subst hS;simp[zc]) (by simp)
    have W:zc st.own 3=some (.aQ 3 1 (Q7 G)):=by rw[hN.own];subst hS;simp[qR,xJ,zc]
    have H0:st.n=67:=by rw[hN.n];subst hS;rfl
    refine wi hm ?_
    simp+decide[yz,H0,N,P,W,int,maxLen];exact⟨by omega,by omega,rfl⟩
   .refine V7 (by simp) rfl (λi h1 h2=>?_) ?_
    .have:i=7\/i=8:=by simp at h2;omega
     rcases this with rfl | rfl <;> rfl
    subst hS;simp+decide[qR,xJ,int];refine zg I ?_
    have H1:jP d m=m::qQ (yX d.ae d.al.length m):=rfl
    rw[H1] at L ⊢;rw[nP] at L;generalize qQ (yX d.ae d.al.length m)=R at *;simp+decide[int,aa,maxLen];exact⟨by omega,by omega⟩
 .refine cy ?_
  simp+decide[xJ,int,aa,aB];exact⟨by omega,k+1,H,by omega,by omega,by rw[aI];simp[int]⟩
theorem zob{d:Dc}(h:b_ d)(w:Int)(H:yl d=true)(G:yB d w=true)(F:Fw d):
  aq prog 22 [zn d,int w] (.bE [zn (xk d w),int 0]):=
 IR (ds:=[zn d,int w]) (IV h w H G F) (by simp[bX,xZ,wZ,zn,Dc.row,xk,zq])
theorem IW{P:Program}{c:Code}{Q:DE->St->Prop}{st:St}{id T:Nat}(e sz:Nat){bJ post:List ah}(h:st.ay id=some (.box T (bJ ++ .aW::post)))(L:aT P c Q {st.new (.aQ e sz []) with own:=zT id (.box T (bJ ++ .ar st.next::post)) (st.new (.aQ e sz [])).own}):aT P c Q st:=by
 intro X w0 β a w M
 refine L X w0 (λi=>if i=st.next then .slice none 0 0 else β i) a w ?_
 have G:=M.Xn e sz
 obtain⟨cq,J,b,vs,O,V,Y,hs,Z⟩:=M.dm h
 have F:¬st.next=id:=by omega
 have K:¬id=st.next:=by omega
 have A:(st.new (.aQ e sz [])).ay id=some (.box T (bJ ++ .aW::post)):=by simp only[St.ay,St.new,zc,ge F];exact h
 have H:=(G.dm A).2.1
 obtain⟨b2,vs2,g1,gN,gh,gs,go⟩:=(G.dm A).2.2
 have lo2:∀ (l m:List ah) (n:Nat),ah.a_ n (l ++ .aW::m)->∀ s,ah.lo n s->ah.a_ n (l++s::m):=by
  intro l;induction l with
  |nil=>intro m n h s hs;simp only[oP,ah.a_] at h ⊢;exact⟨hs,h.2⟩
  |cons a l ih=>intro m n h s hs;simp only[nV,ah.a_] at h ⊢;exact⟨h.1,ih m n h.2 s hs⟩
 have sm2:∀ (l m:List ah) (vs:List Value) (E:Nat->Prop) (β':Nat->Value) (i:Nat),β' i = .slice none 0 0->zi w E β' (l ++ .aW::m) vs->zi w E β' (l ++ .ar i::m) vs:=by
  intro l;induction l with
  |nil=>
   intro m vs E β' i hi h;simp only[oP,zi] at h ⊢;obtain⟨v,r,rfl,O,B⟩:=h;exact⟨v,r,rfl,by simp only[Sm] at O ⊢;rw[O,hi],B⟩
  |cons a l ih=>
   intro m vs E β' i hi h;simp only[nV,zi] at h ⊢;obtain⟨v,r,rfl,O,B⟩:=h;exact⟨v,r,rfl,O,ih m r E β' i hi B⟩
 refine G.db A (b:=b2) (by have e:=congrArg bP g1;exact e) gN (λ_ _=>rfl) rfl rfl rfl rfl (jv.refl _) ?_ ?_
 .simp only[am.lo] at H ⊢
  exact lo2 _ _ _ H _ (by simp[ah.lo,St.new])
 .exact⟨b2,vs2,g1,gN,gh,sm2 _ _ _ _ _ _ (by simp) gs,go⟩
def ug(d:Dc)(w:Int)(c:Nt):Bool:=decide (c.aZ=zy d.al 3)&&decide (c.aE=w)
def uh(d:Dc)(w:Int)(id:Int):Bool:=(bH d (zp d.ae id)).any (ug d w)
theorem zoc{d:Dc}(h:b_ d)(w id:Int):aq prog 61 [zn d,int w,int id] (.bool (uh d w id)):=by
 have O:=h.cW
 have Q:=uf h
 have X:=zdw d h id
 have Y:=gJ d 3 (by omega)
 have T:∀ c∈bH d (zp d.ae id),c∈d.ae:=by
  intro c Z;unfold bH at Z;split at Z
  .rename_i A;exact WO h (u7 A).1 Z
  .cases Z
 have V:(bH d (zp d.ae id)).length<=21:=by
  unfold bH;split
  .rename_i A
   have B:=(u7 A).1;have:=(VH h _ _ B (nJ _)).2
   have:=(h.e_ _ B).t1
   have:=(h.e_ _ B).t0
   omega
  .simp
 unfold uh
 generalize bH d (zp d.ae id)=CH at *
 refine aF func61 ?_
 simp+decide[f61,zn,Dc.row,int]
 refine zg X ?_
 simp+decide
 refine qg (λk:Nat=>{n:=40,next:=1,af:=[(1,.d (int w)),(3,.bp 0 0),(7,.d (aa (zH CH))),(8,.d (int k))],own:=[(0,.box 53 (zO d))]})
  (λk=>k<=CH.length/\(CH.take k).any (ug d w)=false) (λk=>CH.length-k) 0 ⟨nU _,by simp⟩ ?_ ?_
 .simp+decide[int,aa]
 rintro k ⟨C,I⟩
 refine cy ?_
 have F:(zH CH).length=CH.length:=by simp[zH]
 by_cases H:k<CH.length
 case neg=>
  obtain rfl:k=CH.length:=by omega
  rw[nH] at I;rw[I];simp+decide[int,aa,F]
 have G:=bG H
 obtain⟨c,ec⟩:∃ c,CH[k]=c:=⟨_,rfl⟩
 have M:=T CH[k] (nF H)
 rw[ec] at M
 have E:(zH CH)[k]?=some c.id:=by simp[zH,ac H,ec]
 have K:k<(zH CH).length:=by omega
 have J:(zH CH)[k]=c.id:=ph (by rw[<-ac K];exact E)
 have N:=jL d c.id (by omega)
 rw[ua h M] at N
 simp+decide[int,aa,F,G]
 refine kh 12 [] ?_
 simp+decide[int,aa,F,H,G,J]
 refine bw N ?_
 simp+decide[cb,Nt.row,int]
 refine⟨by rfl,?_⟩
 have aI:(CH.take (k+1)).any (ug d w)=ug d w c:=by
  rw[nX H,ta,I,ec];simp
 have L:ug d w c=true->CH.any (ug d w)=true:=λe=>n_.2 ⟨c,by rw[<-ec];exact nF H,e⟩
 refine bw Y ?_
 by_cases c1:c.aZ=zy d.al 3
 .by_cases c2:c.aE=w
  .rw[L (by simp[ug,c1,c2])]
   simp+decide[int,c1,c2]
  .have A:ug d w c=false:=by simp[ug,c2]
   rw[A] at aI;simp+decide[int,c1,c2,aB];exact⟨by omega,k+1,⟨H,λx P=>by have:=oB.1 aI x P;simpa using this⟩,by omega,by omega⟩
 .have A:ug d w c=false:=by simp[ug,c1]
  rw[A] at aI;simp+decide[int,c1,aB];exact⟨by omega,k+1,⟨H,λx P=>by have:=oB.1 aI x P;simpa using this⟩,by omega,by omega⟩
def VP(d:Dc)(w:Int):List Nt:=d.ae.filter λn=>!uh d w n.id
theorem za8{d:Dc}(H:d.ae.length<2^40)(G:d.al.length<2^40)(w:Int)(F:yl d=false):aq prog 23 [zn d,int w] (.bE [zn ⟨0,.empty,0,0,[],[],[]⟩,int 14]):=by
 refine aF func23 ?_
 have E:=VE d (by omega)
 rw[F] at E
 simp+decide[Tryz.f23,zn,Dc.row,int]
 refine zg E ?_
 simp+decide
 exact⟨rfl,rfl,rfl⟩
theorem za9{d:Dc}(H:d.ae.length<2^40)(G:d.al.length<2^40)(w:Int)(F:yl d=true)(E:yB d w=false):aq prog 23 [zn d,int w] (.bE [zn ⟨0,.empty,0,0,[],[],[]⟩,int 9]):=by
 refine aF func23 ?_
 have K:=VE d (by omega)
 have J:=FO d w (by omega) (by omega)
 rw[F] at K
 rw[E] at J
 simp+decide[Tryz.f23,zn,Dc.row,int]
 refine zg K ?_
 simp+decide
 refine zg J ?_
 simp+decide
 exact⟨rfl,rfl,rfl⟩
theorem zcb{d:Dc}(h:b_ d)(w:Int)(M:yl d=true)(O:yB d w=true):
  aU prog 23 [.d (zn d),.d (int w)] [] 0 (.bE [.agg [.d (int d.id),.d (.str d.name),.d (int d.len),.d (int d.iG),.d (aa d.fh),.d (zw d.al),.ar 3],.d (int 0)]) 6 [(3,.aQ 72 7 ((VP d w).map Nt.row))] [3]:=by
 have K:=h.cW
 have J:=uf h
 have E:=VE d (by omega)
 have Q:=FO d w (by omega) (by omega)
 rw[M] at E
 rw[O] at Q
 refine dd func23 (by simp[ah.a_,ah.lo]) ?_
 simp+decide[Tryz.f23,zn,Dc.row,int]
 refine zg E ?_
 simp+decide
 refine zg Q ?_
 simp+decide[zw]
 refine IW (id:=2) (T:=53) 72 7 (bJ:=[.d (int d.id),.d (.str d.name),.d (int d.len),.d (int d.iG),.d (aa d.fh),.d (zw d.al)]) (post:=[]) rfl ?_
 unfold VP
 refine xP (λk:Nat=>{n:=50,next:=4,af:=[(1,.d (int w)),(2,.bp 0 0),(4,.bp 1 0),(6,.bp 2 0),(7,.d (int k))],own:=[(0,.box 53 (zO d)),(1,.box 53 zeroCells),(2,.box 53 [.d (int d.id),.d (.str d.name),.d (int d.len),.d (int d.iG),.d (aa d.fh),.d (zw d.al),.ar 3]),(3,.aQ 72 7 (((d.ae.take k).filter λn=>!uh d w n.id).map Nt.row))],aA:=[3]}) d.ae.length ?_ ?_
 .simp+decide[int,zw]
 intro k V
 refine cy ?_
 by_cases H:k<d.ae.length
 case neg=>
  obtain rfl:k=d.ae.length:=by omega
  rw[nH];simp+decide[int,zq];exact rfl
 have G:=bG H
 obtain⟨n,en,e1⟩:=bN H
 have X:=zoc h w n.id
 have aI:(d.ae.take (k+1)).filter (λn=>!uh d w n.id)=(d.ae.take k).filter (λn=>!uh d w n.id)++(if uh d w n.id=true then [] else [n]):=by
  rw[nX H,pm,en];by_cases e:uh d w n.id=true <;> simp[e]
 have L:((d.ae.take k).filter λn=>!uh d w n.id).length<=k:=oC (oz _ _) (by rw[nR];exact tM _ _)
 generalize Y:(d.ae.take k).filter (λn=>!uh d w n.id)=F at aI L
 simp+decide[int,zq,Nt.row,H,G,en]
 refine bw X ?_
 by_cases Q:uh d w n.id=true
 .rw[gt Q,oq] at aI
  rw[Q];simp+decide[aB];exact⟨by omega,k+1,H,by omega,by omega,by rw[aI]⟩
 .rw[ge Q] at aI
  rw[pW] at Q;rw[Q];simp+decide
  refine jH 8 ?_
  simp+decide[int,zq,Nt.row,H,G,en,aB,maxLen];exact⟨by omega,by omega,by omega,k+1,H,by omega,by omega,by rw[aI];simp[Nt.row,int]⟩
theorem zd3{d:Dc}(h:b_ d)(w:Int)(H:yl d=true)(G:yB d w=true):
  aq prog 23 [zn d,int w] (.bE [zn {d with ae:=VP d w},int 0]):=
 IR (ds:=[zn d,int w]) (zcb h w H G) (by simp[bX,xZ,wZ,zn,Dc.row,zq])
theorem gU{a b:Dc}:a=b↔a.id=b.id/\a.name=b.name/\a.len=b.len/\a.iG=b.iG/\a.fh=b.fh/\a.al=b.al/\a.ae=b.ae:=by cases a;cases b;simp
theorem zgu(a b:Dc)(F:b.iZ):aq prog 24 [zn a,zn b] (.bool (decide (a=b))):=by
 obtain⟨f1,f2,f3⟩:=F
 refine aF func24 ?_
 simp+decide[Tryz.f24,zn,Dc.row]
 refine kh 8 [] ?_
 simp+decide[int]
 refine⟨by rfl,?_⟩
 by_cases E:a.id=b.id
 case neg=>simp+decide[E,gU]
 by_cases K:a.name=b.name
 case neg=>simp+decide[E,K,gU]
 by_cases J:a.len=b.len
 case neg=>simp+decide[E,K,J,gU]
 by_cases L:a.iG=b.iG
 case neg=>simp+decide[E,K,J,L,gU]
 simp+decide[E,K,J,L]
 refine zg (zq0 a.fh b.fh (by omega)) ?_
 by_cases M:a.fh=b.fh
 case neg=>simp+decide[M,gU]
 by_cases l2:a.al.length=b.al.length
 case neg=>
  have:¬a.al=b.al:=λe=>l2 (by rw[e])
  have l2':¬(a.al.length:Int)=b.al.length:=by omega
  simp+decide[M,gU,this,l2',zw,zq]
 by_cases l3:a.ae.length=b.ae.length
 case neg=>
  have:¬a.ae=b.ae:=λe=>l3 (by rw[e])
  have l3':¬(a.ae.length:Int)=b.ae.length:=by omega
  simp+decide[M,gU,this,l2,l3',zw,zq]
 simp+decide[M,l2,l3,zw,zq]
 refine cl (λk:Nat=>{n:=99,next:=2,af:=[(2,.bp 0 0),(3,.bp 1 0),(7,.d (.int .i64 k))],own:=[(0,.box 53 (zO a)),(1,.box 53 (zO b))]})
  (λk=>k<=a.al.length/\a.al.take k=b.al.take k) (λk=>a.al.length-k) 0 (by simp) (by simp+decide[zw,zq,M,E,K,J,L,int]) ?_
 intro k ⟨O,Q⟩
 by_cases G:k<a.al.length
 .have e1:a.al[k]?=some a.al[k]:=ac G
  have e2:b.al[k]?=some (b.al[k]'(by omega)):=ac (by omega)
  have H:k<b.al.length:=by omega
  simp+decide[zw,cD.row,int,G,H,aB];refine⟨λhne e=>?_,λg1 g2 g3 g4=>⟨by omega,k+1,⟨G,?_⟩,by omega,by omega⟩⟩
  .rw[gU] at e
   obtain⟨_,_,_,_,_,e,_⟩:=e;simp[e] at hne
  .have T:a.al[k]=b.al[k]:=by
    rcases V:a.al[k] with⟨x1,x2,x3,x4⟩;rcases X:b.al[k] with⟨y1,y2,y3,y4⟩;rw[V,X] at g1 g2 g3 g4;simp only at g1 g2 g3 g4
    rw[g1,g2,g3,g4]
   rw[bq G,bq H,Q,T]
 .obtain rfl:k=a.al.length:=by omega
  have Y:a.al=b.al:=by rw[nH,l2,nH] at Q;exact Q
  simp+decide[zw,zq];refine cl (λk:Nat=>{n:=99,next:=2,af:=[(2,.bp 0 0),(3,.bp 1 0),(8,.d (.int .i64 k))],own:=[(0,.box 53 (zO a)),(1,.box 53 (zO b))]})
   (λk=>k<=a.ae.length/\a.ae.take k=b.ae.take k) (λk=>a.ae.length-k) 0 (by simp) (by simp+decide) ?_
  intro k ⟨O,Q⟩;by_cases G:k<a.ae.length
  .have e1:a.ae[k]?=some a.ae[k]:=ac G
   have e2:b.ae[k]?=some (b.ae[k]'(by omega)):=ac (by omega)
   have H:k<b.ae.length:=by omega
   simp+decide[zq,Nt.row,int,G,H,aB];refine⟨λhne e=>?_,λg1 g2 g3 g4 g5 g6 g7=>⟨by omega,k+1,⟨G,?_⟩,by omega,by omega⟩⟩
   .rw[gU] at e
    obtain⟨_,_,_,_,_,_,e⟩:=e;simp[e] at hne
   .have T:a.ae[k]=b.ae[k]:=by
     rcases V:a.ae[k] with⟨x1,x2,x3,x4,x5,x6,x7⟩;rcases X:b.ae[k] with⟨y1,y2,y3,y4,y5,y6,y7⟩;rw[V,X] at g1 g2 g3 g4 g5 g6 g7;simp only at g1 g2 g3 g4 g5 g6 g7
     rw[g1,g2,g3,g4,g5,g6,g7]
    rw[bq G,bq H,Q,T]
  .obtain rfl:k=a.ae.length:=by omega
   have Z:a.ae=b.ae:=by rw[nH,l3,nH] at Q;exact Q
   simp+decide[zq,gU,M,E,K,J,L,Y,Z]
theorem zj0{d:Dc}(h:b_ d){w r:Int}{c:Nt}(H:c∈d.ae)(G:c.aZ=zy d.al r)(F:c.aE=w):c.id∈yy d w r:=by
 unfold yy zH yT
 refine nS.2 ⟨c,(Y3 _).mem_iff.2 (oA.2 ⟨H,?_⟩),rfl⟩
 have t0:=(h.e_ c H).t0
 have t1:=(h.e_ c H).t1
 rw[G] at t0 t1
 simp[yS,G,F,t0,t1]
theorem Y7{d:Dc}(h:b_ d){w:Int}{n:Nt}(E:n∈d.ae):n.id∈YZ d w↔∃ c∈qG d n,c.aZ=zy d.al 3/\c.aE=w:=by
 unfold YZ
 rw[po]
 constructor
 .rintro⟨m,K,J⟩
  obtain⟨c,L,rfl,q1,q2⟩:=FZ h K;have t0:=(h.e_ c L).t0;refine⟨c,?_,q1,q2⟩
  unfold jP at J;rcases nE.1 J with e | J
  .obtain rfl:=VA h E L e
   exact VI h E
  .have J:=(VM _).mem_iff.1 J
   obtain⟨m',G,e,F⟩:=(VK h d.al.length c L (by omega) n.id).1 J
   obtain rfl:=VA h G E e;rw[(xB h G).1];exact nG _ F
 .rintro⟨c,L,q1,q2⟩
  have H:=WO h E L;have t0:=(h.e_ c H).t0;refine⟨c.id,zj0 h H q1 q2,?_⟩
  unfold jP;rw[(xB h E).1] at L;rcases nE.1 L with rfl | L
  .exact nL
  .exact nG _ ((VM _).mem_iff.2 ((VK h d.al.length c H (by omega) n.id).2 ⟨n,E,rfl,L⟩))
theorem zod{d:Dc}(h:b_ d)(w:Int):VP d w=zK d w:=by
 unfold VP zK
 refine List.filter_congr λn H=>?_
 congr 1
 unfold uh X0
 rw[ua h H,AT,n_,nD,Y7 h H]
 unfold bH ug
 simp only[oV,nI,nD]
def vd:Dc:=⟨0,.empty,0,0,[],[],[]⟩
def qc(d:Dc)(w:Int):Dc×Int:=if yl d=false then (vd,14) else if yB d w=false then (vd,9) else (xk d w,0)
theorem IX{d:Dc}(h:b_ d)(w:Int)(H:Fw d):aq prog 22 [zn d,int w] (.bE [zn (qc d w).1,int (qc d w).2]):=by
 have:=h.cW
 have:=uf h
 unfold qc
 cases G:yl d with
 |false=>rw[gt rfl];exact zgs (by omega) (by omega) w G
 |true=>
  rw[ge (by decide)]
  cases F:yB d w with
  |false=>rw[gt rfl];exact zgt (by omega) (by omega) w G F
  |true=>rw[ge (by decide)];exact zob h w G F H
theorem D1{d:Dc}(h:b_ d)(w:Int):aq prog 23 [zn d,int w] (.bE [zn (qc d w).1,int (qc d w).2]):=by
 have:=h.cW
 have:=uf h
 unfold qc
 cases H:yl d with
 |false=>rw[gt rfl];exact za8 (by omega) (by omega) w H
 |true=>
  rw[ge (by decide)]
  cases G:yB d w with
  |false=>rw[gt rfl];exact za9 (by omega) (by omega) w H G
  |true=>
   rw[ge (by decide)]
   have:=zd3 h w H G
   rw[zod h] at this;exact this
end Go.V.Doc
namespace Go.V.Doc
open Go Go.Proofs Go.Sort Go.RowKit Tryz
section
variable [Dr]
def X1(a b:Nt):Int:=qh a.id b.id
theorem zoe(a b:Nt):aq prog 66 [.agg a.row,.agg b.row] (int (X1 a b)):=by
 refine aF func66 ?_
 simp+decide[f66,Nt.row,int]
 refine zg (ZP a.id b.id) ?_
 simp+decide[X1,int]
theorem zrg{bP off size:Nat}{w:World}{E:Nat->Prop}(H:fp w E)(G:E bP):Go.Proofs.CmpLays prog 66 #[] Nt.cv 7 X1 bP off size w:=by
 let d:Dr:=⟨true⟩
 exact @Rh d _ _ _ _ _ _ _ rfl _ _ ZV (λx y=>@zoe d x y) _ _ _ _ _ H G
end
def uP:Nt->Nt->Bool:=ltOf X1
theorem zj1:∀ args w,(callFunc 66 args).run prog w = .ok (.enter 66 args) w:=enters_of func66 (by kernel_rfl) rfl
end Go.V.Doc

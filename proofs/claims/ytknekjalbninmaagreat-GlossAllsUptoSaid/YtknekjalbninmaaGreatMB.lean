/- Contracts and plain laws of this seat: part MB. It needs no conditions. -/
import Derived.Test.YtknekjalbninmaaGreatMA
import Derived.Test.YtknekjalbninmaaGreatU0
import Derived.Test.YtknekjalbninmaaGreatX9
import Derived.Test.YtknekjalbninmaaGreatProg
import Derived.KernelRfl
import Derived.Test.YtknekjalbninmaaGreatSh
import Derived.Test.YtknekjalbninmaaGreatSq
set_option linter.all false
set_option maxHeartbeats 32000000
set_option maxRecDepth 100000
namespace Go.V.Doc
open Go Go.Proofs Tryz
def zR(k:Int):Bool:=decide (k=0) || decide (k=1) || decide (k=2)
def Vn(l:List cD)(i:Int):Bool:=decide (0<=i)&&decide (i<l.length)&&zR (l[i.toNat]?.getD default).kind
def YN(l:List cD)(name:ByteArray):Bool:=l.any λt=>decide (t.name=name)
def gy(l:List cD)(bV:Int):Bool:=!decide (bV=0)&&l.any λt=>decide (t.bV=bV)
def gA(pr tk tr:Int):Int:=
 if tr=1 then (if tk=0 then 0 else 14) else if tr=2 then (if pr=1 then 0 else 13) else if tr=3 then (if tk=3 then (if pr=2 then 0 else 13) else 14)
 else if tr=4 then (if tk=4 then (if pr=3 then 0 else 13) else 14) else if tr=5 then (if tk=4 then (if pr=1 then 0 else 13) else 14) else 0
def qM(di:List cD)(t:cD):Int:=
 if fc t.name=false then 7 else if YN di t.name=true then 8 else if t.kind<0\/4<t.kind then 14 else if t.bV<0\/5<t.bV then 2
 else if gy di t.bV=true then 8 else if t.kind=0 then (if t.aE = -1 then gA (-1) t.kind t.bV else 13)
 else if t.aE<0\/di.length<=t.aE then 13
 else if zR t.kind=true/\zR (di[t.aE.toNat]?.getD default).kind=false then 13 else gA (di[t.aE.toNat]?.getD default).bV t.kind t.bV
def ZW(l:List cD):Nat->Nat->Int
 |0,_=>0
 |n+1,i=>if h:i<l.length then (if qM (l.take i) l[i]=0 then ZW l n (i+1) else qM (l.take i) l[i]) else 0
def ku(l:List cD):Int:=if 12<l.length then 11 else ZW l l.length 0
theorem ZX(k:Int):aq prog 189 [int k] (.bool (zR k)):=by
 refine aF func189 ?_
 by_cases H:k=0
 .subst H;simp+decide[Tryz.f189,int,zR]
 by_cases G:k=1
 .subst G;simp+decide[Tryz.f189,int,zR]
 by_cases F:k=2
 .subst F;simp+decide[Tryz.f189,int,zR]
 simp+decide[Tryz.f189,int,zR,H,G,F]
def gB(r:Int):Int:=if r=1 then 0 else if r=3 then 3 else if r=4 then 4 else if r=5 then 4 else -1
def fb(r:Int):Int:=if r=2 then 1 else if r=5 then 1 else if r=3 then 2 else if r=4 then 3 else -1
theorem znl(r:Int):aq prog 190 [int r] (int (gB r)):=by
 refine aF func190 ?_
 by_cases H:r=1
 .subst H;simp+decide[f190,int,gB]
 by_cases G:r=3
 .subst G;simp+decide[f190,int,gB]
 by_cases F:r=4
 .subst F;simp+decide[f190,int,gB]
 by_cases E:r=5
 .subst E;simp+decide[f190,int,gB]
 simp+decide[f190,int,gB,H,G,F,E]
theorem znm(r:Int):aq prog 191 [int r] (int (fb r)):=by
 refine aF func191 ?_
 by_cases H:r=2
 .subst H;simp+decide[f191,int,fb]
 by_cases G:r=5
 .subst G;simp+decide[f191,int,fb]
 by_cases F:r=3
 .subst F;simp+decide[f191,int,fb]
 by_cases E:r=4
 .subst E;simp+decide[f191,int,fb]
 simp+decide[f191,int,fb,H,G,F,E]
theorem GN{α:Type}{l:List α}{p:α->Bool}{k:Nat}(h:k<l.length):(l.take (k+1)).any p=((l.take k).any p || p l[k]):=by
 rw[nX h,ta];simp
theorem znn{pr tk tr:Int}(h:0<=tr/\tr<=5):gA pr tk tr=if 0<=gB tr/\¬tk=gB tr then 14 else if 0<=fb tr/\¬pr=fb tr then 13 else 0:=by
 rcases(by omega:tr=0\/tr=1\/tr=2\/tr=3\/tr=4\/tr=5) with rfl | rfl | rfl | rfl | rfl | rfl <;> simp[gA,gB,fb] <;> (repeat' split) <;> simp_all
theorem zf7(l:List cD)(i:Nat)(hi:i<l.length)(Y:l.length<2^62)(hs:∀ t∈l,t.name.size<=9223372036854775807):aq prog 131 [zw l,int i] (int (qM (l.take i) l[i])):=by
 refine aF func131 ?_
 have V:(i:Int)<l.length:=by omega
 have ei:l[i]?=some l[i]:=ac hi
 have F:(l.take i).length=i:=by rw[nR];omega
 have Q:=hs _ (nF hi)
 obtain⟨t,et⟩:∃ t,l[i]=t:=⟨_,rfl⟩
 rw[et] at Q ei ⊢
 obtain⟨nm,kd,rl,pr⟩:=t
 simp+decide[f131,zw,cD.row,int,ei,et,hi,V]
 refine zg (H9 nm Q) ?_
 by_cases Z:fc nm=true
 case neg=>simp+decide[Z,qM,int]
 simp+decide[Z,int]
 refine cl (λk:Nat=>{n:=136,next:=1,af:=[(0,.d (zw l)),(1,.d (int i)),(4,.d (int 0)),(5,.bp 0 0),(6,.d (.int .i64 k))],own:=[(0,.box 74 [.d (.str nm),.d (int kd),.d (int rl),.d (int pr)])]})
  (λk=>k<=i/\YN (l.take k) nm=false) (λk=>i-k) 0 (by simp[YN]) (by simp+decide[zw,int]) ?_
 rintro k ⟨A,B⟩
 by_cases X:k<i
 .have H:(k:Int)<i:=by omega
  have L:k<l.length:=by omega
  have E:(k:Int)<l.length:=by omega
  have e1:l[k]?=some l[k]:=ac L
  have M:YN (l.take (k+1)) nm=decide (l[k].name=nm):=by unfold YN at B ⊢;rw[GN L,B,rk]
  by_cases C:l[k].name=nm
  .have I:YN (l.take i) nm=true:=by
    unfold YN;rw[n_];exact⟨l[k],by rw[oG];exact⟨k,by omega,rfl⟩,by simp[C]⟩
   simp+decide[zw,cD.row,int,e1,L,E,H,C,qM,Z,I]
  .simp+decide[zw,cD.row,int,e1,L,E,H,C,aB]
   exact⟨by omega,k+1,⟨by omega,by rw[M];simp[C]⟩,by omega,by omega⟩
 obtain rfl:k=i:=by omega
 by_cases k1:kd<0
 .simp+decide[int,zw,k1,qM,Z,B]
 by_cases k2:4<kd
 .simp+decide[int,zw,k1,k2,qM,Z,B]
 by_cases r1:rl<0
 .simp+decide[int,zw,k1,k2,r1,qM,Z,B]
 by_cases r2:5<rl
 .simp+decide[int,zw,k1,k2,r1,r2,qM,Z,B]
 simp+decide[int,zw,k1,k2,r1,r2]
 refine cl (λj:Nat=>{n:=136,next:=1,af:=[(0,.d (zw l)),(1,.d (int k)),(4,.d (int 0)),(5,.bp 0 0),(7,.d (.int .i64 j))],own:=[(0,.box 74 [.d (.str nm),.d (int kd),.d (int rl),.d (int pr)])]})
  (λj=>j<=k/\gy (l.take j) rl=false) (λj=>k-j) 0 (by simp[gy]) (by simp+decide[zw,int]) ?_
 rintro j ⟨hj,N⟩
 by_cases X:j<k
 .have H:(j:Int)<k:=by omega
  have J:j<l.length:=by omega
  have G:(j:Int)<l.length:=by omega
  have e1:l[j]?=some l[j]:=ac J
  by_cases z:rl=0
  .subst z
   simp+decide[zw,cD.row,int,e1,J,G,H,aB];exact⟨by omega,j+1,⟨by omega,by simp[gy]⟩,by omega,by omega⟩
  have M:gy (l.take (j+1)) rl=decide (l[j].bV=rl):=by
   unfold gy at N ⊢;simp only[z,tS,sO,pK] at N ⊢;rw[GN J,N,rk]
  by_cases C:l[j].bV=rl
  .have I:gy (l.take k) rl=true:=by
    unfold gy;simp only[z,tS,sO,pK];rw[n_];exact⟨l[j],by rw[oG];exact⟨j,by omega,rfl⟩,by simp[C]⟩
   simp+decide[zw,cD.row,int,e1,J,G,H,C,qM,Z,B,I,k1,k2,r1,r2,z]
  .simp+decide[zw,cD.row,int,e1,J,G,H,C,aB,z]
   exact⟨by omega,j+1,⟨by omega,by rw[M];simp[C]⟩,by omega,by omega⟩
 obtain rfl:j=k:=by omega
 have P:qM (l.take j) ⟨nm,kd,rl,pr⟩=if kd=0 then (if pr = -1 then gA (-1) kd rl else 13) else if pr<0\/(j:Int)<=pr then 13 else if zR kd=true/\zR ((l.take j)[pr.toNat]?.getD default).kind=false then 13 else gA ((l.take j)[pr.toNat]?.getD default).bV kd rl:=by
  simp only[qM];rw[ge (by simp[Z]),ge (by simp[B]),ge (by omega),ge (by omega),ge (by simp[N]),F]
 rw[P]
 simp only[znn (show 0<=rl/\rl<=5 by omega)]
 clear P B N Z F
 have S:=znl rl
 have W:=znm rl
 generalize gB rl=K at S ⊢
 generalize fb rl=O at W ⊢
 by_cases k0:kd=0
 .subst k0
  by_cases p0:pr = -1
  case neg=>simp+decide[int,zw,cD.row,p0]
  subst p0;have g4:0<=O->¬ -1=O:=by omega
  by_cases g2:0=K
  .subst g2
   by_cases g3:0<=O <;> (repeat first | refine bw S ?_ | refine bw W ?_ | refine bw (ZX _) ?_ | refine zg (ZX _) ?_ | simp+decide[int,zw,cD.row,g3,g4])
  by_cases g1:0<=K <;> by_cases g3:0<=O <;> (repeat first | refine bw S ?_ | refine bw W ?_ | refine bw (ZX _) ?_ | refine zg (ZX _) ?_ | simp+decide[int,zw,cD.row,g1,g2,g3,g4])
 by_cases p0:pr<0
 .simp+decide[int,zw,cD.row,k0,p0]
 by_cases p1:(j:Int)<=pr
 .simp+decide[int,zw,cD.row,k0,p0,p1]
 obtain⟨q,rfl⟩:∃ q:Nat,pr=q:=⟨pr.toNat,by omega⟩
 have C:q<l.length:=by omega
 have T:(q:Int)<l.length:=by omega
 obtain⟨u,eu'⟩:∃ u,l[q]=u:=⟨_,rfl⟩
 have eu:l[q]?=some u:=by rw[ac C,eu']
 have et:(l.take j)[(q:Int).toNat]?=some u:=by rw[pR,og,gt (by omega),eu]
 obtain⟨un,uk,ur,up⟩:=u
 rw[et]
 simp only[nW]
 by_cases g2:kd=K
 .subst g2
  have g1:0<=kd:=by omega
  by_cases a1:zR kd=true <;> by_cases a2:zR uk=true <;> by_cases g3:0<=O <;> by_cases g4:ur=O <;>
   (repeat first | refine bw S ?_ | refine bw W ?_ | refine bw (ZX _) ?_ | refine zg (ZX _) ?_ | simp+decide[int,zw,cD.row,k0,p0,p1,C,T,eu,eu',a1,a2,g1,g3,g4])
 by_cases a1:zR kd=true <;> by_cases a2:zR uk=true <;> by_cases g1:0<=K <;> by_cases g3:0<=O <;> by_cases g4:ur=O <;>
  (repeat first | refine bw S ?_ | refine bw W ?_ | refine bw (ZX _) ?_ | refine zg (ZX _) ?_ | simp+decide[int,zw,cD.row,k0,p0,p1,C,T,eu,eu',a1,a2,g1,g2,g3,g4])
theorem zdl(l:List cD)(E:l.length<2^62)(hs:∀ t∈l,t.name.size<=9223372036854775807):aq prog 79 [zw l] (int (ku l)):=by
 refine aF func79 ?_
 by_cases K:12<l.length
 .have H:(12:Int)<l.length:=by omega
  simp+decide[f79,zw,int,H,ku,K]
 have H:¬(12:Int)<l.length:=by omega
 simp+decide[f79,zw,int,H,ku,K]
 refine cl (λk:Nat=>{n:=20,next:=0,af:=[(0,.d (zw l)),(3,.d (.int .i64 k))],own:=[]})
  (λk=>k<=l.length/\ZW l l.length 0=ZW l (l.length-k) k) (λk=>l.length-k) 0 (by simp) (by simp+decide[zw,int]) ?_
 intro k ⟨J,L⟩
 by_cases G:k<l.length
 .have F:=bG G
  obtain⟨m,M⟩:∃ m,l.length-k=m+1:=⟨l.length-k-1,by omega⟩
  rw[M] at L;simp only[ZW,si G] at L;simp+decide[zw,int,F];refine zg (zf7 l k G E hs) ?_
  by_cases O:qM (l.take k) l[k]=0
  .rw[gt O] at L
   simp+decide[int,O,aB];exact⟨by omega,k+1,⟨by omega,by rw[L];congr 1;omega⟩,by omega,by simp[zw]⟩
  .rw[ge O] at L
   simp+decide[int,O,L]
 .obtain rfl:k=l.length:=by omega
  rw[rU] at L;simp+decide[zw,int,L,ZW]
end Go.V.Doc
namespace Go.V
open Go Go.Proofs Tryz
def Hh(inv:List bD):Prop:=inv.length<=1048576/\∀ p∈inv,p.name.size<=1048576
theorem zf8(inv:List bD)(hi:Hh inv):cu prog 86 [.agg [zL inv]] Wq:=by
 obtain⟨M,O⟩:=hi
 refine dW func86 ?_
 by_cases Q:(60:Int)<inv.length
 .simp+decide[f86,zL,Q]
 simp+decide[f86,zL,Q]
 refine dg (λk:Nat=>{n:=58,next:=1,af:=[(1,.bp 0 0),(11,.d (int inv.length)),(12,.d (int k))],own:=[(0,.box 24 [.d (zL inv)])]}) inv.length (by simp+decide[int,zL]) ?_
 intro k T
 by_cases F:k<inv.length
 .have H:=bG F
  have J:=O inv[k] (nF F);obtain⟨x,ex,ex1⟩:=bN F;rw[ex] at J;simp+decide[int,zL,F,H,ex,bD.row];refine zE.some (by rfl) (H8 x.name J) ?_
  rintro r ⟨b,rfl⟩
  cases b with
  |false=>simp+decide
  |true=>
   simp+decide
   refine dg (λm:Nat=>{n:=58,next:=1,af:=[(1,.bp 0 0),(3,.d (int k)),(4,.d (int m)),(11,.d (int inv.length)),(12,.d (int k))],own:=[(0,.box 24 [.d (zL inv)])]}) k (by simp+decide[int,zL]) ?_
   intro m V;by_cases L:m<k
   .have G:(m:Int)<k:=by omega
    have K:m<inv.length:=by omega
    have E:(m:Int)<inv.length:=by omega
    obtain⟨y,ey,ey1⟩:=bN K;by_cases b1:y.name=x.name
    .simp+decide[int,zL,G,K,E,F,H,ex,ey,bD.row,b1]
    .simp+decide[int,zL,G,K,E,F,H,ex,ey,bD.row,aB]
     exact λ_=>⟨by omega,m+1,L,by omega,by omega⟩
   .have G:¬(m:Int)<k:=by omega
    by_cases b1:x.mb<0
    .simp+decide[int,zL,G,F,H,ex,bD.row,b1]
    .by_cases b2:65536<=x.mb
     .simp+decide[int,zL,G,F,H,ex,bD.row,b1,b2]
     .simp+decide[int,zL,G,F,H,ex,bD.row,b1,b2,aB]
      exact⟨by omega,k+1,F,by omega,by omega⟩
 .have H:¬(k:Int)<inv.length:=by omega
  simp+decide[int,zL,H]
def jn(l:List (List ByteArray)):List ByteArray:=l.flatten
def xi(l:List Int)(n:Int):Nat:=(l.takeWhile λx=>decide (x<n)).length
def wP(l:List Int)(n:Int):List Int:=l.take (xi l n)++[n]++(if l[xi l n]?=some n then l.drop (xi l n+1) else l.drop (xi l n))
theorem GQ{l:List Int}{n:Int}{k:Nat}(H:k<=l.length)(G:∀ x∈l.take k,x<n)(F:∀ h:k<l.length,¬l[k]<n):xi l n=k:=by
 unfold xi
 have e:l=l.take k++l.drop k:=(oT k l).symm
 have E:(l.takeWhile λx=>decide (x<n))=l.take k:=by
  conv=>lhs;rw[e]
  rw[tL (by intro a K;simpa using G a K)]
  by_cases J:k<l.length
  .rw[nY J,tY (by simpa using F J),oq]
  .rw[pJ (by omega)];simp
 rw[E,nR];omega
theorem Wt(l:List Int)(n:Int)(K:l.length<2^40):aq prog 230 [aa l,int n] (aa (wP l n)):=by
 refine fY func230 [1] ?_
 simp+decide[f230,int,aa]
 refine cl (λk:Nat=>{n:=51,next:=2,af:=[(0,.d (aa l)),(1,.d (int n)),(5,.ar 1),(6,.d (int k))],own:=[(1,.aQ 3 1 ((l.take k).map λx=>[int x]))],aA:=[1]})
  (λk=>k<=l.length/\∀ x∈l.take k,x<n) (λk=>l.length-k) 0 (by simp) (by simp+decide[int,aa]) ?_
 rintro k ⟨J,L⟩
 have E:(l.take k).length=k:=by rw[nR];omega
 by_cases H:k<l.length
 .have G:=bG H
  have em:l[k]?=some l[k]:=ac H
  by_cases M:l[k]<n
  .simp+decide[int,aa,H,G,M,aB]
   refine⟨by omega,by unfold maxLen;omega,by omega,k+1,⟨H,λx F=>?_⟩,by omega,by omega,?_⟩
   .rw[yh H] at F
    rcases nM.1 F with h | h
    .exact L x h
    .rw[nQ] at h;rw[h];exact M
   .rw[yh (by rw[om];exact H),xc]
  .have O:wP l n=l.take k++[n]++(if l[k]?=some n then l.drop (k+1) else l.drop k):=by
    unfold wP;rw[GQ J L λ_=>M]
   rw[O,em];by_cases Q:l[k]=n
   .rw[gt (by rw[Q])]
    simp+decide[int,aa,H,G,Q,aB];refine⟨by omega,by unfold maxLen;omega,by omega,by omega,λr T=>?_,by omega,by unfold maxLen;omega,?_⟩
    .have:=oh (oH T)
     rw[nS] at this;obtain⟨z,_,rfl⟩:=this;rfl
    .rw[oa (by simp)]
   .rw[ge (by simpa using Q)]
    simp+decide[int,aa,H,G,M,Q];refine⟨by omega,by unfold maxLen;omega,by omega,λr T=>?_,by omega,by unfold maxLen;omega,?_⟩
    .have:=oh (oH T)
     rw[nS] at this;obtain⟨z,_,rfl⟩:=this;rfl
    .rw[oa (by simp)]
 .obtain rfl:k=l.length:=by omega
  have O:wP l n=l.take l.length++[n]++[]:=by
   unfold wP;rw[GQ J L λh=>absurd h (by omega)]
   simp
  rw[O];simp+decide[int,aa];exact⟨by omega,by unfold maxLen;omega,by omega,by unfold maxLen;omega⟩
theorem zno(l:List Int)(n:Int):xi l n<=l.length:=(List.takeWhile_sublist _).length_le
theorem Hj{p:Int->Bool}:∀ {l:List Int} {x:Int},x∈l.takeWhile p->p x=true
 | [],x,h=>by cases h
 |a::r,x,h=>by
  by_cases e:p a=true
  .rw[List.takeWhile_cons_of_pos e] at h
   rcases nE.1 h with rfl | h
   .exact e
   .exact Hj h
  .rw[tY e] at h;cases h
theorem Hk(l:List Int)(n:Int):∀ x∈l.take (xi l n),x<n:=by
 intro x H
 have:l.take (xi l n)=l.takeWhile λx=>decide (x<n):=by
  unfold xi;have:=List.takeWhile_prefix (l:=l) λx=>decide (x<n)
  exact(List.prefix_iff_eq_take.1 this).symm
 rw[this] at H
 simpa using Hj H
theorem Hl{l:List Int}{n:Int}(h:xi l n<l.length):¬l[xi l n]<n:=by
 intro H
 have e1:(l.takeWhile λx=>decide (x<n))++(l.dropWhile λx=>decide (x<n))=l:=tq
 cases G:l.dropWhile λx=>decide (x<n) with
 |nil=>
  rw[G,oq] at e1;have:xi l n=l.length:=by unfold xi;rw[e1]
  omega
 |cons y r=>
  have F:=List.head_dropWhile_not (λx=>decide (x<n)) (by rw[G];simp:l.dropWhile (λx=>decide (x<n))≠[])
  simp only[G,List.head_cons,pO] at F;have e0:∀ A B:List Int,B=y::r->(A++B)[A.length]?=some y:=by
   intro A B h;rw[h,pF (nJ _),rU];rfl
  have e3:=e0 (l.takeWhile λx=>decide (x<n)) _ G
  rw[e1] at e3;change l[xi l n]?=some y at e3
  rw[ac h] at e3;have:=ph e3
  rw[this] at H;exact F H
theorem Hm{l:List Int}(hs:l.Pairwise λx y=>x<y)(n:Int):∀ x,x∈(if l[xi l n]?=some n then l.drop (xi l n+1) else l.drop (xi l n))↔x∈l/\n<x:=by
 intro x
 have K:=od.1 hs
 have H:x∈l->n<x->x∈l.drop (xi l n):=λL M=>by
  have F:=L;rw[<-oT (xi l n) l] at F;rcases nM.1 F with h | h
  .have:=Hk l n x h;omega
  .exact h
 by_cases G:xi l n<l.length
 .have J:=Hl G
  have E:∀ y∈l.drop (xi l n+1),l[xi l n]<y:=λy O=>by
   obtain⟨i,hi,rfl⟩:=nT.1 O;rw[oO] at hi;rw[rm];exact K _ _ G (by omega) (by omega)
  rw[ac G];by_cases e:l[xi l n]=n
  .rw[gt (by rw[e])]
   constructor
   .intro L
    have:=E x L
    exact⟨oH L,by omega⟩
   .rintro⟨L,M⟩
    have:=H L M
    rw[nY G] at this;rcases nE.1 this with h | h
    .omega
    .exact h
  .rw[ge (by simpa using e)]
   constructor
   .intro L
    refine⟨oH L,?_⟩
    rw[nY G] at L;rcases nE.1 L with h | h
    .omega
    .have:=E x h;omega
   .rintro⟨L,M⟩;exact H L M
 .have Q:l.drop (xi l n)=[]:=pJ (by omega)
  rw[ra (by omega),ge (by simp),Q]
  constructor
  .intro h;cases h
  .rintro⟨L,M⟩
   have:=H L M
   rwa [Q] at this
theorem znp{l:List Int}(hs:l.Pairwise λx y=>x<y){n x:Int}:x∈wP l n↔x=n\/x∈l:=by
 unfold wP
 rw[nM,nM,nQ,Hm hs]
 constructor
 .rintro((h | h) | h)
  .exact .inr (oh h)
  .exact .inl h
  .exact .inr h.1
 .rintro(h | h)
  .exact .inl (.inr h)
  .rcases Int.lt_trichotomy x n with q | q | q
   .have F:=h
    rw[<-oT (xi l n) l] at F;rcases nM.1 F with E | E
    .exact .inl (.inl E)
    .exfalso
     have H:=od.1 hs;obtain⟨i,hi,rfl⟩:=nT.1 E;rw[oO] at hi;rw[rm] at q;have G:=Hl (l:=l) (n:=n) (by omega)
     rcases Nat.eq_zero_or_pos i with rfl | hi0
     .exact G q
     .have:=H (xi l n) (xi l n+i) (by omega) (by omega) (by omega)
      omega
   .exact .inl (.inr q)
   .exact .inr ⟨h,q⟩
theorem zdm{l:List Int}(hs:l.Pairwise λx y=>x<y)(n:Int):(wP l n).Pairwise λx y=>x<y:=by
 unfold wP
 rw[pZ,pZ]
 have H:=Hk l n
 have G:=λx=>(Hm hs n x).1
 refine⟨⟨hs.sublist (sH _ _),by simp,λa F b E=>?_⟩,?_,λa F b E=>?_⟩
 .rw[nQ] at E;rw[E];exact H a F
 .split
  .exact hs.sublist (th _ _)
  .exact hs.sublist (th _ _)
 .have K:=(G b E).2
  rcases nM.1 F with h | h
  .have:=H a h;omega
  .rw[nQ] at h;omega
def cO(l:List Int):List Int:=l.foldl wP []
theorem Hn(l:List Int)(n:Int):cO (l++[n])=wP (cO l) n:=by unfold cO;rw[oI];rfl
theorem znq{l:List Int}(hs:l.Pairwise λx y=>x<y)(n:Int):(wP l n).length=l.length+(if n∈l then 0 else 1):=by
 have F:=zno l n
 have H:n∈l↔l[xi l n]?=some n:=by
  constructor
  .intro E
   obtain⟨k,K,ek⟩:=nT.1 E;have G:=od.1 hs;have:xi l n=k:=by
    refine GQ (Nat.le_of_lt K) (λx J=>?_) (λh=>by rw[ek];omega)
    obtain⟨i,hi,rfl⟩:=nT.1 J;rw[nR] at hi;rw[sE,<-ek];exact G i k (by omega) K (by omega)
   rw[this,ac K,ek]
  .intro h;exact ol h
 unfold wP
 by_cases h:l[xi l n]?=some n
 .rw[gt h,gt (H.2 h)]
  have:xi l n<l.length:=by
   rcases pe (xi l n) l.length with L | L
   .exact L
   .rw[ra L] at h;cases h
  simp;omega
 .rw[ge h,ge (λL=>h (H.1 L))]
  simp;omega
theorem GR:∀ (m:Nat) (l:List Int),l.length=m->(cO l).Pairwise (λx y=>x<y)/\(∀ x,x∈cO l↔x∈l)/\(cO l).length<=l.length/\((cO l).length=l.length->l.Nodup)
 |0,l,h=>by
  have:l=[]:=pN.mp h
  subst this;exact⟨List.Pairwise.nil,λx=>Iff.rfl,nJ _,λ_=>tZ⟩
 |m+1,l,h=>by
  have H:l≠[]:=by intro e;subst e;cases h
  obtain⟨a,n,rfl⟩:∃ a n,l=a++[n]:=⟨l.dropLast,l.getLast H,(su H).symm⟩;have G:a.length=m:=by simpa using h
  obtain⟨F,E,K,J⟩:=GR m a G;rw[Hn];have L:=znq F n;refine⟨zdm F n,λx=>?_,?_,λhe=>?_⟩
  .rw[znp F,E,nM,nQ]
   exact Or.comm
  .rw[L,nO];split <;> simp <;> omega
  .rw[L,nO] at he
   simp only[sw] at he;by_cases M:n∈cO a
   .rw[gt M] at he;omega
   .rw[ge M] at he
    rw[rX];refine⟨J (by omega),by simp,λx O y hy=>?_⟩
    rw[nQ] at hy;subst hy;intro e;subst e;exact M ((E x).2 O)
theorem zdn{l:List Int}(h:(cO l).length=l.length):l.Nodup:=(GR _ l rfl).2.2.2 h
theorem zi9(l:List Int):(cO l).length<=l.length:=(GR _ l rfl).2.2.1
theorem GU(l:List Int)(E:l.length<2^40):aq prog 198 [aa l] (aa (cO l)):=by
 refine aF func198 ?_
 simp+decide[f198,aa]
 refine ZI [1] ?_
 refine dg (λk:Nat=>{n:=18,next:=2,af:=[(0,.d (aa l)),(3,.d (aa (cO (l.take k)))),(6,.d (int l.length)),(7,.d (int k))],own:=[],aA:=[]}) l.length (by simp+decide[int,aa,cO]) ?_
 intro k K
 by_cases H:k<l.length
 case neg=>
  obtain rfl:k=l.length:=by omega
  rw[nH];simp+decide[int,aa]
 have G:=bG H
 have aI:cO (l.take (k+1))=wP (cO (l.take k)) l[k]:=by rw[yh H,Hn]
 have F:=zi9 (l.take k)
 rw[nR] at F
 obtain⟨n,en,e1⟩:=bN H
 rw[en] at aI
 have J:=Wt (cO (l.take k)) n (by omega)
 rw[<-aI] at J
 simp+decide[int,aa,H,G,en]
 refine zg J ?_
 simp+decide[aa]
 exact⟨⟨by omega,by omega⟩,k+1,H,by omega,rfl,by omega⟩
def gC(inv:List bD)(r:bK)(k:Nat):Bool:=!(xd inv (r.bl[k]?.getD 0)) || (decide (r.dst[k]?.getD 0≠0) && !(xd inv (r.dst[k]?.getD 0)))
def ZY(inv:List bD)(r:bK):Int:=
 if r.bl.length=0\/r.dst.length≠r.bl.length then 1 else if ((List.range r.bl.length).any λk=>gC inv r k)=true then 19
 else if (cO r.bl).length≠r.bl.length then 8 else if 2<r.left.length\/2<r.right.length then 5 else 0
theorem zf9(inv:List bD)(r:bK)(hs:r.bl.length<=1048576)(Y:r.dst.length<=1048576):aq prog 147 [.agg [zL inv],.agg r.row] (int (ZY inv r)):=by
 obtain⟨bl,dst,left,right,fo,ck⟩:=r
 simp only at hs Y
 have Z:=GU bl (by omega)
 refine aF func147 ?_
 obtain⟨R,A⟩:∃ R,ZY inv ⟨bl,dst,left,right,fo,ck⟩=R:=⟨_,rfl⟩
 rw[A]
 unfold ZY at A
 simp only at A
 by_cases B:bl.length=0
 .have:R=1:=by rw[<-A,gt (.inl B)]
  subst this;have V:(bl.length:Int)=0:=by omega
  simp+decide[f147,int,aa,bK.row,B];done
 have V:¬(bl.length:Int)=0:=by omega
 by_cases C:dst.length=bl.length
 case neg=>
  have:R=1:=by rw[<-A,gt (.inr C)]
  subst this;have Q:¬(dst.length:Int)=bl.length:=by omega
  simp+decide[f147,int,aa,bK.row,B,Q];done
 have Q:(dst.length:Int)=bl.length:=by omega
 rw[ge (by rintro(h | h);exact B h;exact h C)] at A
 simp+decide[f147,int,aa,bK.row,B,C]
 refine cl (λk:Nat=>{n:=70,next:=2,af:=[(2,.bp 0 0),(3,.bp 1 0),(21,.d (int bl.length)),(22,.d (int k))],own:=[(0,.box 24 [.d (zL inv)]),(1,.box 90 [.d (aa bl),.d (aa dst),.d (xA left),.d (xA right),.d (.bool fo),.d (.bool ck)])]})
  (λk=>k<=bl.length/\∀ j,j<k->gC inv ⟨bl,dst,left,right,fo,ck⟩ j=false) (λk=>bl.length-k) 0 (by simp) (by simp+decide[int,aa]) ?_
 intro k ⟨I,N⟩
 by_cases F:k<bl.length
 .have J:=bG F
  have L:k<dst.length:=by omega
  have E:(k:Int)<dst.length:=by omega
  obtain⟨x,ex⟩:∃ x,bl[k]=x:=⟨_,rfl⟩;obtain⟨y,ey⟩:∃ y,dst[k]=y:=⟨_,rfl⟩;have ex1:bl[k]?=some x:=by rw[ac F,ex]
  have ey1:dst[k]?=some y:=by rw[ac L,ey]
  have P:=W8 inv x;have S:=W8 inv y;have X:gC inv ⟨bl,dst,left,right,fo,ck⟩ k=(!(xd inv x) || (decide (y≠0) && !(xd inv y))):=by unfold gC;simp only;rw[ex1,ey1];rfl
  have G:gC inv ⟨bl,dst,left,right,fo,ck⟩ k=true->R=19:=by
   intro h;rw[<-A,gt (n_.2 ⟨k,oc.2 F,h⟩)]
  have H:gC inv ⟨bl,dst,left,right,fo,ck⟩ k=false->∀ j,j<k+1->gC inv ⟨bl,dst,left,right,fo,ck⟩ j=false:=by
   intro h j hj;rcases rA.mp hj with W | W
   .exact N j W
   .rw[W];exact h
  rw[X] at G H;simp+decide[int,aa,F,J,ex];refine bw P ?_
  cases hx:xd inv x with
  |false=>
   rw[hx] at G;have:=G rfl
   subst this;simp+decide
  |true=>
   rw[hx] at G H;by_cases hy:y=0
   .rw[pH (by simpa using hy)] at H
    have hg:=H rfl;simp+decide[L,E,ey,hy,aB];exact⟨by omega,k+1,⟨F,hg⟩,by omega,by omega⟩
   .rw[pI (by simpa using hy)] at H G
    simp+decide[L,E,ey,hy];refine bw S ?_
    cases hz:xd inv y with
    |false=>
     rw[hz] at G;have:=G rfl
     subst this;simp+decide
    |true=>
     rw[hz] at H;have hg:=H rfl;simp+decide[aB];exact⟨by omega,k+1,⟨F,hg⟩,by omega,by omega⟩
 .obtain rfl:k=bl.length:=by omega
  have M:((List.range bl.length).any λk=>gC inv ⟨bl,dst,left,right,fo,ck⟩ k)=false:=by
   rw[oB];intro j hj;rw[N j (oc.1 hj)];decide
  rw[ge (by rw[M];decide)] at A
  simp+decide[int,aa];refine bw Z ?_
  by_cases hn:(cO bl).length=bl.length
  .have T:((cO bl).length:Int)=bl.length:=by omega
   rw[ge (by simpa using hn)] at A
   by_cases hl:2<left.length
   .have K:(2:Int)<left.length:=by omega
    rw[gt (.inl hl)] at A;subst A;simp+decide[aa,xA,hn,K]
   .have K:¬(2:Int)<left.length:=by omega
    by_cases hr:2<right.length
    .have O:(2:Int)<right.length:=by omega
     rw[gt (.inr hr)] at A;subst A;simp+decide[aa,xA,hn,K,O]
    .have O:¬(2:Int)<right.length:=by omega
     rw[ge (by rintro(h | h);exact hl h;exact hr h)] at A
     subst A;simp+decide[aa,xA,hn,K,O]
  .have T:¬((cO bl).length:Int)=bl.length:=by omega
   rw[gt (by simpa using hn)] at A
   subst A;simp+decide[aa,xA,T]
theorem zga{inv:List bD}{r:bK}(h:ZY inv r=0)(hs:r.bl.length<=1048576):gE r:=by
 unfold ZY at h
 split at h
 .cases h
 rename_i F
 split at h
 .cases h
 split at h
 .cases h
 rename_i E
 split at h
 .cases h
 rename_i K
 have H:r.dst.length=r.bl.length:=oJ λe=>F (.inr e)
 have G:(cO r.bl).length=r.bl.length:=oJ λe=>E e
 exact {bl:=by omega,left:=by omega,right:=by omega,dst:=H,mJ:=zdn G }
def Wu(inv:List bD)(r:bK):Prop:=∀ x∈r.dst,x=0\/xd inv x=true
theorem zja{inv:List bD}{r:bK}(h:ZY inv r=0):Wu inv r:=by
 unfold ZY at h
 split at h
 .cases h
 rename_i G
 split at h
 .cases h
 rename_i F
 have H:r.dst.length=r.bl.length:=oJ λe=>G (.inr e)
 intro x E
 obtain⟨k,K,ek⟩:=nT.1 E
 have J:((List.range r.bl.length).any λk=>gC inv r k)=false:=by simpa using F
 rw[oB] at J
 have L:=J k (oc.2 (by omega))
 unfold gC at L
 rw[ac K,ek,nW] at L
 by_cases M:x=0
 .exact .inl M
 .right
  cases hs:xd inv x with
  |true=>rfl
  |false=>rw[hs] at L;simp[M] at L
structure lK(rs:List bK):Prop where
 cW:rs.length<=1048576
 d_:∀ r∈rs,r.bl.length<=1048576/\r.dst.length<=1048576
theorem zgb(g:aj)(E:lK g.ba):cu prog 88 [g.d] (λx=>∃ e,x=int e/\(e=0->∀ r∈g.ba,gE r/\Wu g.inv r)):=by
 have F:=E.cW
 refine dW func88 ?_
 by_cases K:(12:Int)<g.ba.length
 .simp+decide[f88,aj.d,int,yF,K]
 simp+decide[f88,aj.d,int,yF,K]
 refine cl (λk:Nat=>{n:=27,next:=1,af:=[(1,.bp 0 0),(3,.d (int k))],own:=[(0,.box 36 (zj g.d))]})
  (λk=>k<=g.ba.length/\∀ r∈g.ba.take k,gE r/\Wu g.inv r) (λk=>g.ba.length-k) 0 (by simp) (by simp+decide[int,yF,zj,aj.d]) ?_
 intro k ⟨J,L⟩
 by_cases H:k<g.ba.length
 .have G:=bG H
  have M:=E.d_ g.ba[k] (nF H);obtain⟨r,er,er1⟩:=bN H;have aI:=yh H;rw[er] at M aI;have O:=zf9 g.inv r M.1 M.2;simp+decide[int,yF,zj,aj.d,H,G,er,bK.row];refine bw O ?_
  by_cases Q:ZY g.inv r=0
  .rw[Q]
   simp+decide[int,aB];refine⟨by omega,k+1,⟨H,λx T=>?_⟩,by omega,by omega⟩
   rw[aI] at T;rcases nM.1 T with h | h
   .exact L x h
   .rw[nQ] at h;rw[h];exact⟨zga Q M.1,zja Q⟩
  .simp+decide[int,Q]
 .obtain rfl:k=g.ba.length:=by omega
  rw[nH] at L;simp+decide[int,yF,zj,aj.d];exact L
theorem GV(n:aY)(q:Int):aq prog 148 [.agg n.cells,int q] (.bool (decide (0<=q/\q<n.az))):=by
 refine aF func148 ?_
 by_cases H:0<=q
 .simp+decide[f148,int,aY.cells,H]
 .simp+decide[f148,int,aY.cells,H]
def Ho(n:aY)(s:dN):Prop:=(0<=s.bl/\s.bl<n.az)/\(0<=s.dst/\s.dst<n.az)/\1<=s.cU/\s.cU<=20
structure nk(n:aY):Prop where
 lo:1<=n.az
 aw:∀ s∈n.aw,Ho n s
 aS:∀ q∈n.aS,0<=q/\q<n.az
theorem zgc(n:aY)(hs:n.aw.length<=1048576)(Y:n.aS.length<=1048576):cu prog 89 [.agg n.cells] (λx=>∃ e,x=int e/\(e=0->nk n)):=by
 refine dW func89 ?_
 by_cases Z:n.az<1
 .simp+decide[f89,int,aY.cells,Z]
 by_cases A:24<n.az
 .simp+decide[f89,int,aY.cells,Z,A]
 by_cases B:(200:Int)<n.aw.length
 .simp+decide[f89,int,aY.cells,bk,Z,A,B]
 simp+decide[f89,int,aY.cells,bk,Z,A,B]
 refine cl (λk:Nat=>{n:=98,next:=1,af:=[(1,.bp 0 0),(3,.d (int k))],own:=[(0,.box 33 (n.cells.map .d))]})
  (λk=>k<=n.aw.length/\∀ s∈n.aw.take k,Ho n s) (λk=>n.aw.length-k) 0 (by simp) (by simp+decide[int,aa,bk,aY.cells]) ?_
 intro k ⟨C,I⟩
 by_cases F:k<n.aw.length
 .have J:=bG F
  obtain⟨x,ex,ex1⟩:=bN F;have aI:=yh F;rw[ex] at aI;have N:=GV n x.bl;have P:=GV n x.dst;simp+decide[int,aa,bk,aY.cells,F,J,ex,dN.row];refine zg N ?_
  by_cases a1:0<=x.bl/\x.bl<n.az
  case neg=>simp+decide[a1]
  simp+decide[a1];refine zg P ?_
  by_cases a2:0<=x.dst/\x.dst<n.az
  case neg=>simp+decide[a2]
  by_cases a3:x.cU<1
  .simp+decide[a2,a3]
  by_cases a4:20<x.cU
  .simp+decide[a2,a3,a4]
  simp+decide[a2,a3,a4];refine dg (λm:Nat=>{n:=98,next:=2,af:=[(1,.bp 0 0),(3,.d (int k)),(4,.bp 1 0),(5,.d (int m))],own:=[(0,.box 33 (n.cells.map .d)),(1,.box 156 (x.row.map .d))]}) k (by simp+decide[int,aa,bk,aY.cells,dN.row]) ?_
  intro m S;by_cases X:m<k
  .have G:(m:Int)<k:=by omega
   have T:m<n.aw.length:=by omega
   have L:(m:Int)<n.aw.length:=by omega
   obtain⟨y,ey,ey1⟩:=bN T;simp+decide[int,aa,bk,aY.cells,G,T,L,ey,dN.row,aB];exact λ_=>⟨by omega,m+1,X,by omega,by omega⟩
  .have G:¬(m:Int)<k:=by omega
   simp+decide[int,aa,bk,aY.cells,G,aB];refine⟨by omega,k+1,⟨F,λs V=>?_⟩,by omega,by omega⟩
   rw[aI] at V;rcases nM.1 V with h | h
   .exact I s h
   .rw[nQ] at h;rw[h];exact⟨a1,a2,by omega,by omega⟩
 .obtain rfl:k=n.aw.length:=by omega
  rw[nH] at I;simp+decide[int,aa,bk,aY.cells];refine dg (λk:Nat=>{n:=98,next:=1,af:=[(1,.bp 0 0),(6,.d (int ((k:Int)+1)))],own:=[(0,.box 33 (n.cells.map .d))]}) n.aS.length (by simp+decide[int,aa,bk,aY.cells]) ?_
  intro i hi;by_cases M:i+1<n.aS.length
  .have H:(i:Int)+1<n.aS.length:=by omega
   have O:i<n.aS.length:=by omega
   have E:(i:Int)<n.aS.length:=by omega
   obtain⟨u,eu⟩:∃ u,n.aS[i+1]=u:=⟨_,rfl⟩;have eu1:n.aS[i+1]?=some u:=by rw[ac M,eu]
   obtain⟨v,ev,ev1⟩:=bN O;have t1:((i:Int)+1).toNat=i+1:=by omega
   have t2:0<=(i:Int)+1:=by omega
   by_cases b1:u<=v
   .simp+decide[int,aa,bk,aY.cells,M,H,O,E,eu,ev,t1,t2,b1,aB]
    omega
   .simp+decide[int,aa,bk,aY.cells,M,H,O,E,eu,ev,t1,t2,b1,aB]
    exact⟨by omega,by omega,i+1,by omega,by omega,by omega⟩
  .have H:¬(i:Int)+1<n.aS.length:=by omega
   simp+decide[int,aa,bk,aY.cells,H];refine cl (λk:Nat=>{n:=98,next:=1,af:=[(1,.bp 0 0),(7,.d (int k))],own:=[(0,.box 33 (n.cells.map .d))]})
    (λk=>k<=n.aS.length/\∀ q∈n.aS.take k,0<=q/\q<n.az) (λk=>n.aS.length-k) 0 (by simp) (by simp+decide[int,aa,bk,aY.cells]) ?_
   intro j ⟨hj,W⟩;by_cases K:j<n.aS.length
   .have Q:=bG K
    obtain⟨u,eu,eu1⟩:=bN K;have aI:=yh K;rw[eu] at aI;have hC:=GV n u;simp+decide[int,aa,bk,aY.cells,K,Q,eu];refine bw hC ?_
    by_cases a1:0<=u/\u<n.az
    .simp+decide[a1,aB]
     refine⟨by omega,j+1,⟨K,λq S=>?_⟩,by omega,by omega⟩
     rw[aI] at S;rcases nM.1 S with h | h
     .exact W q h
     .rw[nQ] at h;rw[h];exact a1
    .simp+decide[a1]
   .obtain rfl:j=n.aS.length:=by omega
    rw[nH] at W;simp+decide[int,aa,bk,aY.cells];exact⟨by omega,I,W⟩
def kZ(n:Int):Bool:=decide (1<=n/\n<=1099511627776)
theorem Vo(n:Int):aq prog 117 [int n] (.bool (kZ n)):=by
 refine aF func117 ?_
 by_cases H:1<=n
 .simp+decide[f117,int,kZ,H]
 .simp+decide[f117,int,kZ,H]
def vy(inv:List bD)(w:List Int):Int:=if w.length=0 then 4 else if 24<w.length then 5 else if (w.all λx=>xd inv x)=true then 0 else 19
theorem GX(inv:List bD)(w:List Int)(J:w.length<=1048576):aq prog 231 [.agg [zL inv],aa w] (int (vy inv w)):=by
 refine aF func231 ?_
 obtain⟨R,L⟩:∃ R,vy inv w=R:=⟨_,rfl⟩
 rw[L]
 unfold vy at L
 by_cases M:w.length=0
 .rw[gt M] at L
  subst L;have K:(w.length:Int)=0:=by omega
  simp+decide[f231,int,aa,M];done
 rw[ge M] at L
 have K:¬(w.length:Int)=0:=by omega
 by_cases O:24<w.length
 .rw[gt O] at L
  subst L;have F:(24:Int)<w.length:=by omega
  simp+decide[f231,int,aa,M,F];done
 rw[ge O] at L
 have F:¬(24:Int)<w.length:=by omega
 simp+decide[f231,int,aa,M,F]
 refine cl (λk:Nat=>{n:=25,next:=1,af:=[(1,.d (aa w)),(2,.bp 0 0),(13,.d (int w.length)),(14,.d (int k))],own:=[(0,.box 24 [.d (zL inv)])]})
  (λk=>k<=w.length/\∀ x∈w.take k,xd inv x=true) (λk=>w.length-k) 0 (by simp) (by simp+decide[int,aa]) ?_
 intro k ⟨Q,T⟩
 by_cases H:k<w.length
 .have E:=bG H
  have G:=nF H;obtain⟨x,ex,ex1⟩:=bN H;have aI:=yh H;rw[ex] at aI G;simp+decide[int,aa,H,E,ex];refine bw (W8 inv x) ?_
  cases hs:xd inv x with
  |false=>
   have:¬(w.all λx=>xd inv x)=true:=by
    rw[oo];intro h;rw[h x G] at hs;cases hs
   rw[ge this] at L;subst L;simp+decide
  |true=>
   simp+decide
   refine⟨⟨by omega,by omega⟩,k+1,⟨H,λy V=>?_⟩,by omega,by omega⟩
   rw[aI] at V;rcases nM.1 V with h | h
   .exact T y h
   .rw[nQ] at h;rw[h];exact hs
 .obtain rfl:k=w.length:=by omega
  rw[nH] at T;rw[gt (oo.2 T)] at L;subst L;simp+decide[int,aa]
structure gr(inv:List bD)(w:List Int):Prop where
 pos:1<=w.length
 len:w.length<=24
 bi:∀ x∈w,xd inv x=true
theorem Hq{inv:List bD}{w:List Int}(h:vy inv w=0):gr inv w:=by
 unfold vy at h
 split at h
 .cases h
 split at h
 .cases h
 split at h
 .rename_i H;exact⟨by omega,by omega,oo.1 H⟩
 .cases h
structure lV(e:aP):Prop where
 du:e.du.length<=1048576
 cm:e.cm.length<=1048576/\∀ w∈e.cm,w.length<=1048576
 aL:e.aL.length<=1048576/\∀ s∈e.aL,s.xe.size<=1048576/\s.lc.size<=1048576
 bj:e.bj.length<=1048576
 lk:e.lk.length<=1048576
structure lP(inv:List bD)(e:aP):Prop where
 id:kZ e.id=true
 du:gr inv e.du
 cU:1<=e.cU/\e.cU<=20
 cm:∀ w∈e.cm,gr inv w
theorem zgd(inv:List bD)(e:aP)(V:lV e):cu prog 199 [.agg [zL inv],.agg e.row] (λx=>∃ n,x=int n/\(n=0->lP inv e)):=by
 have M:=V.du
 have T:=V.cm.1
 refine dW func199 ?_
 simp+decide[f199,int,aP.row]
 refine zg (Vo e.id) ?_
 cases cq:kZ e.id with
 |false=>simp+decide
 |true=>
  simp+decide
  refine zg (GX inv e.du M) ?_
  by_cases X:vy inv e.du=0
  case neg=>simp+decide[int,X]
  by_cases c1:e.cU<1
  .simp+decide[int,X,c1]
  by_cases c2:20<e.cU
  .simp+decide[int,X,c1,c2]
  by_cases c3:(3:Int)<e.cm.length
  .simp+decide[int,X,yk,c1,c2,c3]
  simp+decide[int,X,yk,c1,c2,c3];refine cl (λk:Nat=>{n:=73,next:=2,af:=[(2,.bp 0 0),(3,.bp 1 0),(6,.d (int k))],own:=[(0,.box 24 [.d (zL inv)]),(1,.box 102 (e.row.map .d))]})
   (λk=>k<=e.cm.length/\∀ w∈e.cm.take k,gr inv w) (λk=>e.cm.length-k) 0 (by simp) (by simp+decide[int,aa,aP.row,yk]) ?_
  intro k ⟨Y,Z⟩;by_cases H:k<e.cm.length
  .have G:=bG H
   have J:=V.cm.2 e.cm[k] (nF H);obtain⟨w,ew,ew1⟩:=bN H;have aI:=yh H;rw[ew] at aI J;simp+decide[int,aa,yk,aP.row,H,G,ew];refine bw (GX inv w J) ?_
   by_cases A:vy inv w=0
   case neg=>simp+decide[int,A]
   simp+decide[int,A,H,G,ew];refine bw (GF w e.du (by omega) (by omega)) ?_
   by_cases hs:w=e.du
   .simp+decide[hs]
   simp+decide[hs];refine dg (λm:Nat=>{n:=73,next:=2,af:=[(2,.bp 0 0),(3,.bp 1 0),(6,.d (int k)),(8,.d (int m))],own:=[(0,.box 24 [.d (zL inv)]),(1,.box 102 (e.row.map .d))]}) k (by simp+decide[int,aa,aP.row,yk]) ?_
   intro m B;by_cases O:m<k
   .have F:(m:Int)<k:=by omega
    have E:m<e.cm.length:=by omega
    have K:(m:Int)<e.cm.length:=by omega
    have Q:=V.cm.2 e.cm[m] (nF E);obtain⟨y,ey,ey1⟩:=bN E;rw[ey] at Q;simp+decide[int,aa,yk,aP.row,F,E,K,H,G,ew,ey];refine bw (GF w y (by omega) (by omega)) ?_
    by_cases L:w=y
    .simp+decide[L]
    .simp+decide[L,aB]
     exact⟨by omega,m+1,O,by omega,by omega⟩
   .have F:¬(m:Int)<k:=by omega
    simp+decide[int,aa,yk,aP.row,F,aB];refine⟨by omega,k+1,⟨H,λy C=>?_⟩,by omega,by omega⟩
    rw[aI] at C;rcases nM.1 C with h | h
    .exact Z y h
    .rw[nQ] at h;rw[h];exact Hq A
  .obtain rfl:k=e.cm.length:=by omega
   rw[nH] at Z;simp+decide[int,aa,yk,aP.row];exact⟨cq,Hq X,⟨by omega,by omega⟩,Z⟩
def Za(f:Nat->Bool)(s:ByteArray):Bool:=(List.range s.size).all λk=>f (zC s k)
theorem Wv{f:Nat->Bool}{s:ByteArray}{k:Nat}(H:k<s.size)(h:f (zC s k)=false):Za f s=false:=by
 unfold Za;rw[wn];exact⟨k,oc.2 H,by rw[h];decide⟩
theorem Hr{f:Nat->Bool}{s:ByteArray}(h:∀ j,j<s.size->f (zC s j)=true):Za f s=true:=by
 unfold Za;rw[oo];intro j hj;exact h j (oc.1 hj)
theorem Ht{p:Nat->Prop}{k:Nat}(h:∀ j,j<k->p j)(H:p k):∀ j,j<k+1->p j:=by
 intro j hj
 rcases rA.mp hj with G | G
 .exact h j G
 .rw[G];exact H
def ZZ(b:Nat):Bool:=decide (¬b<32)&&decide (¬b=127)
def xI(s:ByteArray):Bool:=Za ZZ s&&((ql s s.size 0).isSome&&decide (1<=s.size)&&decide (s.size<=32))
theorem Hu(s:ByteArray)(hs:s.size<=1048576):aq prog 142 [.str s] (.bool (xI s)):=by
 refine aF func142 ?_
 simp+decide[f142,int]
 refine cl (λk:Nat=>{n:=38,next:=0,af:=[(0,.d (.str s)),(3,.d (int k))],own:=[]})
  (λk=>k<=s.size/\∀ j,j<k->ZZ (zC s j)=true) (λk=>s.size-k) 0 (by simp) (by simp+decide[int]) ?_
 intro k ⟨E,K⟩
 by_cases G:k<s.size
 .have H:=bG G
  have e1:cY s (k:Int)=(zC s k:Int):=ZU s k
  by_cases b1:(zC s k:Int)<32
  .have:xI s=false:=by unfold xI;rw[Wv G (by simp[ZZ];omega)];rfl
   rw[this];simp+decide[int,G,H,e1,b1]
  .by_cases b2:(zC s k:Int)=127
   .have:xI s=false:=by unfold xI;rw[Wv G (by simp[ZZ];omega)];rfl
    rw[this];simp+decide[int,G,H,e1,b1,b2]
   .have J:=Ht K (show ZZ (zC s k)=true by simp[ZZ];omega)
    simp+decide[int,G,H,e1,b1,b2,aB];exact⟨by omega,k+1,⟨G,J⟩,by omega,by omega⟩
 .have H:¬(k:Int)<s.size:=by omega
  have F:Za ZZ s=true:=Hr λj hj=>K j (by omega)
  simp+decide[int,H];refine zg (Wn s hs) ?_
  unfold xI;rw[F];cases K:ql s s.size 0 with
  |none=>simp+decide[kp,int]
  |some l=>
   by_cases c1:1<=s.size
   .have c1':(1:Int)<=s.size:=by omega
    simp+decide[kp,int,aa,c1,c1'];try omega
   .have c1':¬(1:Int)<=s.size:=by omega
    simp+decide[kp,int,aa,c1,c1']
def YO(b:Nat):Bool:=decide (¬b=32)&&decide (¬b=45)
def Zb(s:ByteArray):Bool:=Za YO s&&xI s
theorem zdo(s:ByteArray)(hs:s.size<=1048576):aq prog 262 [.str s] (.bool (Zb s)):=by
 refine aF func262 ?_
 simp+decide[f262,int]
 refine cl (λk:Nat=>{n:=22,next:=0,af:=[(0,.d (.str s)),(3,.d (int k))],own:=[]})
  (λk=>k<=s.size/\∀ j,j<k->YO (zC s j)=true) (λk=>s.size-k) 0 (by simp) (by simp+decide[int]) ?_
 intro k ⟨E,K⟩
 by_cases G:k<s.size
 .have H:=bG G
  have e1:cY s (k:Int)=(zC s k:Int):=ZU s k
  by_cases b1:(zC s k:Int)=32
  .have:Zb s=false:=by unfold Zb;rw[Wv G (by simp[YO];omega)];rfl
   rw[this];simp+decide[int,G,H,e1,b1]
  .by_cases b2:(zC s k:Int)=45
   .have:Zb s=false:=by unfold Zb;rw[Wv G (by simp[YO];omega)];rfl
    rw[this];simp+decide[int,G,H,e1,b1,b2]
   .have J:=Ht K (show YO (zC s k)=true by simp[YO];omega)
    simp+decide[int,G,H,e1,b1,b2,aB];exact⟨by omega,k+1,⟨G,J⟩,by omega,by omega⟩
 .have H:¬(k:Int)<s.size:=by omega
  have F:Za YO s=true:=Hr λj hj=>K j (by omega)
  simp+decide[int,H];refine zg (Hu s hs) ?_
  unfold Zb;rw[F];simp+decide[int]
def qZ(p:Int):Bool:=decide (p<32) || decide (p=127)
def Vp(s:ByteArray):Int:=if 200<s.size then 5 else match ql s s.size 0 with
 |none=>3
 |some l=>if l.any qZ=true then 3 else 0
theorem zge(s:ByteArray):aq prog 132 [.str s] (int (Vp s)):=by
 refine aF func132 ?_
 unfold Vp
 by_cases K:200<s.size
 .have F:(200:Int)<s.size:=by omega
  simp+decide[f132,F,K,int]
 have F:¬(200:Int)<s.size:=by omega
 simp+decide[f132,F,K,int]
 refine zg (Wn s (by omega)) ?_
 cases J:ql s s.size 0 with
 |none=>simp+decide[kp,int]
 |some l=>
  have E:l.length<=s.size:=GI s _ _ _ J
  simp+decide[kp,aa,int];refine cl (λk:Nat=>{n:=34,next:=0,af:=[(3,.d (aa l)),(5,.d (int k))],own:=[]})
   (λk=>k<=l.length/\∀ x∈l.take k,qZ x=false) (λk=>l.length-k) 0 (by simp) (by simp+decide[int,aa]) ?_
  intro k ⟨L,M⟩;by_cases H:k<l.length
  .have e1:l[k]?=some l[k]:=ac H
   have G:qZ l[k]=true->l.any qZ=true:=λO=>n_.2 ⟨l[k],nF H,O⟩
   by_cases b1:l[k]<32
   .have O:=G (by simp[qZ,b1])
    simp+decide[aa,int,e1,H,b1];exact n_.1 O
   .by_cases b2:l[k]=127
    .have O:=G (by simp[qZ,b2])
     simp+decide[aa,int,e1,H,b1,b2];exact n_.1 O
    .simp+decide[aa,int,e1,H,b1,b2,aB]
     refine⟨by omega,k+1,⟨H,?_⟩,by omega,by omega⟩
     rw[nX H];intro x Q;rcases nM.1 Q with Q | Q
     .exact M x Q
     .simp at Q;rw[Q];simp[qZ,b1,b2]
  .obtain rfl:k=l.length:=by omega
   rw[nH] at M;have O:l.any qZ=false:=by rw[oB];intro x Q;simp[M x Q]
   simp+decide[aa,int];exact M
def XT(l:List cC)(s:ByteArray):Bool:=l.any λx=>decide (x.xe=s)
theorem zjb(l:List cC)(s:ByteArray)(E:l.length<2^40):aq prog 263 [zW l,.str s] (.bool (XT l s)):=by
 refine aF func263 ?_
 simp+decide[f263,int,zW]
 refine cl (λk:Nat=>{n:=19,next:=0,af:=[(0,.d (zW l)),(1,.d (.str s)),(5,.d (int k))],own:=[]})
  (λk=>k<=l.length/\∀ x∈l.take k,¬x.xe=s) (λk=>l.length-k) 0 (by simp) (by simp+decide[int,zW]) ?_
 intro k ⟨K,J⟩
 by_cases H:k<l.length
 .have G:=bG H
  have F:=nF H;have aI:=yh H;obtain⟨x,ex,e1⟩:=bN H;rw[ex] at F aI;by_cases b1:x.xe=s
  .have:XT l s=true:=n_.2 ⟨x,F,by simpa using b1⟩
   rw[this];simp+decide[int,zW,cC.row,H,G,e1,ex,b1]
  .simp+decide[int,zW,cC.row,H,G,e1,ex,b1,aB]
   first | refine⟨λh=>absurd (dA h) b1,λ_=>⟨by omega,k+1,⟨H,λy L=>?_⟩,by omega,by omega⟩⟩ | refine⟨by omega,k+1,⟨H,λy L=>?_⟩,by omega,by omega⟩
   rw[aI] at L;rcases nM.1 L with h | h
   .exact J y h
   .rw[nQ] at h;rw[h];exact b1
 .obtain rfl:k=l.length:=by omega
  rw[nH] at J;have:XT l s=false:=by unfold XT;rw[oB];intro x M;simpa using J x M
  rw[this];simp+decide[int,zW]
def YP(l:List cC)(s:cC):Int:=if Zb s.xe=false then 7 else if Vp s.lc≠0 then Vp s.lc else if XT l s.xe=true then 8 else 0
theorem GY(l:List cC)(s:cC)(H:l.length<2^40)(hs:s.xe.size<=1048576):aq prog 232 [zW l,.agg s.row] (int (YP l s)):=by
 refine aF func232 ?_
 have G:=zjb l s.xe H
 unfold YP
 simp+decide[f232,int,cC.row]
 refine zg (zdo s.xe hs) ?_
 cases F:Zb s.xe with
 |false=>simp+decide[int]
 |true=>
  simp+decide[int];refine zg (zge s.lc) ?_
  by_cases E:Vp s.lc=0
  case neg=>simp+decide[int,E]
  simp+decide[int,E];generalize XT l s.xe=b at G ⊢;refine zg G ?_
  cases b <;> simp+decide[int]
theorem GZ{l:List cC}{s:cC}(h:YP l s=0):xI s.xe=true:=by
 unfold YP at h
 split at h
 .cases h
 .rename_i hg
  rw[Bool.not_eq_false] at hg;unfold Zb at hg;rw[nI] at hg;exact hg.2
theorem F2{l:List cC}{k:Nat}(H:k<l.length)(h:∀ s∈l.take k,xI s.xe=true)(hs:xI l[k].xe=true):∀ s∈l.take (k+1),xI s.xe=true:=by
 rw[nX H]
 intro s G
 rcases nM.1 G with G | G
 .exact h s G
 .rw[nQ] at G;rw[G];exact hs
theorem F3{l:List cC}{k:Nat}(H:k<=l.length)(G:¬k<l.length)(h:∀ s∈l.take k,xI s.xe=true):∀ s∈l,xI s.xe=true:=by
 rw[oa (by omega)] at h;exact h
theorem zdp(e:aP)(O:lV e):cu prog 200 [.agg e.row] (λx=>∃ n,x=int n/\(n=0->((e.aL≠[]\/e.main≠0)/\e.aL.length<=5)/\∀ s∈e.aL,xI s.xe=true)):=by
 have M:=O.aL.1
 refine dW func200 ?_
 by_cases Q:e.main=0
 .by_cases T:e.main=e.id
  .have K:e.id=0:=by omega
   simp+decide[f200,int,aP.row,Q,K]
  have K:¬0=e.id:=by omega
  by_cases V:(5:Int)<e.aL.length
  .simp+decide[f200,int,aP.row,zW,Q,K,V]
  by_cases X:(e.aL.length:Int)=0
  .simp+decide[f200,int,aP.row,zW,Q,K,V,X]
  simp+decide[f200,int,aP.row,zW,Q,K,V,X];intro L;refine cl (λk:Nat=>{n:=52,next:=1,af:=[(1,.bp 0 0),(3,.d (int k))],own:=[(0,.box 102 (e.row.map .d))]})
   (λk=>k<=e.aL.length/\∀ s∈e.aL.take k,xI s.xe=true) (λk=>e.aL.length-k) 0 (by simp) (by simp+decide[int,aa,aP.row,zW,Q]) ?_
  intro k ⟨Y,F⟩;by_cases H:k<e.aL.length
  .have G:=bG H
   have E:=O.aL.2 e.aL[k] (nF H);obtain⟨s,es,es1⟩:=bN H;rw[es] at E;have Z:=GY (e.aL.take k) s (by rw[nR];omega) E.1
   have eS:zW (e.aL.take k) = .sl ((e.aL.map cC.row).take k):=by simp[zW,rG]
   rw[eS] at Z;have J:∀ a∈e.aL,a.row.length=2:=λa _=>rfl
   simp+decide[int,aa,zW,aP.row,H,G,es,es1];refine⟨by omega,J,by rfl,by simp[cC.row],?_⟩
   refine bw Z ?_
   by_cases A:YP (e.aL.take k) s=0
   case neg=>simp+decide[int,A]
   rw[A];simp+decide[int,aa,zW,aP.row,aB];exact⟨by omega,k+1,⟨H,F2 H F (by rw[es];exact GZ A)⟩,by omega,by omega⟩
  .have G:¬(k:Int)<e.aL.length:=by omega
   simp+decide[int,aa,zW,aP.row,G];exact⟨⟨L,by omega⟩,F3 Y H F⟩
 .simp+decide[f200,int,aP.row,zW,Q]
  refine zg (Vo e.main) ?_
  cases cq:kZ e.main with
  |false=>simp+decide[int]
  |true=>
   by_cases T:e.main=e.id
   .simp+decide[int,T]
   by_cases V:(5:Int)<e.aL.length
   .simp+decide[int,zW,T,V]
   by_cases X:(e.aL.length:Int)=0
   .simp+decide[int,zW,Q,T,V,X]
    refine cl (λk:Nat=>{n:=52,next:=1,af:=[(1,.bp 0 0),(3,.d (int k))],own:=[(0,.box 102 (e.row.map .d))]})
     (λk=>k<=e.aL.length/\∀ s∈e.aL.take k,xI s.xe=true) (λk=>e.aL.length-k) 0 (by simp) (by simp+decide[int,aa,aP.row,zW,Q]) ?_
    intro k ⟨Y,F⟩;by_cases H:k<e.aL.length
    .have G:=bG H
     have E:=O.aL.2 e.aL[k] (nF H);obtain⟨s,es,es1⟩:=bN H;rw[es] at E;have Z:=GY (e.aL.take k) s (by rw[nR];omega) E.1
     have eS:zW (e.aL.take k) = .sl ((e.aL.map cC.row).take k):=by simp[zW,rG]
     rw[eS] at Z;have J:∀ a∈e.aL,a.row.length=2:=λa _=>rfl
     simp+decide[int,aa,zW,aP.row,H,G,es,es1];refine⟨by omega,J,by rfl,by simp[cC.row],?_⟩
     refine bw Z ?_
     by_cases A:YP (e.aL.take k) s=0
     case neg=>simp+decide[int,A]
     rw[A];simp+decide[int,aa,zW,aP.row,aB];exact⟨by omega,k+1,⟨H,F2 H F (by rw[es];exact GZ A)⟩,by omega,by omega⟩
    .have G:¬(k:Int)<e.aL.length:=by omega
     simp+decide[int,aa,zW,aP.row,G];exact⟨by omega,F3 Y H F⟩
   .have L:¬e.aL=[]:=by intro h;rw[h] at X;simp at X
    simp+decide[int,zW,Q,T,V,X,L];refine cl (λk:Nat=>{n:=52,next:=1,af:=[(1,.bp 0 0),(3,.d (int k))],own:=[(0,.box 102 (e.row.map .d))]})
     (λk=>k<=e.aL.length/\∀ s∈e.aL.take k,xI s.xe=true) (λk=>e.aL.length-k) 0 (by simp) (by simp+decide[int,aa,aP.row,zW,Q]) ?_
    intro k ⟨Y,F⟩;by_cases H:k<e.aL.length
    .have G:=bG H
     have E:=O.aL.2 e.aL[k] (nF H);obtain⟨s,es,es1⟩:=bN H;rw[es] at E;have Z:=GY (e.aL.take k) s (by rw[nR];omega) E.1
     have eS:zW (e.aL.take k) = .sl ((e.aL.map cC.row).take k):=by simp[zW,rG]
     rw[eS] at Z;have J:∀ a∈e.aL,a.row.length=2:=λa _=>rfl
     simp+decide[int,aa,zW,aP.row,H,G,es,es1];refine⟨by omega,J,by rfl,by simp[cC.row],?_⟩
     refine bw Z ?_
     by_cases A:YP (e.aL.take k) s=0
     case neg=>simp+decide[int,A]
     rw[A];simp+decide[int,aa,zW,aP.row,aB];exact⟨by omega,k+1,⟨H,F2 H F (by rw[es];exact GZ A)⟩,by omega,by omega⟩
    .have G:¬(k:Int)<e.aL.length:=by omega
     simp+decide[int,aa,zW,aP.row,G];exact⟨by omega,F3 Y H F⟩
end Go.V
namespace Go.V.Doc
open Go Go.Proofs Tryz
end Go.V.Doc
namespace Go.V.Doc
open Go Go.Proofs Go.Lib Tryz
theorem znr{s:ByteArray}{pos:Nat}(h:pos<s.size):validD (s.data.toList.drop pos)=match gu s pos with
  |none=>false
  |some r=>validD (s.data.toList.drop (pos+r.2)):=by
 have H:s.size=s.data.toList.length:=by rw[oM];rfl
 have G:s.data.toList.drop pos≠[]:=by
  intro e;have:=congrArg List.length e;rw[oO] at this;simp at this;omega
 have F:decodeL (s.data.toList.drop pos)=decodeN (s.size-pos) (zC s pos) (zC s (pos+1)) (zC s (pos+2)) (zC s (pos+3)):=by
  rw[decodeL_N,oO,<-H,getD_dropU,getD_dropU,getD_dropU,getD_dropU];rfl
 rw[validD_step _ G,F]
 have E:=Wm h
 cases K:gu s pos with
 |none=>rw[K] at E;simp only at E;rw[E];simp
 |some r=>
  rw[K] at E;simp only at E;obtain⟨J,L,_,_⟩:=E;rw[J,ge L,tV]
theorem za5(n b0 b1 b2 b3:Nat)(H:b0<256)(G:b1<256)(F:b2<256)(E:b3<256)(K:¬((decodeN n b0 b1 b2 b3).1=65533/\(decodeN n b0 b1 b2 b3).2=1)):
  (decodeN n b0 b1 b2 b3=(b0,1))\/(128<=(decodeN n b0 b1 b2 b3).1/\128<=b0/\(1<(decodeN n b0 b1 b2 b3).2->128<=b1)/\(2<(decodeN n b0 b1 b2 b3).2->128<=b2)/\(3<(decodeN n b0 b1 b2 b3).2->128<=b3)/\(decodeN n b0 b1 b2 b3).2<=4):=by
 revert K
 unfold decodeN
 repeat' split
 all_goals intro K
 all_goals first | (left;rfl) | (exfalso;exact K ⟨rfl,rfl⟩) | (right;simp only;refine⟨by omega,by omega,λ_=>by omega,λ_=>by omega,λ_=>by omega,by omega⟩)
theorem zns{s:ByteArray}{pos:Nat}(h:pos<s.size){r:Nat×Nat}(H:gu s pos=some r):
  qZ (r.1:Int)=true↔∃ j,pos<=j/\j<pos+r.2/\eD (zC s j)=true:=by
 have G:=Wm h
 rw[H] at G
 simp only at G
 obtain⟨F,E,K,J⟩:=G
 have L:=za5 (s.size-pos) (zC s pos) (zC s (pos+1)) (zC s (pos+2)) (zC s (pos+3)) (rn _) (rn _) (rn _) (rn _) (by rw[F];exact E)
 rw[F] at L
 rcases L with L | ⟨g1,g2,g3,g4,g5,g6⟩
 .rw[L]
  simp only[qZ,eD,oS,nD];constructor
  .intro hb;exact⟨pos,by omega,by omega,by omega⟩
  .rintro⟨j,a,b,c⟩
   obtain rfl:j=pos:=by omega
   omega
 .simp only[qZ,eD,oS,nD]
  constructor
  .intro hb;omega
  .rintro⟨j,a,b,c⟩
   exfalso
   have hj:j=pos\/j=pos+1\/j=pos+2\/j=pos+3:=by omega
   rcases hj with rfl | rfl | rfl | rfl
   .omega
   .have:=g3 (by omega);omega
   .have:=g4 (by omega);omega
   .have:=g5 (by omega);omega
theorem F4(s:ByteArray):∀ (m pos:Nat),s.size<=pos+m->pos<=s.size->validD (s.data.toList.drop pos)=(ql s m pos).isSome /\
  ∀ l,ql s m pos=some l->(l.any qZ=true↔∃ j,pos<=j/\j<s.size/\eD (zC s j)=true)
 |0,pos,F,hp=>by
  have H:s.size=s.data.toList.length:=by rw[oM];rfl
  rw[pJ (by omega),validD_nil]
  refine⟨rfl,λl E=>?_⟩
  simp only[ql,pB] at E;subst E;simp only[List.any_nil,ou,false_iff];rintro⟨j,_,_,_⟩;omega
 |m+1,pos,F,hp=>by
  have H:s.size=s.data.toList.length:=by rw[oM];rfl
  by_cases h:pos<s.size
  .rw[znr h]
   simp only[ql,gt h];have K:=Wm h;cases J:gu s pos with
   |none=>exact⟨rfl,λl E=>by cases E⟩
   |some r=>
    rw[J] at K;simp only at K
    obtain⟨i1,i2⟩:=F4 s m (pos+r.2) (by omega) (by omega)
    simp only
    refine⟨by rw[i1];cases ql s m (pos+r.2) <;> rfl,λl E=>?_⟩
    rw[rE] at E;obtain⟨l',G,rfl⟩:=E;rw[Cg,oS,i2 l' G,zns h J];constructor
    .rintro(⟨j,a,b,c⟩ | ⟨j,a,b,c⟩)
     .exact⟨j,by omega,by omega,c⟩
     .exact⟨j,by omega,b,c⟩
    .rintro⟨j,a,b,c⟩
     rcases pe j (pos+r.2) with hj | hj
     .exact .inl ⟨j,a,hj,c⟩
     .exact .inr ⟨j,hj,b,c⟩
  .rw[pJ (by omega),validD_nil]
   simp only[ql,ge h];refine⟨rfl,λl E=>?_⟩
   simp only[pB] at E;subst E;simp only[List.any_nil,ou,false_iff];rintro⟨j,_,_,_⟩;omega
theorem znt(s:ByteArray):c_ s=if 200<s.size then 5 else match ql s s.size 0 with
  |none=>3
  |some l=>if l.any qZ=true then 3 else 0:=by
 unfold c_
 split
 .rfl
 .obtain⟨H,G⟩:=F4 s s.size 0 (by omega) (by omega)
  rw[p_] at H;have F:GK s=(ql s s.size 0).isSome:=H
  rw[F];cases E:ql s s.size 0 with
  |none=>rfl
  |some l=>
   simp only[Option.isSome_some,oV];have:=G l E
   have K:Ws s=true↔l.any qZ=true:=by
    rw[this];unfold Ws;rw[n_];constructor
    .rintro⟨j,hj,K⟩;exact⟨j,by omega,by simpa using hj,K⟩
    .rintro⟨j,_,hj,K⟩;exact⟨j,by simpa using hj,K⟩
   by_cases h:l.any qZ=true
   .rw[gt h,gt (K.2 h)]
   .rw[ge h,ge (λJ=>h (K.1 J))]
end Go.V.Doc
namespace Go.V
open Go Go.Proofs Tryz
end Go.V
namespace Go.V.Doc
open Go Go.Proofs Go.Sort Go.RowKit Tryz
def vT:Nt->Nt->Bool:=ltOf YL
theorem zb0:∀ args w,(callFunc 113 args).run prog w = .ok (.enter 113 args) w:=enters_of func113 (by kernel_rfl) rfl
theorem Hv:∀ w,(isAgg 72).run prog w = .ok true w:=λw=>by kernel_rfl
theorem Hw:∀ w,(Go.sizeOf 72).run prog w = .ok 7 w:=λw=>by kernel_rfl
def F5:Nat->Nat->Array Nt->Array Nt
 |0,_,d=>d
 |k+1,i,d=>F5 k (i+1) (insInner vT 0 i d)
theorem Hy(b:Nat):∀ (k i:Nat) (d:Array Nt),k=b-i->insOuter vT 0 b i d=F5 k i d
 |0,i,d,h=>by unfold insOuter;rw[ge (by omega)];rfl
 |k+1,i,d,h=>by unfold insOuter;rw[gt (by omega),Hy b k (i+1) _ (by omega)];rfl
def vH(l:List Nt):List Nt:=(F5 (l.length-1) 1 l.toArray).toList
theorem Hz(l:List Nt):(Sort.insertionSort vT l.toArray 0 l.length)=(vH l).toArray:=by
 unfold Sort.insertionSort vH
 rw[Hy l.length (l.length-1) (0+1) _ (by omega)]
theorem ztc(T:Nat)(l:List Nt)(F:l≠[])(K:l.length<4611686018427387904)(hs:(vH l).length=l.length):
  aU prog 172 [.ar 0,.d (int 0),.d (int l.length),.fn 113 []] [(0,.aQ T 7 (l.map Nt.row))] 1 (.d (.bE [])) 1 [(0,.aQ T 7 ((vH l).map Nt.row))] []:=by
 refine CO ZV mN F hs ?_
 intro w E β vs G H g cap J L M
 simp only[zi,Sm,R,int] at G
 obtain⟨_,_,rfl,rfl,_,_,rfl,rfl,_,_,rfl,⟨_,rfl,rfl⟩,rfl⟩:=G
 have:=AnyQ.insertionSortCmpFunc zr9 7 Hv Hw Nt.cv ZV.len ZV.cB YL 113 #[] g 0 cap 0 l.length l.toArray w zb0
  (zf6 H L) M J (nU _) (by simp) (by simpa using K)
 change Calls prog 172 _ _ _ at this
 rw[show ltOf YL=vT from rfl,Hz] at this
 simpa using this
end Go.V.Doc
namespace Go.V.Doc
open Go Go.Proofs Tryz
theorem HA(s:ByteArray):aq prog 132 [.str s] (int (c_ s)):=by
 refine aF func132 ?_
 rw[znt]
 by_cases K:200<s.size
 .have F:(200:Int)<s.size:=by omega
  simp+decide[f132,F,K,int]
 have F:¬(200:Int)<s.size:=by omega
 simp+decide[f132,F,K,int]
 refine zg (Wn s (by omega)) ?_
 cases J:ql s s.size 0 with
 |none=>simp+decide[kp]
 |some l=>
  have E:l.length<=s.size:=GI s _ _ _ J
  simp+decide[kp,aa];refine cl (λk:Nat=>{n:=34,next:=0,af:=[(3,.d (aa l)),(5,.d (int k))],own:=[]})
   (λk=>k<=l.length/\∀ x∈l.take k,qZ x=false) (λk=>l.length-k) 0 (by simp) (by simp+decide[int,aa]) ?_
  intro k ⟨L,M⟩;by_cases H:k<l.length
  .have e1:l[k]?=some l[k]:=ac H
   have G:qZ l[k]=true->l.any qZ=true:=λO=>n_.2 ⟨l[k],nF H,O⟩
   by_cases b1:l[k]<32
   .have O:=G (by simp[qZ,b1])
    simp+decide[aa,int,H,b1];exact n_.1 O
   .by_cases b2:l[k]=127
    .have O:=G (by simp[qZ,b2])
     simp+decide[aa,int,H,b2];exact n_.1 O
    .simp+decide[aa,int,H,b1,b2,aB]
     refine⟨by omega,k+1,⟨H,?_⟩,by omega,by omega⟩
     rw[nX H];intro x Q;rcases nM.1 Q with Q | Q
     .exact M x Q
     .simp at Q;rw[Q];simp[qZ,b1,b2]
  .obtain rfl:k=l.length:=by omega
   rw[nH] at M;have O:l.any qZ=false:=by rw[oB];intro x Q;simp[M x Q]
   simp+decide[aa,int];exact M
def yQ(f t:Int):Bool:=decide (0<=f)&&decide (f<t)&&decide (t<=86400000)
def zv(d:Dc)(i:Int):cD:=d.al[i.toNat]?.getD default
def wq(d:Dc)(n p:Nt):Bool:=
 if Vn d.al n.aZ=true then yQ n.fr n.t_o&&(if (zv d n.aZ).kind=0 then decide (0<=n.fr)&&decide (n.t_o<=d.len) else decide (p.fr<=n.fr)&&decide (n.t_o<=p.t_o))
 else decide (n.fr=0)&&decide (n.t_o=0)
def Vq(d:Dc)(n:Nt):Int:=
 if c_ n.cF=0 then
  (if (if (zv d n.aZ).kind=0 then decide (n.aE=0) else (zp d.ae n.aE).2&&decide ((zp d.ae n.aE).1.aZ=(zv d n.aZ).aE))=true then
   (if wq d n (zp d.ae n.aE).1=true then (if n.cc<0\/(n.cc≠0/\(zv d n.aZ).kind≠3) then 1 else 0) else 12)
  else 13)
 else c_ n.cF
end Go.V.Doc
namespace Go.V.Doc
open Go Go.Proofs Go.Sort Go.RowKit Tryz
theorem HB{a b:Nt}:vT a b=true↔a.aE<b.aE\/(a.aE=b.aE/\(a.fr<b.fr\/(a.fr=b.fr/\a.cc<b.cc))):=by
 unfold vT ltOf YL
 rw[nD]
 simp only[gx,qh]
 repeat' split
 all_goals omega
theorem Ww{a b:Nt}:vT a b=false↔¬(a.aE<b.aE\/(a.aE=b.aE/\(a.fr<b.fr\/(a.fr=b.fr/\a.cc<b.cc)))):=by
 rw[<-HB,pW]
theorem HC:SWO vT where
 irrefl:=λx=>by rw[Ww];omega
 trans:=λx y z H h2=>by rw[HB] at *;omega
 ntrans:=λx y z H h2=>by rw[Ww] at *;omega
def xQ(l:List Nt):List Nt:=(pdq vT l.toArray 0 l.length (Lib.bitLen l.length) true true).toList
theorem F6(l:List Nt):PermIn 0 l.length l.toArray (pdq vT l.toArray 0 l.length (Lib.bitLen l.length) true true)/\SortedIn vT 0 l.length (pdq vT l.toArray 0 l.length (Lib.bitLen l.length) true true):=
 pdq_sorts vT HC l.toArray 0 l.length (Lib.bitLen l.length) true true (nU _) (by simp) (Or.inl rfl)
theorem Wx(l:List Nt):(xQ l).length=l.length:=by
 have:=(F6 l).1.1
 unfold xQ
 rw[oM,this];simp
theorem HD(l:List Nt):(xQ l).Perm l:=by
 obtain⟨H,_,G⟩:=(F6 l).1
 unfold xQ
 generalize pdq vT l.toArray 0 l.length (Lib.bitLen l.length) true true=A at H G
 have e1:A.extract 0 l.length=A:=by rw[show l.length=A.size by rw[H];simp];simp
 have e2:l.toArray.extract 0 l.length=l.toArray:=by rw[show l.length=l.toArray.size by simp];simp
 rw[e1,e2] at G
 simpa using G
theorem zb1(l:List Nt):(xQ l).Pairwise λa b=>vT b a=false:=by
 have hs:=(F6 l).2
 have G:=Wx l
 unfold xQ at G ⊢
 generalize pdq vT l.toArray 0 l.length (Lib.bitLen l.length) true true=A at hs G
 rw[od]
 intro i j hi hj H
 rw[oM] at G
 have:=hs i j (nU _) H (by rw[oM] at hj;omega)
 rw[oM] at hi hj
 simpa[Ay,hi,hj] using this
abbrev F7:List (Nat×am):=[(0,.aQ 72 7 [])]
theorem zq1:aU prog 172 [.ar 0,.d (int 0),.d (int 0),.fn 113 []] F7 1 (.bE []) 1 F7 []:=by
 refine dd func172 (by simp[ah.a_,ah.lo]) ?_
 simp+decide[f172,int]
 refine⟨by unfold aB;omega,cl (λ_:Unit=>{n:=53,next:=1,af:=[(2,.d (int 0)),(8,.d (int 1))],own:=F7,ai:=1})
  (λ_=>True) (λ_=>0) () trivial (by simp+decide[int]) ?_⟩
 intro _ _
 simp+decide[int]
theorem znu:aq prog 181 [.int .u64 0] (int 0):=by
 refine aF func181 ?_
 simp+decide[f181,int,cY,wC,show IntKind.u8.wrap 0=0 from rfl]
 rw[show IntKind.i64.wrap 0=0 from rfl];unfold aB;omega
theorem zq2:aq prog 122 [.int .u64 0] (int 0):=by
 refine aF func122 ?_
 simp+decide[f122,int]
 refine zg (znu) ?_
 simp+decide[int]
theorem aU.unit{P:Program}{f:Nat}{args:List ah}{own:List (Nat×am)}{n nx:Nat}{own':List (Nat×am)}{mv:List Nat}(h:aU P f args own n (.bE []) nx own' mv):aU P f args own n (.d (.bE [])) nx own' mv:=by
 refine⟨h.1,λX w0 β w vs hβ H hs=>(h.2 X w0 β w vs hβ H hs).mono λe w' G=>?_⟩
 obtain⟨β',v,F,E,K,J⟩:=G
 refine⟨β',v,F,E,by simp[ah.lo],?_⟩
 simp only[Sm,zi] at J
 obtain⟨vs',rfl,rfl⟩:=J
 simp[Sm,R,zI]
end Go.V.Doc
namespace Go.V.Doc
open Go Go.Proofs Tryz
def zX(l:List Nt)(t:Int):List Nt:=l.filter λn=>decide (n.aZ=t)
def yR(s:List Nt)(i:Nat):Bool:=decide (i=0) || !decide ((s[i-1]?.getD default).aE=(s[i]?.getD default).aE)
def fJ(s:List Nt)(i:Nat):Bool:=decide (i+1=s.length) || !decide ((s[i+1]?.getD default).aE=(s[i]?.getD default).aE)
def YQ(ae:List Nt)(kind:Int)(s:List Nt):Nat->Nat->Int->Int
 |0,_,why=>why
 |m+1,i,why=>if i<s.length then
   (let n:=s[i]?.getD default
    let pv:=s[i-1]?.getD default
    let p:=(zp ae n.aE).1
    if kind=0\/kind=1\/kind=2 then
     (if yR s i=false/\n.fr<pv.t_o then 15
     else YQ ae kind s m (i+1) (if kind=1/\((yR s i=true/\n.fr≠p.fr)\/(yR s i=false/\pv.t_o≠n.fr)\/(fJ s i=true/\n.t_o≠p.t_o)) then 16 else why))
    else if kind=3 then YQ ae kind s m (i+1) (if (yR s i=true/\n.cc≠0)\/(yR s i=false/\n.cc≠IntKind.i64.wrap (pv.cc+1)) then 10 else why)
    else if kind=4 then YQ ae kind s m (i+1) (if yR s i=false then 8 else why)
    else YQ ae kind s m (i+1) why)
  else why
def Vr(d:Dc)(t:Int):Int:=YQ d.ae (zv d t).kind (xQ (zX d.ae t)) (zX d.ae t).length 0 0
def vU(d:Dc):Nat->Nat->Int
 |0,_=>0
 |m+1,i=>if i<d.ae.length then
   (let n:=d.ae[i]?.getD default
    if n.id<1\/1099511627776<n.id then 2 else if i≠0/\n.id<=(d.ae[i-1]?.getD default).id then 10
    else if n.aZ<0\/(d.al.length:Int)<=n.aZ then 2 else if Vq d n=0 then vU d m (i+1) else Vq d n)
  else 0
def Wy(d:Dc):Nat->Nat->Int
 |0,_=>0
 |m+1,i=>if i<d.al.length then (if Vr d i=0 then Wy d m (i+1) else Vr d i) else 0
def F8(d:Dc):Int:=
 if ku d.al≠0 then ku d.al else if d.len<0\/86400000<d.len then 12 else if 300<d.ae.length then 11
 else if vU d d.ae.length 0≠0 then vU d d.ae.length 0 else Wy d d.al.length 0
theorem v7(k:Int):aq prog 135 [int k] (.bool (zR k)):=by
 refine aF func135 ?_
 by_cases H:k=0
 .subst H;simp+decide[f135,int,zR]
 by_cases G:k=1
 .subst G;simp+decide[f135,int,zR]
 by_cases F:k=2
 .subst F;simp+decide[f135,int,zR]
 simp+decide[f135,int,zR,H,G,F]
theorem qm(f t:Int):aq prog 193 [.agg [int f,int t]] (.bool (yQ f t)):=by
 refine aF func193 ?_
 by_cases H:0<=f
 case neg=>simp+decide[f193,int,yQ,H]
 by_cases G:f<t
 case neg=>simp+decide[f193,int,yQ,H,G]
 simp+decide[f193,int,yQ,H,G]
def ky(d:Dc)(n:Nt):Int:=
 if (if (zv d n.aZ).kind=0 then decide (n.aE=0) else (zp d.ae n.aE).2&&decide ((zp d.ae n.aE).1.aZ=(zv d n.aZ).aE))=true then
  (if wq d n (zp d.ae n.aE).1=true then (if n.cc<0\/(n.cc≠0/\(zv d n.aZ).kind≠3) then 1 else 0) else 12)
 else 13
theorem XU(d:Dc)(n:Nt):Vq d n=if c_ n.cF=0 then ky d n else c_ n.cF:=rfl
theorem zjc(d:Dc)(n:Nt)(E:d.al.length<2^62)(K:d.ae.length<2^62)(J:0<=n.aZ)(L:n.aZ<d.al.length):
  aq prog 133 [zn d,.agg n.row] (int (ky d n)):=by
 refine aF func133 ?_
 obtain⟨ni,nt,np,nf,nto,nr,nx⟩:=n
 simp only at J L
 obtain⟨k,rfl⟩:∃ k:Nat,nt=k:=⟨nt.toNat,by omega⟩
 have M:k<d.al.length:=by omega
 obtain⟨t,ek,e1⟩:=bN M
 have et:zv d (k:Int)=t:=by simp[zv,e1]
 obtain⟨tn,kd,tr,tp⟩:=t
 have F:Vn d.al (k:Int)=zR kd:=by
  unfold Vn;rw[pI (by omega),pI (by omega),pR,e1];rfl
 simp+decide[f133,zn,Dc.row,Nt.row,cD.row,int,aa,zq,zw,M,e1,ek]
 refine zg (jL d np K) ?_
 have H:ky d ⟨ni,k,np,nf,nto,nr,nx⟩=if (if kd=0 then decide (np=0) else (zp d.ae np).2&&decide ((zp d.ae np).1.aZ=tp))=true then
  (if wq d ⟨ni,k,np,nf,nto,nr,nx⟩ (zp d.ae np).1=true then (if nr<0\/(nr≠0/\kd≠3) then 1 else 0) else 12) else 13:=by
  simp only[ky,et]
 rw[H]
 have G:∀ q:Nt,wq d ⟨ni,k,np,nf,nto,nr,nx⟩ q=if zR kd=true then yQ nf nto&&(if kd=0 then decide (0<=nf)&&decide (nto<=d.len) else decide (q.fr<=nf)&&decide (nto<=q.t_o))
   else decide (nf=0)&&decide (nto=0):=by
  intro q;simp only[wq,et,F]
 simp only[G]
 clear H G
 obtain⟨⟨p,ok⟩,eg⟩:∃ g,zp d.ae np=g:=⟨_,rfl⟩
 rw[eg]
 obtain⟨pi,pt,pp,pf,pto,prr,px⟩:=p
 simp only[cb]
 by_cases k0:kd=0
 .subst k0
  have ak:zR 0=true:=rfl
  by_cases p0:np=0
  case neg=>
   repeat first | refine zg (v7 _) ?_ | refine zg (qm _ _) ?_ | simp+decide[int,Nt.row,cD.row,ak,p0]
  subst p0;by_cases O:yQ nf nto=true
  case neg=>
   repeat first | refine zg (v7 _) ?_ | refine zg (qm _ _) ?_ | simp+decide[int,Nt.row,cD.row,ak,O]
  have Q:0<=nf:=by simp only[yQ,nI,nD] at O;omega
  by_cases T:nto<=d.len
  case neg=>
   repeat first | refine zg (v7 _) ?_ | refine zg (qm _ _) ?_ | simp+decide[int,Nt.row,cD.row,ak,O,Q,T]
  by_cases r1:nr<0
  .skip
   repeat first | refine zg (v7 _) ?_ | refine zg (qm _ _) ?_ | simp+decide[int,Nt.row,cD.row,ak,O,Q,T,r1]
  by_cases r2:nr=0
  .skip
   repeat first | refine zg (v7 _) ?_ | refine zg (qm _ _) ?_ | simp+decide[int,Nt.row,cD.row,ak,O,Q,T,r1,r2]
  repeat first | refine zg (v7 _) ?_ | refine zg (qm _ _) ?_ | simp+decide[int,Nt.row,cD.row,ak,O,Q,T,r1,r2]
 cases ok with
 |false=>
  repeat first | refine zg (v7 _) ?_ | refine zg (qm _ _) ?_ | simp+decide[int,Nt.row,cD.row,k0]
 |true=>
  by_cases pq:pt=tp
  case neg=>
   repeat first | refine zg (v7 _) ?_ | refine zg (qm _ _) ?_ | simp+decide[int,Nt.row,cD.row,k0,pq]
  by_cases V:zR kd=true
  .skip
   have k3:¬kd=3:=by rintro rfl;exact absurd V (by decide)
   by_cases O:yQ nf nto=true
   case neg=>
    repeat first | refine zg (v7 _) ?_ | refine zg (qm _ _) ?_ | simp+decide[int,Nt.row,cD.row,k0,pq,V,O]
   by_cases b1:pf<=nf
   case neg=>
    repeat first | refine zg (v7 _) ?_ | refine zg (qm _ _) ?_ | simp+decide[int,Nt.row,cD.row,k0,pq,V,O,b1]
   by_cases b2:nto<=pto
   case neg=>
    repeat first | refine zg (v7 _) ?_ | refine zg (qm _ _) ?_ | simp+decide[int,Nt.row,cD.row,k0,pq,V,O,b1,b2]
   by_cases r1:nr<0
   .skip
    repeat first | refine zg (v7 _) ?_ | refine zg (qm _ _) ?_ | simp+decide[int,Nt.row,cD.row,k0,pq,V,O,b1,b2,k3,r1]
   by_cases r2:nr=0
   .skip
    repeat first | refine zg (v7 _) ?_ | refine zg (qm _ _) ?_ | simp+decide[int,Nt.row,cD.row,k0,pq,V,O,b1,b2,k3,r1,r2]
   repeat first | refine zg (v7 _) ?_ | refine zg (qm _ _) ?_ | simp+decide[int,Nt.row,cD.row,k0,pq,V,O,b1,b2,k3,r1,r2]
  by_cases z1:nf=0
  case neg=>
   repeat first | refine zg (v7 _) ?_ | refine zg (qm _ _) ?_ | simp+decide[int,Nt.row,cD.row,k0,pq,V,z1]
  by_cases z2:nto=0
  case neg=>
   repeat first | refine zg (v7 _) ?_ | refine zg (qm _ _) ?_ | simp+decide[int,Nt.row,cD.row,k0,pq,V,z1,z2]
  by_cases r1:nr<0
  .skip
   repeat first | refine zg (v7 _) ?_ | refine zg (qm _ _) ?_ | simp+decide[int,Nt.row,cD.row,k0,pq,V,z1,z2,r1]
  by_cases r2:nr=0
  .skip
   repeat first | refine zg (v7 _) ?_ | refine zg (qm _ _) ?_ | simp+decide[int,Nt.row,cD.row,k0,pq,V,z1,z2,r1,r2]
  by_cases r3:kd=3
  .skip
   subst r3;repeat first | refine zg (v7 _) ?_ | refine zg (qm _ _) ?_ | simp+decide[int,Nt.row,cD.row,k0,pq,V,z1,z2,r1,r2]
  repeat first | refine zg (v7 _) ?_ | refine zg (qm _ _) ?_ | simp+decide[int,Nt.row,cD.row,k0,pq,V,z1,z2,r1,r2,r3]
def wt(d:Dc)(i:Nat):Int:=
 let n:=d.ae[i]?.getD default
 if n.id<1\/1099511627776<n.id then 2 else if i≠0/\n.id<=(d.ae[i-1]?.getD default).id then 10
 else if n.aZ<0\/(d.al.length:Int)<=n.aZ then 2 else Vq d n
theorem F9(d:Dc):∀ (m i:Nat),vU d (m+1) i=if i<d.ae.length then (if wt d i=0 then vU d m (i+1) else wt d i) else 0:=by
 intro m i
 simp only[vU,wt]
 split
 .split
  .simp
  .split
   .simp
   .split
    .simp
    .rfl
 .rfl
theorem zb2(d:Dc)(i:Nat)(hi:i<d.ae.length)(L:d.al.length<2^62)(M:d.ae.length<2^62)(O:∀ n∈d.ae,n.cF.size<=9223372036854775807):
  aq prog 80 [zn d,int i] (int (wt d i)):=by
 refine aF func80 ?_
 have H:(i:Int)<d.ae.length:=by omega
 obtain⟨n,en'⟩:∃ n,d.ae[i]=n:=⟨_,rfl⟩
 have en:d.ae[i]?=some n:=by rw[ac hi,en']
 have K:=O n (by rw[<-en'];exact nF hi)
 have E:=λa b=>zjc d n L M a b
 have Q:wt d i=if n.id<1\/1099511627776<n.id then 2 else if i≠0/\n.id<=(d.ae[i-1]?.getD default).id then 10
  else if n.aZ<0\/(d.al.length:Int)<=n.aZ then 2 else if c_ n.cF=0 then ky d n else c_ n.cF:=by
  simp only[wt,en,nW,XU]
 rw[Q]
 clear Q
 have B:True:=trivial
 by_cases a1:n.id<1
 .simp+decide[f80,zn,Dc.row,zq,Nt.row,int,aa,hi,H,en,en',a1]
 by_cases a2:1099511627776<n.id
 .simp+decide[f80,zn,Dc.row,zq,Nt.row,int,aa,hi,H,en,en',a1,a2]
 have ck:∀ (J:¬(i≠0/\n.id<=(d.ae[i-1]?.getD default).id)),True:=λ_=>trivial
 cases i with
 |zero=>
  by_cases b1:n.aZ<0
  .simp+decide[f80,zn,Dc.row,zq,Nt.row,int,aa,hi,H,en,en',a1,a2,b1]
  by_cases b2:(d.al.length:Int)<=n.aZ
  .simp+decide[f80,zn,Dc.row,zq,Nt.row,int,aa,zw,hi,H,en,en',a1,a2,b1,b2]
  simp+decide[f80,zn,Dc.row,zq,Nt.row,int,aa,zw,hi,H,en,en',a1,a2,b1,b2];refine zg (HA n.cF) ?_
  by_cases T:c_ n.cF=0
  case neg=>simp+decide[int,T]
  simp+decide[int,T];refine zg (E (by omega) (by omega)) ?_
  simp+decide[int]
 |succ j=>
  have F:j<d.ae.length:=by omega
  have G:(j:Int)<d.ae.length:=by omega
  obtain⟨pv,ep'⟩:∃ pv,d.ae[j]=pv:=⟨_,rfl⟩;have ep:d.ae[j]?=some pv:=by rw[ac F,ep']
  have j0:(0:Int)<(j:Int)+1:=by omega
  have j1:(j:Int)+1-1=j:=by omega
  have jz:¬(j:Int)+1=0:=by omega
  have V:(j:Int)+1<d.ae.length:=by omega
  have tn1:((j:Int)+1).toNat=j+1:=by omega
  have g0:(0:Int)<=(j:Int)+1:=by omega
  have g1 : -9223372036854775808<=(j:Int):=by omega
  have g2:(j:Int)<=9223372036854775807:=by omega
  by_cases c1:n.id<=pv.id
  .simp+decide[f80,zn,Dc.row,zq,Nt.row,int,aa,hi,H,en,en',a1,a2,F,G,ep,ep',j0,j1,V,tn1,c1,aB,g0,g1,g2]
  by_cases b1:n.aZ<0
  .simp+decide[f80,zn,Dc.row,zq,Nt.row,int,aa,hi,H,en,en',a1,a2,F,G,ep,ep',j0,j1,V,tn1,c1,aB,g0,g1,g2,b1]
  by_cases b2:(d.al.length:Int)<=n.aZ
  .simp+decide[f80,zn,Dc.row,zq,Nt.row,int,aa,zw,hi,H,en,en',a1,a2,F,G,ep,ep',j0,j1,V,tn1,c1,aB,g0,g1,g2,b1,b2]
  simp+decide[f80,zn,Dc.row,zq,Nt.row,int,aa,zw,hi,H,en,en',a1,a2,F,G,ep,ep',j0,j1,V,tn1,c1,aB,g0,g1,g2,b1,b2];refine zg (HA n.cF) ?_
  by_cases T:c_ n.cF=0
  case neg=>simp+decide[int,T]
  simp+decide[int,T];refine zg (E (by omega) (by omega)) ?_
  simp+decide[int]
structure Sp where
 (fr:Int)
 (t_o : Int)
 deriving Inhabited,DecidableEq
def Sp.row(s:Sp):List D:=[int s.fr,int s.t_o]
def xR(l:List Sp):D:=.sl (l.map Sp.row)
abbrev Sp.rt(s:Sp):Bool:=yQ s.fr s.t_o
def u0(x s:Sp):List Sp:=(if yQ x.fr (min x.t_o s.fr)=true then [⟨x.fr,min x.t_o s.fr⟩] else [])++(if yQ (max x.fr s.t_o) x.t_o=true then [⟨max x.fr s.t_o,x.t_o⟩] else [])
def qN(l:List Sp)(s:Sp):List Sp:=l.flatMap λx=>u0 x s
def vj(a b:List Sp):List Sp:=b.foldl (λout y=>if y.rt=true then qN out y else out) a
def kz(l:List Sp)(s:Sp):Bool:=s.rt&&(vj [s] l).isEmpty
theorem znv(x s:Sp):(u0 x s).length<=2:=by
 unfold u0;split <;> split <;> simp
theorem zdq(l:List Sp)(s:Sp):(qN l s).length<=2*l.length:=by
 unfold qN
 induction l with
 |nil=>simp
 |cons x r ih=>
  have:=znv x s
  rw[pz,nO,nP];omega
theorem zb3{l:List Sp}{s:Sp}{k:Nat}(h:k<l.length):qN (l.take (k+1)) s=qN (l.take k) s++u0 l[k] s:=by
 unfold qN
 rw[bq h,oW];simp
def vk(l:List Sp):Int:=(l.map λx=>x.t_o-x.fr).sum
theorem zb4(a b:List Sp):vk (a++b)=vk a+vk b:=by simp[vk]
theorem znw{x s:Sp}(H:x.rt=true)(hs:s.rt=true):vk (u0 x s)<=x.t_o-x.fr:=by
 simp only[Sp.rt,yQ,nI,nD] at H hs
 unfold u0
 split <;> split <;> simp[vk] <;> omega
theorem zq3(x s:Sp):∀ y∈u0 x s,y.rt=true:=by
 intro y H
 unfold u0 at H
 rcases nM.1 H with h | h
 .split at h
  .rename_i e;simp at h;subst h;exact e
  .cases h
 .split at h
  .rename_i e;simp at h;subst h;exact e
  .cases h
theorem HE{l:List Sp}{s:Sp}:∀ y∈qN l s,y.rt=true:=by
 intro y H
 unfold qN at H
 obtain⟨x,_,h⟩:=po.1 H
 exact zq3 x s y h
theorem HF{s:Sp}(hs:s.rt=true):∀ {l:List Sp},(∀ x∈l,x.rt=true)->vk (qN l s)<=vk l
 | [],_=>by simp[qN,vk]
 |x::r,h=>by
  have H:=znw (h x (by simp)) hs
  have G:=HF hs (l:=r) (λy F=>h y (by simp[F]))
  have e1:qN (x::r) s=u0 x s++qN r s:=by unfold qN;rw[pz]
  have e2:vk (x::r)=(x.t_o-x.fr)+vk r:=by simp[vk]
  rw[e1,zb4,e2];omega
theorem HG:∀ {l:List Sp},(∀ x∈l,x.rt=true)->(l.length:Int)<=vk l
 | [],_=>by simp[vk]
 |x::r,h=>by
  have H:=h x (by simp)
  simp only[Sp.rt,yQ,nI,nD] at H;have G:=HG (l:=r) (λy F=>h y (by simp[F]))
  have e2:vk (x::r)=(x.t_o-x.fr)+vk r:=by simp[vk]
  rw[e2,nP];omega
theorem Wz:∀ (b a:List Sp),(∀ x∈a,x.rt=true)->(∀ x∈vj a b,x.rt=true)/\vk (vj a b)<=vk a
 | [],a,h=>⟨h,wx _⟩
 |y::r,a,h=>by
  have e:vj a (y::r)=vj (if y.rt=true then qN a y else a) r:=rfl
  rw[e];by_cases H:y.rt=true
  .rw[gt H]
   have G:=Wz r (qN a y) HE;have F:=HF H h;exact⟨G.1,by omega⟩
  .rw[ge H];exact Wz r a h
theorem zjd{s:Sp}(hs:s.rt=true)(b:List Sp):(vj [s] b).length<=86400000:=by
 obtain⟨H,G⟩:=Wz b [s] (by simpa using hs)
 have F:=HG H
 simp only[Sp.rt,yQ,nI,nD] at hs
 have E:vk [s]=s.t_o-s.fr:=by simp[vk]
 omega
theorem zgf{a b:List Sp}{k:Nat}(h:k<b.length):vj a (b.take (k+1))=if b[k].rt=true then qN (vj a (b.take k)) b[k] else vj a (b.take k):=by
 unfold vj
 rw[bq h,oI];rfl
theorem zb5(s:Sp):aq prog 259 [xR [],.agg s.row] (xR [s]):=by
 refine fY func259 [2] ?_
 simp+decide[f259,xR,Sp.row,int]
 refine cl (λk:Nat=>{n:=69,next:=4,af:=[(0,.d (.sl [])),(3,.bp 0 0),(5,.ar 2),(6,.ar 3),(7,.d (.int .i64 k))],own:=[(0,.box 70 [.d (int s.fr),.d (int s.t_o)]),(2,.aQ 70 2 []),(3,.aQ 70 2 [])]})
  (λk=>k=0) (λk=>0) 0 (by simp) (by simp+decide[int]) ?_
 rintro k rfl
 simp+decide[int,maxLen]
theorem zgg(l:List Sp)(s:Sp)(E:l.length<2^40):aq prog 228 [xR l,.agg s.row] (xR (qN l s)):=by
 refine fY func228 [2] ?_
 simp+decide[f228,Sp.row,int]
 refine dg (λk:Nat=>{n:=57,next:=3,af:=[(0,.d (xR l)),(3,.bp 0 0),(5,.ar 2),(6,.d (.int .i64 k))],own:=[(0,.box 70 [.d (int s.fr),.d (int s.t_o)]),(2,.aQ 70 2 ((qN (l.take k) s).map Sp.row))],aA:=[2]}) l.length (by simp+decide[int,qN]) ?_
 intro k K
 by_cases H:k<l.length
 .have G:=bG H
  obtain⟨x,ex'⟩:∃ x,l[k]=x:=⟨_,rfl⟩;have ex:l[k]?=some x:=by rw[ac H,ex']
  have aI:=zb3 (s:=s) H;rw[ex'] at aI;have J:=zdq (l.take k) s;have F:(l.take k).length=k:=by rw[nR];omega
  rw[F] at J;generalize qN (l.take k) s=W at J aI ⊢;simp+decide[int,xR,G];have m1:(if s.fr<x.t_o then s.fr else x.t_o)=min x.t_o s.fr:=by rw[Int.min_def];split <;> split <;> omega
  have m2:(if x.fr<s.t_o then s.t_o else x.fr)=max x.fr s.t_o:=by rw[Int.max_def];split <;> split <;> omega
  refine kh 16 [] ?_
  simp+decide[int,Sp.row,H,G,ex'];refine⟨by rfl,?_⟩
  refine kh 16 [] ?_
  simp+decide[int,Sp.row,H,G,ex'];refine⟨by rfl,?_⟩
  rw[m1,m2];have L:u0 x s=(if yQ x.fr (min x.t_o s.fr)=true then [⟨x.fr,min x.t_o s.fr⟩] else [])++(if yQ (max x.fr s.t_o) x.t_o=true then [⟨max x.fr s.t_o,x.t_o⟩] else []):=rfl
  generalize min x.t_o s.fr=mn at L ⊢;generalize max x.fr s.t_o=mx at L ⊢;refine zg (qm _ _) ?_
  by_cases r1:yQ x.fr mn=true
  .rw[gt r1] at L
   simp+decide[r1];refine⟨by omega,by unfold maxLen;omega,?_⟩
   refine zg (qm _ _) ?_
   by_cases r2:yQ mx x.t_o=true
   .rw[gt r2] at L
    rw[L] at aI;simp+decide[r2,aB];refine⟨by omega,by unfold maxLen;omega,by omega,k+1,H,by omega,by omega,?_⟩
    rw[aI];simp[Sp.row,int]
   .rw[ge r2] at L
    rw[L] at aI;simp+decide[r2,aB];refine⟨by omega,k+1,H,by omega,by omega,?_⟩
    rw[aI];simp[Sp.row,int]
  .rw[ge r1] at L
   simp+decide[r1];refine zg (qm _ _) ?_
   by_cases r2:yQ mx x.t_o=true
   .rw[gt r2] at L
    rw[L] at aI;simp+decide[r2,aB];refine⟨by omega,by unfold maxLen;omega,by omega,k+1,H,by omega,by omega,?_⟩
    rw[aI];simp[Sp.row,int]
   .rw[ge r2] at L
    rw[L] at aI;simp+decide[r2,aB];refine⟨by omega,k+1,H,by omega,by omega,?_⟩
    rw[aI];simp
 .obtain rfl:k=l.length:=by omega
  rw[nH];simp+decide[int,xR]
theorem zje(s:Sp)(hs:s.rt=true):aq prog 227 [xR [s]] (xR [s]):=by
 refine aF func227 ?_
 simp+decide[f227]
 refine cl (λk:Nat=>match k with
   |0=>{n:=24,next:=2,af:=[(0,.d (xR [s])),(3,.ar 1),(4,.d (int 0))],own:=[(1,.aQ 70 2 [])]}
   |_+1=>{n:=24,next:=2,af:=[(0,.d (xR [s])),(3,.d (xR [s])),(4,.d (int 1))],own:=[]})
  (λk=>k<=1) (λk=>1-k) 0 (by simp) (by simp+decide[int]) ?_
 intro k H
 cases k with
 |zero=>
  simp+decide[int,xR,Sp.row];refine zg (qm _ _) ?_
  simp+decide[hs];refine BS (by rfl) (zb5 s) (by simp) ?_
  simp+decide[aB];exact⟨1,by simp,by simp,by simp+decide[int,Sp.row,xR]⟩
 |succ j=>
  simp+decide[int,xR,Sp.row]
theorem znx(s:Sp)(hs:s.rt=true)(b:List Sp)(E:b.length<2^62):aq prog 194 [xR [s],xR b] (xR (vj [s] b)):=by
 refine aF func194 ?_
 simp+decide[f194]
 refine zg (zje s hs) ?_
 simp+decide
 refine dg (λk:Nat=>{n:=27,next:=1,af:=[(1,.d (xR b)),(5,.d (xR (vj [s] (b.take k)))),(6,.d (int k))],own:=[]}) b.length (by simp+decide[int,vj]) ?_
 intro k K
 by_cases H:k<b.length
 .have G:=bG H
  obtain⟨y,ey'⟩:∃ y,b[k]=y:=⟨_,rfl⟩;have ey:b[k]?=some y:=by rw[ac H,ey']
  have aI:=zgf (a:=[s]) H;rw[ey'] at aI;have F:=zjd hs (b.take k);generalize vj [s] (b.take k)=W at F aI ⊢;simp+decide[int,xR,Sp.row,H,G,ey'];refine zg (qm _ _) ?_
  by_cases r1:yQ y.fr y.t_o=true
  .rw[gt r1] at aI
   simp+decide[int,Sp.row,r1,H,G,ey'];refine zg (zgg W y (by omega)) ?_
   simp+decide[xR,aB];exact⟨by omega,k+1,H,by omega,by rw[aI],by omega⟩
  .rw[ge r1] at aI
   simp+decide[r1,aB];exact⟨by omega,k+1,H,by omega,by rw[aI],by omega⟩
 .obtain rfl:k=b.length:=by omega
  rw[nH];simp+decide[int,xR]
theorem zjf(l:List Sp)(s:Sp)(H:l.length<2^62):aq prog 137 [xR l,.agg s.row] (.bool (kz l s)):=by
 refine aF func137 ?_
 simp+decide[f137,int,Sp.row]
 refine zg (qm _ _) ?_
 by_cases r1:yQ s.fr s.t_o=true
 case neg=>simp+decide[r1,kz]
 simp+decide[r1]
 refine BS (by rfl) (znx s r1 l H) (by simp) ?_
 simp+decide[xR]
 cases G:vj [s] l with
 |nil=>simp+decide[kz,r1,G]
 |cons y r=>
  have:¬(r.length:Int)+1=0:=by omega
  simp+decide[kz,r1,G]
def yc(l:List Nt)(t p:Int):List Nt:=l.filter λn=>decide (n.aZ=t)&&decide (n.aE=p)
theorem HH(l:List Nt)(t p:Int):(yc l t p).length<=l.length:=oz _ _
theorem zdr(d:Dc)(t p:Int)(K:d.ae.length<2^40):aq prog 134 [zn d,int t,int p] (zq (yc d.ae t p)):=by
 refine fY func134 [2] ?_
 simp+decide[f134,zn,Dc.row,int,aa,zw]
 refine dg (λk:Nat=>{n:=44,next:=3,af:=[(1,.d (int t)),(2,.d (int p)),(3,.bp 0 0),(7,.ar 2),(8,.d (.int .i64 k))],own:=[(0,.box 53 (zO d)),(2,.aQ 72 7 ((yc (d.ae.take k) t p).map Nt.row))],aA:=[2]}) d.ae.length (by simp+decide[int,aa,zw,zq,yc]) ?_
 intro k J
 by_cases H:k<d.ae.length
 .have G:=bG H
  obtain⟨n,en'⟩:∃ n,d.ae[k]=n:=⟨_,rfl⟩;have en:d.ae[k]?=some n:=by rw[ac H,en']
  have aI:yc (d.ae.take (k+1)) t p=yc (d.ae.take k) t p++(if n.aZ=t/\n.aE=p then [n] else []):=by
   rw[bq H];unfold yc;rw[pm,en'];by_cases L:n.aZ=t <;> by_cases M:n.aE=p <;> simp[L,M]
  have F:=HH (d.ae.take k) t p;have E:(d.ae.take k).length=k:=by rw[nR];omega
  rw[E] at F;generalize yc (d.ae.take k) t p=W at aI F ⊢;by_cases L:n.aZ=t
  .by_cases M:n.aE=p
   .rw[gt ⟨L,M⟩] at aI
    simp+decide[zq,Nt.row,int,H,G,en',aB,L,M];refine⟨by omega,by unfold maxLen;omega,by omega,k+1,H,by omega,by omega,?_⟩
    rw[aI];simp[Nt.row,int,L,M]
   .rw[ge (λh=>M h.2),oq] at aI
    simp+decide[zq,Nt.row,int,H,G,en',aB,L,M];exact⟨by omega,k+1,H,by omega,by omega,by rw[aI]⟩
  .rw[ge (λh=>L h.1),oq] at aI
   simp+decide[zq,Nt.row,int,H,G,en',aB,L];exact⟨by omega,k+1,H,by omega,by omega,by rw[aI]⟩
 .obtain rfl:k=d.ae.length:=by omega
  rw[nH];simp+decide[zq,int]
def ci(l:List Nt):List Sp:=l.map λn=>⟨n.fr,n.t_o⟩
theorem zny(l:List Nt)(E:l.length<2^40):aq prog 138 [zq l] (xR (ci l)):=by
 refine fY func138 [1] ?_
 simp+decide[f138]
 refine dg (λk:Nat=>{n:=21,next:=2,af:=[(0,.d (zq l)),(3,.ar 1),(4,.d (.int .i64 k))],own:=[(1,.aQ 70 2 ((ci (l.take k)).map Sp.row))],aA:=[1]}) l.length (by simp+decide[zq,ci]) ?_
 intro k K
 by_cases H:k<l.length
 .have G:=bG H
  obtain⟨n,en'⟩:∃ n,l[k]=n:=⟨_,rfl⟩;have en:l[k]?=some n:=by rw[ac H,en']
  have aI:ci (l.take (k+1))=ci (l.take k)++[⟨n.fr,n.t_o⟩]:=by
   rw[bq H];unfold ci;rw[oF,en'];rfl
  have F:(ci (l.take k)).length=k:=by unfold ci;rw[om,nR];omega
  generalize ci (l.take k)=W at aI F ⊢;simp+decide[zq,Nt.row,int,H,G,en',aB];refine⟨by omega,by unfold maxLen;omega,by omega,k+1,H,by omega,by omega,?_⟩
  rw[aI];simp[Sp.row,int]
 .obtain rfl:k=l.length:=by omega
  rw[nH];simp+decide[zq,xR]
def Zc(l:List Nt)(i k:Nat):Bool:=decide ((l[i]?.getD default).fr<(l[k]?.getD default).t_o)&&decide ((l[k]?.getD default).fr<(l[i]?.getD default).t_o)
def vm(l:List Nt):Bool:=(List.range l.length).any λi=>(List.range i).any λk=>Zc l i k
theorem Fa{l:List Nt}:vm l=false↔∀ i,i<l.length->∀ k,k<i->Zc l i k=false:=by
 unfold vm
 rw[oB]
 refine⟨λh i hi k H=>?_,λh i hi=>?_⟩
 .have:=h i (oc.2 hi)
  rw[pW,oB] at this;simpa using this k (oc.2 H)
 .rw[pW,oB]
  intro k H;simpa using h i (oc.1 hi) k (oc.1 H)
theorem zgh{l:List Nt}{i k:Nat}(hi:i<l.length)(H:k<i)(h:Zc l i k=true):vm l=true:=by
 cases e:vm l with
 |true=>rfl
 |false=>rw[Fa] at e;rw[e i hi k H] at h;cases h
theorem Fb(l:List Nt)(L:l.length<2^40):aq prog 136 [zq l] (.bool (vm l)):=by
 refine aF func136 ?_
 simp+decide[f136]
 refine cl (λi:Nat=>{n:=44,next:=0,af:=[(0,.d (zq l)),(3,.d (.int .i64 i))],own:=[]})
  (λi=>i<=l.length/\∀ j,j<i->∀ k,k<j->Zc l j k=false) (λi=>l.length-i) 0 (by simp) (by simp+decide[zq]) ?_
 rintro i ⟨hi,M⟩
 by_cases E:i<l.length
 .have H:=bG E
  obtain⟨n,en'⟩:∃ n,l[i]=n:=⟨_,rfl⟩;have en:l[i]?=some n:=by rw[ac E,en']
  simp+decide[zq,H];refine cl (λk:Nat=>{n:=44,next:=0,af:=[(0,.d (zq l)),(3,.d (.int .i64 i)),(4,.d (.int .i64 k))],own:=[]})
   (λk=>k<=i/\∀ j,j<k->Zc l i j=false) (λk=>i-k) 0 (by simp) (by simp+decide[zq]) ?_
  rintro k ⟨O,Q⟩
  by_cases J:k<i
  .have G:(k:Int)<i:=by omega
   have K:k<l.length:=by omega
   have F:(k:Int)<l.length:=by omega
   obtain⟨m,em'⟩:∃ m,l[k]=m:=⟨_,rfl⟩;have em:l[k]?=some m:=by rw[ac K,em']
   have T:Zc l i k=(decide (n.fr<m.t_o)&&decide (m.fr<n.t_o)):=by simp only[Zc,en,em,nW]
   by_cases c1:n.fr<m.t_o
   .by_cases c2:m.fr<n.t_o
    .have:=zgh E J (by rw[T];simp[c1,c2])
     simp+decide[zq,Nt.row,int,E,H,G,K,F,en',em',c1,c2,this]
    .simp+decide[zq,Nt.row,int,E,H,G,K,F,en',em',c1,c2,aB]
     refine⟨by omega,k+1,⟨by omega,λj hj=>?_⟩,by omega,by omega⟩
     rcases pe j k with h | h
     .exact Q j h
     .obtain rfl:j=k:=(by omega);rw[T];simp[c2]
   .simp+decide[zq,Nt.row,int,E,H,G,K,F,en',em',c1,aB]
    refine⟨by omega,k+1,⟨by omega,λj hj=>?_⟩,by omega,by omega⟩
    rcases pe j k with h | h
    .exact Q j h
    .obtain rfl:j=k:=(by omega);rw[T];simp[c1]
  .obtain rfl:k=i:=by omega
   simp+decide[zq,aB];refine⟨by omega,k+1,⟨by omega,λj hj=>?_⟩,by omega,by omega⟩
   rcases pe j k with h | h
   .exact M j h
   .obtain rfl:j=k:=(by omega);exact Q
 .obtain rfl:i=l.length:=by omega
  simp+decide[zq,Fa.2 M]
def wQ(l:List Nt):Bool:=(List.range l.length).all λn=>l.any λm=>decide (m.cc=n)
theorem Vs{l:List Nt}:wQ l=true↔∀ n:Nat,n<l.length->(l.any λm=>decide (m.cc=n))=true:=by
 unfold wQ
 rw[oo]
 exact⟨λh n H=>h n (oc.2 H),λh n H=>h n (oc.1 H)⟩
theorem zjg(l:List Nt)(K:l.length<2^40):aq prog 139 [zq l] (.bool (wQ l)):=by
 refine aF func139 ?_
 simp+decide[f139]
 refine cl (λi:Nat=>{n:=30,next:=0,af:=[(0,.d (zq l)),(3,.d (.int .i64 i))],own:=[]})
  (λi=>i<=l.length/\∀ n:Nat,n<i->(l.any λm=>decide (m.cc=n))=true) (λi=>l.length-i) 0 (by simp) (by simp+decide[zq]) ?_
 rintro i ⟨hi,J⟩
 by_cases E:i<l.length
 .have F:=bG E
  simp+decide[zq,F];refine dg (λk:Nat=>{n:=30,next:=0,af:=[(0,.d (zq l)),(3,.d (.int .i64 i)),(4,.d (.bool ((l.take k).any λm=>decide (m.cc=i)))),(5,.d (.int .i64 k))],own:=[]}) l.length (by simp+decide[zq]) ?_
  intro k L;by_cases H:k<l.length
  .have G:=bG H
   obtain⟨m,em'⟩:∃ m,l[k]=m:=⟨_,rfl⟩;have em:l[k]?=some m:=by rw[ac H,em']
   have aI:((l.take (k+1)).any λm=>decide (m.cc=i))=(((l.take k).any λm=>decide (m.cc=i)) || decide (m.cc=i)):=by rw[GN H,em']
   cases M:(l.take k).any λm=>decide (m.cc=i)
   .rw[M,rk] at aI
    by_cases c1:m.cc=i
    .rw[pI c1] at aI
     simp+decide[zq,Nt.row,int,H,G,em',c1,aB];exact⟨by omega,k+1,H,by omega,by simpa using aI,by omega⟩
    .rw[pH c1] at aI
     simp+decide[zq,Nt.row,int,H,G,em',c1,aB];exact⟨by omega,k+1,H,by omega,by simpa using aI,by omega⟩
   .rw[M,Cs] at aI
    simp+decide[zq,G,aB];exact⟨by omega,k+1,H,by omega,by simpa using aI,by omega⟩
  .obtain rfl:k=l.length:=by omega
   rw[nH];cases M:l.any λm=>decide (m.cc=i)
   .have:wQ l=false:=by
     cases e:wQ l with
     |false=>rfl
     |true=>rw[Vs] at e;rw[e i E] at M;cases M
    simp+decide[zq,this]
   .simp+decide[zq,aB]
    refine⟨by omega,i+1,⟨by omega,λj hj=>?_⟩,by omega,by omega⟩
    rcases pe j i with h | h
    .simpa using J j h
    .obtain rfl:j=i:=(by omega);simpa using M
 .obtain rfl:i=l.length:=by omega
  simp+decide[zq,Vs.2 J]
def Vt(d:Dc)(t kind:Int)(n:Nt)(out:Int):Int:=
 if kind=1 then (if kz (ci (yc d.ae t n.aE)) ⟨(zp d.ae n.aE).1.fr,(zp d.ae n.aE).1.t_o⟩=true then out else 16)
 else if kind=3 then (if wQ (yc d.ae t n.aE)=true then out else 10)
 else if kind=4 then (if 1<(yc d.ae t n.aE).length then 8 else out) else out
def kA(d:Dc)(t kind:Int):List Nt->Int->Int
 | [],out=>out
 |n::r,out=>if n.aZ=t then (if zR kind=true/\vm (yc d.ae t n.aE)=true then 15 else kA d t kind r (Vt d t kind n out)) else kA d t kind r out
def kB(d:Dc)(t:Int):Int:=kA d t (zv d t).kind d.ae 0
theorem zb6(d:Dc)(t:Nat)(O:t<d.al.length)(Q:d.ae.length<2^40):aq prog 81 [zn d,int t] (int (kB d t)):=by
 refine aF func81 ?_
 have J:(t:Int)<d.al.length:=by omega
 obtain⟨tt,et'⟩:∃ tt,d.al[t]=tt:=⟨_,rfl⟩
 have et:d.al[t]?=some tt:=by rw[ac O,et']
 have L:(zv d (t:Int))=tt:=by simp[zv,et]
 unfold kB
 rw[L]
 obtain⟨tn,kd,tr,tp⟩:=tt
 simp+decide[f81,zn,Dc.row,int,aa,zw,cD.row,O,J,et']
 refine cl (λx:Nat×Int=>{n:=77,next:=1,af:=[(1,.d (int t)),(2,.bp 0 0),(5,.d (int kd)),(6,.d (int x.2)),(7,.d (.int .i64 x.1))],own:=[(0,.box 53 (zO d))]})
  (λx=>x.1<=d.ae.length/\kA d t kd d.ae 0=kA d t kd (d.ae.drop x.1) x.2) (λx=>d.ae.length-x.1) (0,0) (by simp) (by simp+decide[int,aa,zw,zq]) ?_
 rintro⟨k,out⟩ ⟨T,V⟩
 simp only at T V
 by_cases G:k<d.ae.length
 case neg=>
  obtain rfl:k=d.ae.length:=by omega
  rw[pL] at V;simp+decide[int,zq,V,kA]
 have F:=bG G
 obtain⟨n,en'⟩:∃ n,d.ae[k]=n:=⟨_,rfl⟩
 have en:d.ae[k]?=some n:=by rw[ac G,en']
 rw[nY G,en'] at V
 simp only[kA] at V
 by_cases X:n.aZ=t
 case neg=>
  rw[ge X] at V;simp+decide[int,zq,Nt.row,G,F,en',X,aB];exact⟨by omega,k+1,out,⟨G,V⟩,by omega,by omega⟩
 rw[gt X] at V
 simp+decide[int,zq,Nt.row,G,F,en',X]
 have M:=HH d.ae t n.aE
 refine zg (zdr d t n.aE Q) ?_
 generalize Y:yc d.ae t n.aE=S at V M ⊢
 simp+decide
 refine zg (v7 kd) ?_
 have ck:∀ out',Vt d t kd n out=out'->(zR kd=true->vm S=false)->kA d t kd d.ae 0=kA d t kd (d.ae.drop (k+1)) out':=by
  intro out' e h;rw[ge (by rintro⟨a,b⟩;rw[h a] at b;cases b),e] at V
  exact V
 have E:zR kd=true->vm S=true->kA d t kd d.ae 0=15:=by
  intro a b;rw[gt ⟨a,b⟩] at V;exact V
 have H:Vt d t kd n out=if kd=1 then (if kz (ci S) ⟨(zp d.ae n.aE).1.fr,(zp d.ae n.aE).1.t_o⟩=true then out else 16)
  else if kd=3 then (if wQ S=true then out else 10) else if kd=4 then (if 1<S.length then 8 else out) else out:=by
  simp only[Vt,Y]
 clear V
 generalize Z:kA d t kd d.ae 0=TT at ck E ⊢
 by_cases k0:kd=0
 .subst k0
  have A:zR 0=true:=rfl
  simp+decide[A];refine zg (Fb S (by omega)) ?_
  cases B:vm S with
  |true=>simp+decide[E A B]
  |false=>
   have HO:zR 0=true->vm S=false:=λ_=>B
   simp+decide[int,zq];refine zg (jL d n.aE (by omega)) ?_
   obtain⟨⟨p,ok⟩,eg⟩:∃ g,zp d.ae n.aE=g:=⟨_,rfl⟩;rw[eg] at H ⊢;obtain⟨pi,pt,pp,pf,pto,prr,px⟩:=p;simp only[cb,Nt.row] at H ⊢;simp at H
   simp+decide[int,aB];exact⟨by omega,k+1,out,⟨G,ck _ H HO⟩,by omega,by omega⟩
 by_cases k1:kd=1
 .subst k1
  have A:zR 1=true:=rfl
  simp+decide[A];refine zg (Fb S (by omega)) ?_
  cases B:vm S with
  |true=>simp+decide[E A B]
  |false=>
   have HO:zR 1=true->vm S=false:=λ_=>B
   simp+decide[int,zq];refine zg (jL d n.aE (by omega)) ?_
   obtain⟨⟨p,ok⟩,eg⟩:∃ g,zp d.ae n.aE=g:=⟨_,rfl⟩;rw[eg] at H ⊢;obtain⟨pi,pt,pp,pf,pto,prr,px⟩:=p;simp only[cb,Nt.row] at H ⊢;simp+decide[int];refine bw (zny S (by omega)) ?_
   simp+decide
   refine bw (zjf (ci S) ⟨pf,pto⟩ (by unfold ci;rw[om];omega)) ?_
   by_cases C:kz (ci S) ⟨pf,pto⟩=true
   .simp[C] at H
    simp+decide[aB,C];exact⟨by omega,k+1,out,⟨G,ck _ H HO⟩,by omega,by omega⟩
   .simp[C] at H
    simp+decide[aB,C];exact⟨by omega,k+1,16,⟨G,ck _ H HO⟩,by omega,by omega⟩
 by_cases k2:kd=2
 .subst k2
  have A:zR 2=true:=rfl
  simp+decide[A];refine zg (Fb S (by omega)) ?_
  cases B:vm S with
  |true=>simp+decide[E A B]
  |false=>
   have HO:zR 2=true->vm S=false:=λ_=>B
   simp+decide[int,zq];refine zg (jL d n.aE (by omega)) ?_
   obtain⟨⟨p,ok⟩,eg⟩:∃ g,zp d.ae n.aE=g:=⟨_,rfl⟩;rw[eg] at H ⊢;obtain⟨pi,pt,pp,pf,pto,prr,px⟩:=p;simp only[cb,Nt.row] at H ⊢;simp at H
   simp+decide[int,aB];exact⟨by omega,k+1,out,⟨G,ck _ H HO⟩,by omega,by omega⟩
 by_cases k3:kd=3
 .subst k3
  have A:zR 3=false:=rfl
  have HO:zR 3=true->vm S=false:=λh=>by rw[A] at h;cases h
  simp+decide[int,A,zq];refine zg (jL d n.aE (by omega)) ?_
  obtain⟨⟨p,ok⟩,eg⟩:∃ g,zp d.ae n.aE=g:=⟨_,rfl⟩;rw[eg] at H ⊢;obtain⟨pi,pt,pp,pf,pto,prr,px⟩:=p;simp only[cb,Nt.row] at H ⊢;simp+decide[int];refine zg (zjg S (by omega)) ?_
  by_cases C:wQ S=true
  .simp[C] at H
   simp+decide[aB,C];exact⟨by omega,k+1,out,⟨G,ck _ H HO⟩,by omega,by omega⟩
  .simp[C] at H
   simp+decide[aB,C];exact⟨by omega,k+1,10,⟨G,ck _ H HO⟩,by omega,by omega⟩
 by_cases k4:kd=4
 .subst k4
  have A:zR 4=false:=rfl
  have HO:zR 4=true->vm S=false:=λh=>by rw[A] at h;cases h
  simp+decide[int,A,zq];refine zg (jL d n.aE (by omega)) ?_
  obtain⟨⟨p,ok⟩,eg⟩:∃ g,zp d.ae n.aE=g:=⟨_,rfl⟩;rw[eg] at H ⊢;obtain⟨pi,pt,pp,pf,pto,prr,px⟩:=p;simp only[cb,Nt.row] at H ⊢;by_cases C:1<S.length
  .have K:(1:Int)<S.length:=by omega
   simp[C] at H;simp+decide[int,aB,K];exact⟨by omega,k+1,8,⟨G,ck _ H HO⟩,by omega,by omega⟩
  .have K:¬(1:Int)<S.length:=by omega
   simp[C] at H;simp+decide[int,aB,K];exact⟨by omega,k+1,out,⟨G,ck _ H HO⟩,by omega,by omega⟩
 have A:zR kd=false:=by simp[zR,k0,k1,k2]
 have HO:zR kd=true->vm S=false:=λh=>by rw[A] at h;cases h
 simp+decide[int,A,zq]
 refine zg (jL d n.aE (by omega)) ?_
 obtain⟨⟨p,ok⟩,eg⟩:∃ g,zp d.ae n.aE=g:=⟨_,rfl⟩
 rw[eg] at H ⊢
 obtain⟨pi,pt,pp,pf,pto,prr,px⟩:=p
 simp only[cb,Nt.row] at H ⊢
 simp[k1,k3,k4] at H
 simp+decide[int,aB,k1,k3,k4]
 exact⟨by omega,k+1,out,⟨G,ck _ H HO⟩,by omega,by omega⟩
def kC(d:Dc):Nat->Nat->Int
 |0,_=>0
 |m+1,i=>if i<d.al.length then (if kB d i=0 then kC d m (i+1) else kB d i) else 0
def u4(d:Dc):Int:=
 if ku d.al≠0 then ku d.al else if d.len<0\/86400000<d.len then 12 else if 300<d.ae.length then 11
 else if vU d d.ae.length 0≠0 then vU d d.ae.length 0 else kC d d.al.length 0
theorem Fe(d:Dc)(K:d.al.length<2^40)(J:d.ae.length<2^40)(hs:∀ t∈d.al,t.name.size<=9223372036854775807)(L:∀ n∈d.ae,n.cF.size<=9223372036854775807):
  aq prog 32 [zn d] (int (u4 d)):=by
 refine aF func32 ?_
 simp+decide[f32,zn,Dc.row]
 refine zg (zdl d.al (by omega) hs) ?_
 by_cases M:ku d.al=0
 case neg=>simp+decide[int,M,u4]
 by_cases O:d.len<0
 .simp+decide[int,M,O,u4]
 by_cases Q:86400000<d.len
 .simp+decide[int,M,O,Q,u4]
 by_cases T:300<d.ae.length
 .have F:(300:Int)<d.ae.length:=by omega
  simp+decide[int,M,O,Q,T,F,u4,zq]
 have F:¬(300:Int)<d.ae.length:=by omega
 have V:u4 d=if vU d d.ae.length 0=0 then kC d d.al.length 0 else vU d d.ae.length 0:=by
  simp only[u4];rw[ge (by simpa using M),ge (by omega),ge T]
  by_cases h:vU d d.ae.length 0=0 <;> simp[h]
 rw[V]
 simp+decide[int,M,O,Q,F,zq]
 refine cl (λi:Nat=>{n:=54,next:=1,af:=[(1,.bp 0 0),(4,.d (.int .i64 i))],own:=[(0,.box 53 (zO d))]})
  (λi=>i<=d.ae.length/\vU d d.ae.length 0=vU d (d.ae.length-i) i) (λi=>d.ae.length-i) 0 (by simp) (by simp+decide[int,zq,zw,aa]) ?_
 rintro i ⟨hi,X⟩
 by_cases H:i<d.ae.length
 .obtain⟨m,Y⟩:∃ m,d.ae.length-i=m+1:=⟨d.ae.length-i-1,by omega⟩
  have E:d.ae.length-(i+1)=m:=by omega
  rw[Y,F9,gt H] at X;have G:=bG H;simp+decide[int,zq,G];refine zg (zb2 d i H (by omega) (by omega) L) ?_
  by_cases Z:wt d i=0
  .rw[gt Z] at X
   simp+decide[int,Z,aB];exact⟨by omega,i+1,⟨by omega,by rw[X,E]⟩,by omega,by simp⟩
  .rw[ge Z] at X
   simp+decide[int,Z,X]
 .obtain rfl:i=d.ae.length:=by omega
  rw[rU] at X;rw[X];simp+decide[int,vU,zw,zq];refine cl (λi:Nat=>{n:=54,next:=1,af:=[(1,.bp 0 0),(6,.d (.int .i64 i))],own:=[(0,.box 53 (zO d))]})
   (λi=>i<=d.al.length/\kC d d.al.length 0=kC d (d.al.length-i) i) (λi=>d.al.length-i) 0 (by simp) (by simp+decide) ?_
  rintro i ⟨hi,X⟩
  by_cases H:i<d.al.length
  .have G:=bG H
   obtain⟨m,Y⟩:∃ m,d.al.length-i=m+1:=⟨d.al.length-i-1,by omega⟩
   have E:d.al.length-(i+1)=m:=by omega
   rw[Y] at X;simp only[kC,gt H] at X;simp+decide[int,zw,G];refine zg (zb6 d i H (by omega)) ?_
   by_cases Z:kB d i=0
   .rw[gt Z] at X
    simp+decide[int,Z,aB];exact⟨by omega,i+1,⟨by omega,by rw[X,E]⟩,by omega,by simp⟩
   .rw[ge Z] at X
    simp+decide[int,Z,X]
  .obtain rfl:i=d.al.length:=by omega
   rw[rU] at X;simp+decide[int,zw,X,kC]
def u6(d:Dc):Bool:=decide (d.ae.length<=14)&&decide (d.al.length<=6)&&decide (d.fh.length<=6)&&decide (u4 d=0)
theorem znz(d:Dc)(hs:∀ t∈d.al,t.name.size<=9223372036854775807)(H:∀ n∈d.ae,n.cF.size<=9223372036854775807):
  aq prog 17 [zn d] (.bool (u6 d)):=by
 refine aF func17 ?_
 by_cases G:d.ae.length<=14
 case neg=>
  have g1:¬(d.ae.length:Int)<=14:=by omega
  simp+decide[f17,zn,Dc.row,zq,zw,aa,int,u6,G,g1]
 have g1:(d.ae.length:Int)<=14:=by omega
 by_cases F:d.al.length<=6
 case neg=>
  have g2:¬(d.al.length:Int)<=6:=by omega
  simp+decide[f17,zn,Dc.row,zq,zw,aa,int,u6,G,g1,F,g2]
 have g2:(d.al.length:Int)<=6:=by omega
 by_cases E:d.fh.length<=6
 case neg=>
  have g3:¬(d.fh.length:Int)<=6:=by omega
  simp+decide[f17,zn,Dc.row,zq,zw,aa,int,u6,G,g1,F,g2,E,g3]
 have g3:(d.fh.length:Int)<=6:=by omega
 simp+decide[f17,zn,Dc.row,zq,zw,aa,int,g1,g2,g3]
 refine zg (Fe d (by omega) (by omega) hs H) ?_
 by_cases K:u4 d=0
 .simp+decide[int,K,u6,G,F,E]
 .simp+decide[int,K,u6,G,F,E]
def Zd(l:List Sp)(v:Int):Prop:=∃ y∈l,y.fr<=v/\v<y.t_o
theorem HI{s:Sp}:s.rt=true↔0<=s.fr/\s.fr<s.t_o/\s.t_o<=86400000:=by
 simp only[Sp.rt,yQ,nI,nD,and_assoc]
theorem HJ{x s:Sp}(H:x.rt=true)(hs:s.rt=true)(v:Int):Zd (u0 x s) v↔(x.fr<=v/\v<x.t_o)/\¬(s.fr<=v/\v<s.t_o):=by
 rw[HI] at H hs
 obtain⟨a1,a2,a3⟩:=H
 obtain⟨b1,b2,b3⟩:=hs
 have e1:yQ x.fr (min x.t_o s.fr)=true↔x.fr<min x.t_o s.fr:=by
  simp only[yQ,nI,nD];omega
 have e2:yQ (max x.fr s.t_o) x.t_o=true↔max x.fr s.t_o<x.t_o:=by
  simp only[yQ,nI,nD];omega
 unfold Zd u0
 constructor
 .rintro⟨y,G,F,E⟩
  rcases nM.1 G with h | h
  .split at h
   .simp at h;subst h;simp only at F E;omega
   .cases h
  .split at h
   .simp at h;subst h;simp only at F E;omega
   .cases h
 .rintro⟨⟨F,E⟩,K⟩
  by_cases J:v<s.fr
  .refine⟨⟨x.fr,min x.t_o s.fr⟩,?_,F,by simp only;omega⟩
   rw[gt (e1.2 (by omega))];simp
  .refine⟨⟨max x.fr s.t_o,x.t_o⟩,?_,by simp only;omega,E⟩
   rw[gt (e2.2 (by omega))];simp
theorem zgi{s:Sp}(hs:s.rt=true)(v:Int){l:List Sp}(H:∀ x∈l,x.rt=true):Zd (qN l s) v↔Zd l v/\¬(s.fr<=v/\v<s.t_o):=by
 unfold qN
 constructor
 .rintro⟨y,G,F⟩
  obtain⟨x,E,h⟩:=po.1 G;have:=(HJ (H x E) hs v).1 ⟨y,h,F⟩
  exact⟨⟨x,E,this.1⟩,this.2⟩
 .rintro⟨⟨x,E,F⟩,K⟩
  obtain⟨y,G,J⟩:=(HJ (H x E) hs v).2 ⟨F,K⟩;exact⟨y,po.2 ⟨x,E,G⟩,J⟩
theorem WA(v:Int):∀ (b a:List Sp),(∀ x∈a,x.rt=true)->(Zd (vj a b) v↔Zd a v/\∀ y∈b,y.rt=true->¬(y.fr<=v/\v<y.t_o))
 | [],a,h=>by simp[vj]
 |y::r,a,h=>by
  have e:vj a (y::r)=vj (if y.rt=true then qN a y else a) r:=rfl
  rw[e];by_cases H:y.rt=true
  .rw[gt H,WA v r _ HE,zgi H v h]
   constructor
   .rintro⟨⟨G,F⟩,E⟩
    refine⟨G,λz K J=>?_⟩
    rcases nE.1 K with rfl | K
    .exact F
    .exact E z K J
   .rintro⟨G,E⟩
    exact⟨⟨G,E y (by simp) H⟩,λz K J=>E z (by simp[K]) J⟩
  .rw[ge H,WA v r _ h]
   constructor
   .rintro⟨G,E⟩
    refine⟨G,λz K J=>?_⟩
    rcases nE.1 K with rfl | K
    .exact absurd J H
    .exact E z K J
   .rintro⟨G,E⟩
    exact⟨G,λz K J=>E z (by simp[K]) J⟩
theorem HK{l:List Sp}{s:Sp}:kz l s=true↔s.rt=true/\∀ v,s.fr<=v->v<s.t_o->∃ y∈l,y.rt=true/\y.fr<=v/\v<y.t_o:=by
 unfold kz
 rw[nI]
 constructor
 .rintro⟨hs,F⟩
  refine⟨hs,λv E K=>?_⟩
  have J:=WA v l [s] (by simpa using hs)
  rw[List.isEmpty_iff.1 F] at J;have L:¬Zd [] v:=by rintro⟨y,M,_⟩;cases M
  have:¬(Zd [s] v/\∀ y∈l,y.rt=true->¬(y.fr<=v/\v<y.t_o)):=λh=>L (J.2 h)
  apply oJ
  intro O;exact this ⟨⟨s,by simp,E,K⟩,λy M Q T=>O ⟨y,M,Q,T⟩⟩
 .rintro⟨hs,h⟩
  refine⟨hs,?_⟩
  have H:=(Wz l [s] (by simpa using hs)).1
  cases J:vj [s] l with
  |nil=>rfl
  |cons y r=>
   exfalso
   have M:=HI.1 (H y (by rw[J];simp))
   have G:Zd (vj [s] l) y.fr:=⟨y,by rw[J];simp,wx _,M.2.1⟩
   obtain⟨⟨z,V,E,K⟩,X⟩:=(WA y.fr l [s] (by simpa using hs)).1 G
   simp at V;subst V
   obtain⟨u,Y,Q,T⟩:=h _ E K;exact X u Y Q T
theorem HL{α:Type}{q:α->Bool}:∀ {s:List α} {i:Nat} (h:i<s.length),q s[i]=true->(s.filter q)[((s.take i).filter q).length]?=some s[i]
 |x::r,0,h,G=>by
  have H:q x=true:=G
  simp[H]
 |x::r,i+1,h,G=>by
  have F:i<r.length:=by simpa using h
  have ih:=HL (q:=q) F G;by_cases E:q x=true
  .simp only[pE,pT E,nP,pY,tg]
   exact ih
  .simp only[pE,ri E,tg]
   exact ih
theorem Ff{α:Type}{q:α->Bool}:∀ {s:List α} {j:Nat},j<(s.filter q).length->∃ i,∃ h:i<s.length,q s[i]=true/\((s.take i).filter q).length=j
 | [],j,h=>by simp at h
 |x::r,j,h=>by
  by_cases H:q x=true
  .cases j with
   |zero=>exact⟨0,by simp,H,by simp⟩
   |succ j=>
    rw[pT H,nP] at h;obtain⟨i,hi,G,F⟩:=Ff (q:=q) (s:=r) (j:=j) (by omega)
    exact⟨i+1,by simpa using hi,G,by rw[pE,pT H,nP,F]⟩
  .rw[ri H] at h
   obtain⟨i,hi,G,F⟩:=Ff (q:=q) (s:=r) h;exact⟨i+1,by simpa using hi,G,by rw[pE,ri H,F]⟩
theorem HM:∀ (l:List Int) (c:Int),l.Pairwise (·<=·)->(∀ n:Nat,n<=l.length->c+n∈l)->False
 | [],c,_,h=>by have:=h 0 (by simp);simp at this
 |x::r,c,H,h=>by
  rw[pM] at H;have G:x<=c:=by
   have:=h 0 (by simp)
   rcases nE.1 this with e | e
   .simp at e;omega
   .have:=H.1 _ e;simp at this;exact this
  refine HM r (c+1) H.2 λn hn=>?_
  have:=h (n+1) (by simp;omega)
  rcases nE.1 this with e | e
  .exfalso;push_cast at e;omega
  .have e2:c+1+(n:Int)=c+((n+1:Nat):Int):=by push_cast;omega
   rw[e2];exact e
theorem HN:∀ (l:List Int) (c:Int),l.Pairwise (·<=·)->(∀ n:Nat,n<l.length->c+n∈l)->∀ j:Nat,j<l.length->l[j]?=some (c+j)
 | [],c,_,h,j,hj=>by simp at hj
 |x::r,c,F,h,j,hj=>by
  rw[pM] at F;have E:x<=c:=by
   have:=h 0 (by simp)
   rcases nE.1 this with e | e
   .simp at e;omega
   .have:=F.1 _ e;simp at this;exact this
  have H:x=c:=by
   apply oJ
   intro G;refine HM r c F.2 λn K=>?_
   have:=h n (by simp;omega)
   rcases nE.1 this with e | e
   .exfalso;omega
   .exact e
  cases j with
  |zero=>simp[H]
  |succ j=>
   have:=HN r (c+1) F.2 (λn K=>by
    have:=h (n+1) (by simp;omega)
    rcases nE.1 this with e | e
    .exfalso;push_cast at e;omega
    .have e2:c+1+(n:Int)=c+((n+1:Nat):Int):=by push_cast;omega
     rw[e2];exact e) j (by simpa using hj)
   rw[pY,this];congr 1;push_cast;omega
end Go.V.Doc
namespace Go.V.Doc
open Go Go.Proofs Tryz
def gN(s:List Nt)(i:Nat):Nt:=s[i]?.getD default
theorem qa{s:List Nt}{i:Nat}(h:i<s.length):gN s i=s[i]:=by unfold gN;rw[ac h];rfl
theorem wu{s:List Nt}{i:Nat}(h:i<s.length):gN s i∈s:=by rw[qa h];exact nF h
def Y0{α:Type}(ov bad:α->Bool)(c:Int):List α->Int->Int
 | [],out=>out
 |x::r,out=>if ov x=true then 15 else Y0 ov bad c r (if bad x=true then c else out)
theorem Fg{α:Type}(ov bad:α->Bool)(c:Int):∀ (l:List α) (out:Int),Y0 ov bad c l out=if l.any ov=true then 15 else if l.any bad=true then c else out
 | [],out=>by simp[Y0]
 |x::r,out=>by
  simp only[Y0];rw[Fg ov bad c r];simp only[Cg];have h:∀ a b e g:Bool,(if a=true then (15:Int) else if e=true then 15 else if g=true then c else if b=true then c else out)=if (a || e)=true then 15 else if (b || g)=true then c else out:=by
   intro a b e g;cases a <;> cases b <;> cases e <;> cases g <;> simp
  exact h _ _ _ _
def Y1(kd:Int):Int:=if kd=1 then 16 else if kd=3 then 10 else 8
def XV(kd:Int)(s:List Nt)(i:Nat):Bool:=zR kd&&(!yR s i&&decide ((gN s i).fr<(gN s (i-1)).t_o))
def uN(ae:List Nt)(kd:Int)(s:List Nt)(i:Nat):Bool:=
 (decide (kd=1)&&((yR s i && !decide ((gN s i).fr=(zp ae (gN s i).aE).1.fr)) || (!yR s i && !decide ((gN s (i-1)).t_o=(gN s i).fr)) || (fJ s i && !decide ((gN s i).t_o=(zp ae (gN s i).aE).1.t_o)))) ||
 (decide (kd=3)&&((yR s i && !decide ((gN s i).cc=0)) || (!yR s i && !decide ((gN s i).cc=IntKind.i64.wrap ((gN s (i-1)).cc+1))))) ||
 (decide (kd=4) && !yR s i)
theorem HQ(ae:List Nt)(kd:Int)(s:List Nt):∀ (m i:Nat) (why:Int),i+m<=s.length->YQ ae kd s m i why=Y0 (XV kd s) (uN ae kd s) (Y1 kd) (List.range' i m) why
 |0,i,why,_=>rfl
 |m+1,i,why,h=>by
  have ih:=λw=>HQ ae kd s m (i+1) w (by omega)
  rw[sS];simp only[YQ,Y0];rw[gt (show i<s.length by omega)]
  simp only[ih];have e1:(s[i]?.getD default)=gN s i:=rfl
  have e2:(s[i-1]?.getD default)=gN s (i-1):=rfl
  rw[e1,e2];unfold XV uN Y1;generalize gN s i=n;generalize gN s (i-1)=pv;generalize (zp ae n.aE).1=p;generalize yR s i=F;generalize fJ s i=L;by_cases k0:kd=0
  .subst k0
   cases F <;> simp[zR]
  by_cases k1:kd=1
  .subst k1
   cases F <;> cases L <;> simp[zR]
  by_cases k2:kd=2
  .subst k2
   cases F <;> simp[zR]
  by_cases k3:kd=3
  .subst k3
   cases F <;> simp[zR]
  by_cases k4:kd=4
  .subst k4
   cases F <;> simp[zR]
  simp[zR,k0,k1,k2,k3,k4]
theorem zn0(d:Dc)(t:Int):Vr d t=if (List.range' 0 (xQ (zX d.ae t)).length).any (XV (zv d t).kind (xQ (zX d.ae t)))=true then 15
  else if (List.range' 0 (xQ (zX d.ae t)).length).any (uN d.ae (zv d t).kind (xQ (zX d.ae t)))=true then Y1 (zv d t).kind else 0:=by
 unfold Vr
 rw[<-Wx (zX d.ae t),HQ _ _ _ _ _ _ (by simp),Fg]
def kD(d:Dc)(t kd:Int)(n:Nt):Bool:=zR kd&&vm (yc d.ae t n.aE)
def eN(d:Dc)(t kd:Int)(n:Nt):Bool:=
 (decide (kd=1) && !kz (ci (yc d.ae t n.aE)) ⟨(zp d.ae n.aE).1.fr,(zp d.ae n.aE).1.t_o⟩) || (decide (kd=3) && !wQ (yc d.ae t n.aE)) || (decide (kd=4)&&decide (1<(yc d.ae t n.aE).length))
theorem HS(d:Dc)(t kd:Int):∀ (l:List Nt) (out:Int),kA d t kd l out=Y0 (kD d t kd) (eN d t kd) (Y1 kd) (zX l t) out
 | [],out=>rfl
 |n::r,out=>by
  have ih:=λw=>HS d t kd r w
  simp only[kA];by_cases h:n.aZ=t
  .have e:zX (n::r) t=n::zX r t:=by unfold zX;rw[pT (by simpa using h)]
   rw[gt h,e];simp only[Y0,ih];unfold kD eN Vt Y1;generalize kz (ci (yc d.ae t n.aE)) ⟨(zp d.ae n.aE).1.fr,(zp d.ae n.aE).1.t_o⟩=C;generalize wQ (yc d.ae t n.aE)=R;generalize (yc d.ae t n.aE).length=z;generalize vm (yc d.ae t n.aE)=O;by_cases k1:kd=1
   .subst k1;cases C <;> simp[zR]
   by_cases k3:kd=3
   .subst k3;cases R <;> simp[zR]
   by_cases k4:kd=4
   .subst k4;simp[zR]
   simp[k1,k3,k4]
  .have e:zX (n::r) t=zX r t:=by unfold zX;rw[ri (by simpa using h)]
   rw[ge h,e,ih]
theorem HT(d:Dc)(t:Int):kB d t=if (zX d.ae t).any (kD d t (zv d t).kind)=true then 15 else if (zX d.ae t).any (eN d t (zv d t).kind)=true then Y1 (zv d t).kind else 0:=by
 unfold kB
 rw[HS,Fg]
structure mj(s:List Nt):Prop where
 aE:∀ i j,i<j->j<s.length->(gN s i).aE<=(gN s j).aE
 fr:∀ i j,i<j->j<s.length->(gN s i).aE=(gN s j).aE->(gN s i).fr<=(gN s j).fr
 cc:∀ i j,i<j->j<s.length->(gN s i).aE=(gN s j).aE->(gN s i).fr=(gN s j).fr->(gN s i).cc<=(gN s j).cc
theorem HU(l:List Nt):mj (xQ l):=by
 have h:∀ i j,i<j->j<(xQ l).length->¬((gN (xQ l) j).aE<(gN (xQ l) i).aE\/((gN (xQ l) j).aE=(gN (xQ l) i).aE/\((gN (xQ l) j).fr<(gN (xQ l) i).fr\/((gN (xQ l) j).fr=(gN (xQ l) i).fr/\(gN (xQ l) j).cc<(gN (xQ l) i).cc)))):=by
  intro i j H hj;have:=od.1 (zb1 l) i j (by omega) hj H
  rw[Ww] at this;rw[qa hj,qa (show i<_ by omega)]
  exact this
 exact⟨λi j H hj=>by have:=h i j H hj;omega,λi j H hj e=>by have:=h i j H hj;omega,λi j H hj e e'=>by have:=h i j H hj;omega⟩
theorem Vu{s:List Nt}{i:Nat}:yR s i=true↔i=0\/(gN s (i-1)).aE≠(gN s i).aE:=by
 unfold yR
 rw[oS,nD,pS,pO]
 rfl
theorem XW{s:List Nt}{i:Nat}:yR s i=false↔i≠0/\(gN s (i-1)).aE=(gN s i).aE:=by
 rw[<-pW,Vu]
 exact⟨λh=>⟨λe=>h (.inl e),oJ λe=>h (.inr e)⟩,λh h'=>h'.elim (λe=>h.1 e) (λe=>e h.2)⟩
theorem HV{s:List Nt}{i:Nat}:fJ s i=true↔i+1=s.length\/(gN s (i+1)).aE≠(gN s i).aE:=by
 unfold fJ
 rw[oS,nD,pS,pO]
 rfl
def Vv(s:List Nt):Prop:=∀ i j,i<j->j<s.length->(gN s i).aE=(gN s j).aE->(gN s i).t_o<=(gN s j).fr
theorem ztd{s:List Nt}(hs:mj s)(h:∀ i,i<s.length->(!yR s i&&decide ((gN s i).fr<(gN s (i-1)).t_o))=false):Vv s:=by
 intro i j H hj G
 have F:(gN s i).aE=(gN s (i+1)).aE:=by
  rcases pn (show i+1<=j from H) with e | e
  .rw[e];exact G
  .have a:=hs.aE i (i+1) (by omega) (by omega)
   have b:=hs.aE (i+1) j e hj;omega
 have E:=h (i+1) (by omega)
 have K:yR s (i+1)=false:=XW.2 ⟨by omega,F⟩
 rw[K] at E
 simp at E
 rcases pn (show i+1<=j from H) with e | e
 .subst e;exact E
 .have:=hs.fr (i+1) j e hj (by omega)
  omega
theorem zq4{s:List Nt}(h:Vv s):∀ i,i<s.length->(!yR s i&&decide ((gN s i).fr<(gN s (i-1)).t_o))=false:=by
 intro i hi
 cases H:yR s i with
 |true=>rfl
 |false=>
  obtain⟨G,F⟩:=XW.1 H;have:=h (i-1) i (by omega) hi F
  simp;omega
def NM(x y:Nt):Prop:=¬(x.fr<y.t_o/\y.fr<x.t_o)
theorem NM.symm{x y:Nt}(h:NM x y):NM y x:=λe=>h ⟨e.2,e.1⟩
theorem Fh{l:List Nt}:vm l=false↔l.Pairwise NM:=by
 rw[Fa,od]
 constructor
 .intro h i j hi hj H
  have:=h j hj i H
  unfold Zc at this;rw[ac hj,ac hi] at this;simp only[nW,pX,pO] at this;rintro⟨a,b⟩
  rcases this with h | h
  .exact h b
  .exact h a
 .intro h i hi k G
  have:=h k i (by omega) hi G
  unfold Zc;rw[ac hi,ac (show k<l.length by omega)]
  simp only[nW,pX,pO];by_cases c:l[i].fr<l[k].t_o
  .right;intro c';exact this ⟨c',c⟩
  .left;exact c
section
variable {d:Dc} {t:Int} {s:List Nt}
theorem zn1(ae:List Nt)(t p:Int):yc ae t p=(zX ae t).filter λn=>decide (n.aE=p):=by
 unfold yc zX
 rw[List.filter_filter]
 congr 1;funext n;rw[Bool.and_comm]
theorem Y2(H:s.Perm (zX d.ae t))(p:Int):(s.filter λn=>decide (n.aE=p)).Perm (yc d.ae t p):=by
 rw[zn1];exact H.filter _
theorem HW(F:s.Perm (zX d.ae t))(hs:mj s)(E:∀ n∈s,n.fr<n.t_o):Vv s↔∀ n∈zX d.ae t,vm (yc d.ae t n.aE)=false:=by
 constructor
 .intro h n hn
  rw[Fh];refine((Y2 F n.aE).pairwise_iff λh=>NM.symm h).1 ?_
  rw[tH,od];intro i j hi hj H K J;simp at K J
  have:=h i j H hj (by rw[qa hi,qa hj,K,J])
  rw[qa hi,qa hj] at this;rintro⟨_,b⟩
  omega
 .intro h i j H hj G
  have hi:i<s.length:=by omega
  have K:=h (gN s i) (F.mem_iff.1 (wu hi));rw[Fh] at K;have J:=((Y2 F (gN s i).aE).pairwise_iff λh=>NM.symm h).2 K
  rw[tH,od] at J;have L:=J i j hi hj H (by rw[qa hi];simp) (by rw[<-qa hj,<-G];simp)
  rw[<-qa hi,<-qa hj] at L;have a:=hs.fr i j H hj G;have b:=E _ (wu hj);have c:¬(gN s j).fr<(gN s i).t_o:=λe=>L ⟨by omega,e⟩
  omega
end
end Go.V.Doc
namespace Go.V.Doc
open Go Go.Proofs Tryz
section
variable {d:Dc} {t:Int} {s:List Nt}
def YR(ae:List Nt)(s:List Nt)(i:Nat):Bool:=
 (yR s i && !decide ((gN s i).fr=(zp ae (gN s i).aE).1.fr)) || (!yR s i && !decide ((gN s (i-1)).t_o=(gN s i).fr)) || (fJ s i && !decide ((gN s i).t_o=(zp ae (gN s i).aE).1.t_o))
theorem HY:∀ i,∃ j,j<=i/\(gN s j).aE=(gN s i).aE/\yR s j=true
 |0=>⟨0,by omega,rfl,Vu.2 (.inl rfl)⟩
 |i+1=>by
  cases h:yR s (i+1) with
  |true=>exact⟨i+1,by omega,rfl,h⟩
  |false=>
   obtain⟨_,G⟩:=XW.1 h;obtain⟨j,F,E,K⟩:=HY i;have H:(gN s i).aE=(gN s (i+1)).aE:=G
   exact⟨j,by omega,E.trans H,K⟩
theorem Fj(H:s.Perm (zX d.ae t)){p:Int}{m:Nt}:m∈yc d.ae t p↔∃ j,j<s.length/\(gN s j).aE=p/\gN s j=m:=by
 rw[<-(Y2 H p).mem_iff,oA]
 constructor
 .rintro⟨G,F⟩
  obtain⟨j,hj,e⟩:=nT.1 G;rw[<-qa hj] at e;exact⟨j,hj,by rw[e];simpa using F,e⟩
 .rintro⟨j,hj,G,rfl⟩
  exact⟨wu hj,by simpa using G⟩
structure Wit(ae s:List Nt):Prop where
 right:∀ n∈s,yQ n.fr n.t_o=true
 prt:∀ n∈s,yQ (zp ae n.aE).1.fr (zp ae n.aE).1.t_o=true
 lo:∀ n∈s,(zp ae n.aE).1.fr<=n.fr
 hi:∀ n∈s,n.t_o<=(zp ae n.aE).1.t_o
theorem zq5(hp:s.Perm (zX d.ae t))(hs:mj s)(ha:Vv s)(hw:Wit d.ae s):
  (∀ i,i<s.length->YR d.ae s i=false)↔∀ n∈zX d.ae t,kz (ci (yc d.ae t n.aE)) ⟨(zp d.ae n.aE).1.fr,(zp d.ae n.aE).1.t_o⟩=true:=by
 have L:∀ n∈s,0<=n.fr/\n.fr<n.t_o/\n.t_o<=86400000:=λn hn=>by have:=hw.right n hn;simpa only [yQ,nI,nD,and_assoc] using this
 constructor
 .intro h n hn
  have M:n∈s:=hp.mem_iff.2 hn
  obtain⟨i0,A,e0⟩:=nT.1 M;rw[<-qa A] at e0;subst e0;rw[HK];refine⟨hw.prt _ M,λv B hv2=>?_⟩
  simp only at B hv2
  have up:∀ k i,s.length-i<=k->i<s.length->(gN s i).aE=(gN s i0).aE->(gN s i).fr<=v->∃ j,j<s.length/\(gN s j).aE=(gN s i0).aE/\(gN s j).fr<=v/\v<(gN s j).t_o:=by
   intro k;induction k with
   |zero=>intro i h1 h2;omega
   |succ k ih=>
    intro i h1 h2 h3 h4;by_cases h5:v<(gN s i).t_o
    .exact⟨i,h2,h3,h4,h5⟩
    have hg:=h i h2;simp only[YR,rY,pX,rg,nD] at hg;have hl:fJ s i=false:=by
     rcases hg.2 with e | e
     .exact e
     .rw[h3] at e;omega
    rw[<-pW,HV,Ck,sJ] at hl;have O:i+1<s.length:=by omega
    have hf:yR s (i+1)=false:=XW.2 ⟨by omega,by simpa using hl.2.symm⟩
    have Q:=h (i+1) O;simp only[YR,rY,pX,rg,nD,hf] at Q;have N:(gN s i).t_o=(gN s (i+1)).fr:=by
     rcases Q.1.2 with e | e
     .cases e
     .simpa using e
    exact ih (i+1) (by omega) O (hl.2.trans h3) (by omega)
  obtain⟨j,hj,H,C⟩:=HY (s:=s) i0;have T:j<s.length:=by omega
  have V:=h j T;simp only[YR,rY,pX,rg,nD,C] at V;have P:(gN s j).fr=(zp d.ae (gN s i0).aE).1.fr:=by
   rcases V.1.1 with e | e
   .cases e
   .rw[H] at e;exact e
  obtain⟨y,hy,I,F,E⟩:=up _ j (nJ _) T H (by omega)
  exact⟨⟨(gN s y).fr,(gN s y).t_o⟩,nS.2 ⟨gN s y,(Fj hp).2 ⟨y,hy,I,rfl⟩,rfl⟩,hw.right _ (wu hy),F,E⟩
 .intro h i hi
  have hc:=HK.1 (h _ (hp.mem_iff.1 (wu hi)));have pt:=hw.prt _ (wu hi);have cov:∀ v,(zp d.ae (gN s i).aE).1.fr<=v->v<(zp d.ae (gN s i).aE).1.t_o->∃ j,j<s.length/\(gN s j).aE=(gN s i).aE/\(gN s j).fr<=v/\v<(gN s j).t_o:=by
   intro v h1 h2;obtain⟨y,hy,_,F,E⟩:=hc.2 v h1 h2;obtain⟨m,hm,rfl⟩:=nS.1 hy;obtain⟨j,hj,H,rfl⟩:=(Fj hp).1 hm;exact⟨j,hj,H,F,E⟩
  have lo:=hw.lo _ (wu hi);have S:=hw.hi _ (wu hi);have W:=L _ (wu hi);generalize hP:(zp d.ae (gN s i).aE).1.fr=a at *;generalize hQ:(zp d.ae (gN s i).aE).1.t_o=b at *;have pt':a<b:=by simp only[yQ,nI,nD] at pt;omega
  simp only[YR,rY,pX,rg,nD,hP,hQ];refine⟨⟨?_,?_⟩,?_⟩
  .cases hf:yR s i with
   |false=>exact .inl rfl
   |true=>
    right
    apply oJ
    intro X;obtain⟨j,hj,H,Y,Z⟩:=cov a (wx _) pt';rcases pU j i with G | rfl | G
    .rcases Vu.1 hf with e | e
     .omega
     .apply e
      rcases pn (show j<=i-1 by omega) with e' | e'
      .rw[<-e',H]
      .have x1:=hs.aE j (i-1) e' (by omega)
       have x2:=hs.aE (i-1) i (by omega) hi
       omega
    .omega
    .have:=hs.fr i j G hj H.symm
     omega
  .cases hf:yR s i with
   |true=>exact .inl rfl
   |false=>
    right
    obtain⟨h0,K⟩:=XW.1 hf;have J:i-1<s.length:=by omega
    have h1:=ha (i-1) i (by omega) hi K
    apply oJ
    intro X;have r1:=L _ (wu J);have l1:=hw.lo _ (wu J);rw[K,hP] at l1;obtain⟨j,hj,H,Y,Z⟩:=cov (gN s (i-1)).t_o (by omega) (by omega)
    rcases pU j (i-1) with G | e | G
    .have:=ha j (i-1) G J (H.trans K.symm)
     omega
    .subst e;omega
    .rcases pn (show i<=j by omega) with e' | e'
     .subst e';omega
     .have:=hs.fr i j e' hj H.symm
      omega
  .cases hf:fJ s i with
   |false=>exact .inl rfl
   |true=>
    right
    apply oJ
    intro X;obtain⟨j,hj,H,Y,Z⟩:=cov (gN s i).t_o (by omega) (by omega)
    rcases pU j i with G | rfl | G
    .have:=ha j i G hi H
     omega
    .omega
    .rcases HV.1 hf with e | e
     .omega
     .apply e
      rcases pn (show i+1<=j from G) with e' | e'
      .rw[e',H]
      .have x1:=hs.aE (i+1) j e' hj
       have x2:=hs.aE i (i+1) (by omega) (by omega)
       omega
def jM(s:List Nt)(i:Nat):Nat:=((s.take i).filter λn=>decide (n.aE=(gN s i).aE)).length
theorem WB(hs:mj s){i:Nat}(hi:i<s.length)(h:yR s i=true):jM s i=0:=by
 unfold jM
 rw[pN,rp]
 intro x F E
 obtain⟨j,hj,rfl⟩:=oG.1 F
 have H:j<s.length:=by omega
 have G:j<i:=by omega
 simp only[nD] at E
 rw[<-qa H] at E
 rcases Vu.1 h with e | e
 .omega
 .apply e
  rcases pn (show j<=i-1 by omega) with e' | e'
  .rw[<-e',E]
  .have x1:=hs.aE j (i-1) e' (by omega)
   have x2:=hs.aE (i-1) i (by omega) hi
   omega
theorem Fo{i:Nat}(hi:i<s.length)(h:yR s i=false):jM s i=jM s (i-1)+1:=by
 obtain⟨G,F⟩:=XW.1 h
 obtain⟨j,rfl⟩:∃ j,i=j+1:=⟨i-1,by omega⟩
 have hj:j<s.length:=by omega
 have H:(gN s j).aE=(gN s (j+1)).aE:=F
 unfold jM
 rw[bq hj,pm,nO]
 have:[s[j]].filter (λn=>decide (n.aE=(gN s (j+1)).aE))=[s[j]]:=by
  rw[pT (by rw[<-qa hj];simpa using H)];rfl
 rw[this]
 simp only[rz,sw,H]
theorem lO{i:Nat}(hi:i<s.length):(s.filter λn=>decide (n.aE=(gN s i).aE))[jM s i]?=some (gN s i):=by
 have:=HL (q:=λn=>decide (n.aE=(gN s i).aE)) hi (by rw[<-qa hi];simp)
 rw[<-qa hi] at this
 exact this
theorem HZ{p:Int}{j:Nat}(h:j<(s.filter λn=>decide (n.aE=p)).length):∃ i,i<s.length/\(gN s i).aE=p/\jM s i=j:=by
 obtain⟨i,hi,G,F⟩:=Ff h
 have H:(gN s i).aE=p:=by rw[qa hi];simpa using G
 exact⟨i,hi,H,by unfold jM;rw[H];exact F⟩
def Ze(s:List Nt)(i:Nat):Bool:=(yR s i && !decide ((gN s i).cc=0)) || (!yR s i && !decide ((gN s i).cc=IntKind.i64.wrap ((gN s (i-1)).cc+1)))
theorem I0(hs:mj s)(G:s.length<2^40):(∀ i,i<s.length->Ze s i=false)↔∀ i,i<s.length->(gN s i).cc=jM s i:=by
 have F:∀ i,jM s i<=s.length:=by
  intro i;unfold jM;exact oC (oz _ _) (by rw[nR];omega)
 constructor
 .intro h i
  induction i with
  |zero=>
   intro hi;have E:yR s 0=true:=Vu.2 (.inl rfl)
   have:=h 0 hi
   rw[WB hs hi E];simp[Ze,E] at this;exact this
  |succ j ih=>
   intro hi;have:=h (j+1) hi
   cases E:yR s (j+1) with
   |true=>
    rw[WB hs hi E];simp[Ze,E] at this;exact this
   |false=>
    have e:=ih (by omega)
    have H:=F j;have e2:=Fo hi E;simp only[rz] at e2;simp[Ze,E] at this;rw[this,e,e2,lJ (by omega)];push_cast;rfl
 .intro h i hi
  cases E:yR s i with
  |true=>
   have:=h i hi
   rw[WB hs hi E] at this;simp[Ze,E,this]
  |false=>
   have e2:=Fo hi E;have e:=h i hi;have e1:=h (i-1) (by omega)
   have H:=F (i-1);simp only[Ze,E,tX,rk,sO,pK,rg,nD];rw[e,e1,e2,lJ (by omega)];push_cast;rfl
theorem I1(M:s.Perm (zX d.ae t))(hs:mj s)(O:s.length<2^40)(Q:∀ n∈s,n.fr=0):
  (∀ i,i<s.length->Ze s i=false)↔∀ n∈zX d.ae t,wQ (yc d.ae t n.aE)=true:=by
 rw[I0 hs O]
 constructor
 .intro h n T
  rw[Vs];intro m V;rw[<-(Y2 M n.aE).length_eq] at V;obtain⟨i,hi,X,Y⟩:=HZ V;rw[n_];exact⟨gN s i,(Fj M).2 ⟨i,hi,X,rfl⟩,by rw[nD,h i hi,Y]⟩
 .intro h i hi
  have Z:=Vs.1 (h _ (M.mem_iff.1 (wu hi)));have H:=(Y2 M (gN s i).aE).length_eq;have E:((s.filter λn=>decide (n.aE=(gN s i).aE)).map (·.cc)).Pairwise (·<=·):=by
   rw[rq,tH,od];intro a b A B K X Y;simp only[nD] at X Y;rw[<-qa A] at X ⊢;rw[<-qa B] at Y ⊢;exact hs.cc a b K B (X.trans Y.symm) (by rw[Q _ (wu A),Q _ (wu B)])
  have J:=HN _ 0 E (λn T=>by
   rw[om,H] at T;have:=Z n T
   rw[n_] at this;obtain⟨x,C,G⟩:=this;simp only[nD] at G;rw[nS];exact⟨x,(Y2 M _).mem_iff.2 C,by rw[G];omega⟩)
  have F:=lO hi;have L:jM s i<(s.filter λn=>decide (n.aE=(gN s i).aE)).length:=(nN.1 F).1
  have:=J (jM s i) (by rw[om];exact L)
  rw[pC,F] at this;simp at this
  exact this
theorem zjh(G:s.Perm (zX d.ae t))(hs:mj s):(∀ i,i<s.length->yR s i=true)↔∀ n∈zX d.ae t,¬1<(yc d.ae t n.aE).length:=by
 constructor
 .intro h n F E
  rw[<-(Y2 G n.aE).length_eq] at E;obtain⟨i,hi,_,K⟩:=HZ E;rw[WB hs hi (h i hi)] at K;cases K
 .intro h i hi
  cases J:yR s i with
  |true=>rfl
  |false=>
   exfalso
   apply h _ (G.mem_iff.1 (wu hi))
   have e2:=Fo hi J;have H:=(nN.1 (lO hi)).1;rw[(Y2 G (gN s i).aE).length_eq] at H;omega
end
end Go.V.Doc
namespace Go.V.Doc
open Go Go.Proofs Tryz
theorem Fp(d:Dc):∀ (m i:Nat),i+m=d.ae.length->vU d m i=0->∀ j,i<=j->j<d.ae.length->wt d j=0
 |0,i,h,_,j,H,h2=>by omega
 |m+1,i,h,G,j,H,h2=>by
  rw[F9,gt (by omega)] at G
  by_cases F:wt d i=0
  .rw[gt F] at G
   rcases pn H with e | e
   .rw[<-e];exact F
   .exact Fp d m (i+1) (by omega) G j e h2
  .rw[ge F] at G;exact absurd G F
theorem Fq(l:List cD):∀ (m i:Nat),i+m=l.length->ZW l m i=0->∀ j,i<=j->(h:j<l.length)->qM (l.take j) l[j]=0
 |0,i,h,_,j,H,h2=>by omega
 |m+1,i,h,G,j,H,h2=>by
  simp only[ZW] at G;rw[si (by omega)] at G
  by_cases F:qM (l.take i) (l[i]'(by omega))=0
  .rw[gt F] at G
   rcases pn H with e | e
   .subst e;exact F
   .exact Fq l m (i+1) (by omega) G j e h2
  .rw[ge F] at G;exact absurd G F
structure lB(d:Dc):Prop where
 al:∀ j,(h:j<d.al.length)->qM (d.al.take j) d.al[j]=0
 ae:∀ j,j<d.ae.length->wt d j=0
theorem Ft{l:List cD}{t:cD}(h:qM l t=0)(H:t.kind≠0):0<=t.aE/\t.aE<l.length/\(zR t.kind=true->zR (l[t.aE.toNat]?.getD default).kind=true):=by
 unfold qM at h
 split at h
 .cases h
 .split at h
  .cases h
  .split at h
   .cases h
   .split at h
    .cases h
    .split at h
     .cases h
     .split at h
      .cases h
      .rename_i hp
       split at h
       .cases h
       .rename_i ha
        refine⟨by omega,by omega,λe=>?_⟩
        cases G:zR (l[t.aE.toNat]?.getD default).kind with
        |true=>rfl
        |false=>exact absurd ⟨e,G⟩ ha
structure gc(d:Dc)(n:Nt):Prop where
 t0:0<=n.aZ
 t1:n.aZ<d.al.length
 df:ky d n=0
theorem Zf{d:Dc}(h:lB d){n:Nt}(H:n∈d.ae):gc d n:=by
 obtain⟨i,hi,rfl⟩:=nT.1 H
 have:=h.ae i hi
 simp only[wt,ac hi,nW] at this
 split at this
 .cases this
 .split at this
  .cases this
  .split at this
   .cases this
   .rename_i ht
    rw[XU] at this;split at this
    .exact⟨by omega,by omega,this⟩
    .rename_i hx;exact absurd this hx
theorem Vw{d:Dc}{n:Nt}(h:ky d n=0):((zv d n.aZ).kind=0->n.aE=0)/\((zv d n.aZ).kind≠0->(zp d.ae n.aE).2=true/\(zp d.ae n.aE).1.aZ=(zv d n.aZ).aE) /\
  wq d n (zp d.ae n.aE).1=true:=by
 unfold ky at h
 by_cases H:(zv d n.aZ).kind=0
 .rw[gt H] at h
  by_cases G:n.aE=0
  .rw[gt (by simpa using G)] at h
   by_cases F:wq d n (zp d.ae n.aE).1=true
   .exact⟨λ_=>G,λe=>absurd H e,F⟩
   .rw[ge F] at h;cases h
  .rw[ge (by simpa using G)] at h;cases h
 .rw[ge H] at h
  by_cases E:((zp d.ae n.aE).2&&decide ((zp d.ae n.aE).1.aZ=(zv d n.aZ).aE))=true
  .rw[gt E] at h
   by_cases F:wq d n (zp d.ae n.aE).1=true
   .rw[nI,nD] at E
    exact⟨λe=>absurd e H,λ_=>E,F⟩
   .rw[ge F] at h;cases h
  .rw[ge E] at h;cases h
theorem Vx{d:Dc}{i:Int}(H:0<=i)(G:i<d.al.length):Vn d.al i=zR (zv d i).kind:=by
 unfold Vn zv
 rw[pI H,pI G];rfl
theorem Vy{d:Dc}{n:Nt}(h:gc d n)(H:zR (zv d n.aZ).kind=true):yQ n.fr n.t_o=true:=by
 have G:=(Vw h.df).2.2
 unfold wq at G
 rw[gt (by rw[Vx h.t0 h.t1];exact H),nI] at G
 exact G.1
theorem Fv{d:Dc}{n:Nt}(h:gc d n)(H:zR (zv d n.aZ).kind=false):n.fr=0/\n.t_o=0:=by
 have G:=(Vw h.df).2.2
 unfold wq at G
 rw[ge (by rw[Vx h.t0 h.t1,H];simp),nI,nD,nD] at G
 exact G
theorem u7{l:List Nt}{id:Int}(h:(zp l id).2=true):(zp l id).1∈l/\(zp l id).1.id=id:=by
 unfold zp at h ⊢
 cases H:l.find? λn=>decide (n.id=id) with
 |none=>rw[H] at h;cases h
 |some n=>
  rw[H] at h;exact⟨qv H,by simpa using tK H⟩
theorem zte{d:Dc}(L:lB d){n:Nt}(h:gc d n)(M:(zv d n.aZ).kind≠0)(O:zR (zv d n.aZ).kind=true):
  yQ (zp d.ae n.aE).1.fr (zp d.ae n.aE).1.t_o=true/\(zp d.ae n.aE).1.fr<=n.fr/\n.t_o<=(zp d.ae n.aE).1.t_o:=by
 obtain⟨_,Q,T⟩:=Vw h.df
 obtain⟨E,G⟩:=Q M
 have V:=u7 E
 have K:=Zf L V.1
 obtain⟨k,J⟩:∃ k:Nat,n.aZ=k:=⟨n.aZ.toNat,by have:=h.t0;omega⟩
 have F:k<d.al.length:=by have:=h.t1;omega
 have et:zv d n.aZ=d.al[k]:=by rw[J];simp[zv,ac F]
 rw[et] at M O G
 obtain⟨q1,q2,q3⟩:=Ft (L.al k F) M
 have H:(d.al.take k).length=k:=by rw[nR];omega
 rw[H] at q2
 have q4:=q3 O
 have e2:(d.al.take k)[(d.al[k]).aE.toNat]?.getD default=zv d (d.al[k]).aE:=by
  unfold zv;rw[og,gt (by omega)]
 rw[e2] at q4
 refine⟨Vy K (by rw[G];exact q4),?_⟩
 unfold wq at T
 rw[gt (by rw[Vx h.t0 h.t1,et];exact O),et,ge M,nI,nI,nD,nD] at T
 exact T.2
theorem I2{n:Nat}{f:Nat->Bool}:(List.range' 0 n).any f=false↔∀ i,i<n->f i=false:=by
 rw[oB]
 constructor
 .intro h i hi
  have:=h i (by rw[AR];exact⟨i,hi,by omega⟩)
  simpa using this
 .intro h i hi
  rw[AR] at hi;obtain⟨j,hj,rfl⟩:=hi;simpa using h _ (by omega)
theorem Vz{α:Type}{l:List α}{f:α->Bool}:l.any f=false↔∀ x∈l,f x=false:=by
 rw[oB]
 exact⟨λh x H=>by simpa using h x H,λh x H=>by simpa using h x H⟩
theorem I3{a b:Bool}(h:a=false↔b=false):a=b:=by
 cases a <;> cases b <;> simp_all
theorem zq6(d:Dc)(L:lB d)(M:d.ae.length<=300)(t:Nat)(O:t<d.al.length):Vr d t=kB d t:=by
 rw[zn0,HT]
 have Q:=HD (zX d.ae t)
 have hs:=HU (zX d.ae t)
 have T:(xQ (zX d.ae t)).length<2^40:=by
  rw[Wx];have:(zX d.ae t).length<=d.ae.length:=oz _ _
  omega
 have H:∀ n∈xQ (zX d.ae t),gc d n/\n.aZ=t:=by
  intro n M;have V:=Q.mem_iff.1 M;unfold zX at V;rw[oA] at V;exact⟨Zf L V.1,by simpa using V.2⟩
 generalize xQ (zX d.ae t)=s at *
 generalize G:(zv d (t:Int)).kind=kd
 have K:(List.range' 0 s.length).any (XV kd s)=(zX d.ae t).any (kD d t kd):=by
  apply I3
  rw[I2,Vz];cases X:zR kd with
  |false=>simp[XV,kD,X]
  |true=>
   have Y:∀ n∈s,n.fr<n.t_o:=by
    intro n M;obtain⟨V,Z⟩:=H n M;have:=Vy V (by rw[Z,G];exact X)
    simp only[yQ,nI,nD] at this;omega
   simp only[XV,kD,X,pK];rw[<-HW Q hs Y];exact⟨ztd hs,zq4⟩
 rw[K]
 cases A:(zX d.ae t).any (kD d t kd) with
 |true=>rfl
 |false=>
  have F:(List.range' 0 s.length).any (uN d.ae kd s)=(zX d.ae t).any (eN d t kd):=by
   apply I3
   rw[I2,Vz];by_cases k1:kd=1
   .subst k1
    have X:zR 1=true:=rfl
    have Y:∀ n∈s,yQ n.fr n.t_o=true:=λn M=>by
     obtain⟨V,Z⟩:=H n M;exact Vy V (by rw[Z,G];exact X)
    have J:∀ n∈s,n.fr<n.t_o:=λn M=>by
     have:=Y n M
     simp only[yQ,nI,nD] at this;omega
    have E:Vv s:=by
     rw[HW Q hs J];intro n M;have:=Vz.1 A n M
     simpa[kD,X] using this
    have B:Wit d.ae s:=by
     have w:=λn (M:n∈s)=>zte L (H n M).1 (by rw[(H n M).2,G];decide) (by rw[(H n M).2,G];exact X)
     exact⟨Y,λn M=>(w n M).1,λn M=>(w n M).2.1,λn M=>(w n M).2.2⟩
    have:=zq5 Q hs E B
    have e1:∀ i,uN d.ae 1 s i=YR d.ae s i:=λi=>by simp[uN,YR]
    have e2:∀ n,eN d t 1 n = !kz (ci (yc d.ae t n.aE)) ⟨(zp d.ae n.aE).1.fr,(zp d.ae n.aE).1.t_o⟩:=λn=>by simp[eN]
    simp only[e1,e2,rg];exact this
   by_cases k3:kd=3
   .subst k3
    have X:zR 3=false:=rfl
    have:=I1 Q hs T λn M=>(Fv (H n M).1 (by rw[(H n M).2,G];exact X)).1
    have e1:∀ i,uN d.ae 3 s i=Ze s i:=λi=>by simp[uN,Ze]
    have e2:∀ n,eN d t 3 n = !wQ (yc d.ae t n.aE):=λn=>by simp[eN]
    simp only[e1,e2,rg];exact this
   by_cases k4:kd=4
   .subst k4
    have:=zjh Q hs
    have e1:∀ i,uN d.ae 4 s i = !yR s i:=λi=>by simp[uN]
    have e2:∀ n,eN d t 4 n=decide (1<(yc d.ae t n.aE).length):=λn=>by simp[eN]
    simp only[e1,e2,rg,pO];exact this
   simp[uN,eN,k1,k3,k4]
  rw[F]
theorem I4(d:Dc)(H:lB d)(G:d.ae.length<=300):∀ (m i:Nat),i+m=d.al.length->Wy d m i=kC d m i
 |0,i,_=>rfl
 |m+1,i,h=>by
  simp only[Wy,kC];have hi:i<d.al.length:=by omega
  rw[gt hi,gt hi,zq6 d H G i hi,I4 d H G m (i+1) (by omega)]
theorem I5(d:Dc):F8 d=u4 d:=by
 unfold F8 u4
 split
 .rfl
 .rename_i F
  split
  .rfl
  .split
   .rfl
   .rename_i h3
    split
    .rfl
    .rename_i E
     have H:ku d.al=0:=by simpa using F
     have G:vU d d.ae.length 0=0:=by simpa using E
     unfold ku at H;split at H
     .cases H
     .exact I4 d ⟨λj hj=>Fq _ _ _ (by omega) H j (by omega) hj,λj hj=>Fp d _ _ (by omega) G j (by omega) hj⟩ (by omega) _ _ (by omega)
structure Nok(d:Dc)(n:Nt):Prop where
 lo:1<=n.id
 hi:n.id<=1099511627776
 t0:0<=n.aZ
 t1:n.aZ<d.al.length
 e:Vq d n=0
structure b_(d:Dc):Prop where
 al:ku d.al=0
 len:0<=d.len/\d.len<=86400000
 cW:d.ae.length<=300
 e_:∀ n∈d.ae,Nok d n
 li:d.ae.Pairwise λa b=>a.id<b.id
 ter:∀ t:Nat,t<d.al.length->kB d t=0
theorem I6(d:Dc):∀ (m i:Nat),i+m=d.ae.length->(∀ j,i<=j->j<d.ae.length->wt d j=0)->vU d m i=0
 |0,i,h,_=>rfl
 |m+1,i,h,H=>by
  rw[F9,gt (by omega),gt (H i (nJ _) (by omega))]
  exact I6 d m (i+1) (by omega) λj G h2=>H j (by omega) h2
theorem I7(d:Dc):∀ (m i:Nat),i+m=d.al.length->kC d m i=0->∀ j:Nat,i<=j->j<d.al.length->kB d j=0
 |0,i,h,_,j,H,h2=>by omega
 |m+1,i,h,G,j,H,h2=>by
  simp only[kC] at G;rw[gt (by omega)] at G
  by_cases F:kB d i=0
  .rw[gt F] at G
   rcases pn H with e | e
   .rw[<-e];exact F
   .exact I7 d m (i+1) (by omega) G j e h2
  .rw[ge F] at G;exact absurd G F
theorem I8(d:Dc):∀ (m i:Nat),i+m=d.al.length->(∀ j:Nat,i<=j->j<d.al.length->kB d j=0)->kC d m i=0
 |0,i,h,_=>rfl
 |m+1,i,h,H=>by
  simp only[kC];rw[gt (by omega),gt (H i (nJ _) (by omega))]
  exact I8 d m (i+1) (by omega) λj G h2=>H j (by omega) h2
theorem WC{d:Dc}{i:Nat}(hi:i<d.ae.length):wt d i=0↔Nok d d.ae[i]/\(i≠0->(d.ae[i-1]?.getD default).id<d.ae[i].id):=by
 simp only[wt,ac hi,nW]
 constructor
 .intro h
  split at h
  .cases h
  .split at h
   .cases h
   .split at h
    .cases h
    .exact⟨⟨by omega,by omega,by omega,by omega,h⟩,λh0=>by omega⟩
 .rintro⟨⟨H,G,F,E,K⟩,J⟩
  rw[ge (by omega),ge (by rintro⟨a,b⟩;have:=J a;omega),ge (by omega)]
  exact K
theorem Fz{d:Dc}:(∀ i,i<d.ae.length->wt d i=0)↔(∀ n∈d.ae,Nok d n)/\d.ae.Pairwise λa b=>a.id<b.id:=by
 constructor
 .intro h
  refine⟨λn hn=>?_,?_⟩
  .obtain⟨i,hi,rfl⟩:=nT.1 hn
   exact((WC hi).1 (h i hi)).1
  .rw[od]
   have key:∀ (k i:Nat) (hj:i+k+1<d.ae.length),(d.ae[i]'(by omega)).id<(d.ae[i+k+1]'hj).id:=by
    intro k;induction k with
    |zero=>
     intro i hj;have:=((WC hj).1 (h _ hj)).2 (by omega)
     rw[rz,ac (by omega)] at this
     exact this
    |succ k ih=>
     intro i hj;have a:=ih i (by omega)
     have:=((WC hj).1 (h _ hj)).2 (by omega)
     rw[rz,ac (by omega)] at this
     exact Int.lt_trans a this
   intro i j hi hj H;obtain⟨k,rfl⟩:∃ k,j=i+k+1:=⟨j-i-1,by omega⟩
   exact key k i hj
 .rintro⟨G,F⟩ i hi
  rw[WC hi];refine⟨G _ (nF hi),λh0=>?_⟩
  rw[ac (by omega)]
  exact od.1 F (i-1) i (by omega) hi (by omega)
theorem zji{d:Dc}:F8 d=0↔b_ d:=by
 rw[I5]
 unfold u4
 constructor
 .intro h
  split at h
  .rename_i G;exact absurd h G
  .rename_i G
   split at h
   .cases h
   .split at h
    .cases h
    .split at h
     .rename_i F;exact absurd h F
     .rename_i F
      have H:vU d d.ae.length 0=0:=by simpa using F
      have E:=Fz.1 λi hi=>Fp d _ _ (by omega) H i (by omega) hi
      exact⟨by simpa using G,by omega,by omega,E.1,E.2,λt K=>I7 d _ _ (by omega) h t (by omega) K⟩
 .intro h
  rw[ge (by simpa using h.al),ge (by have:=h.len;omega),ge (by have:=h.cW;omega)]
  have:=Fz.2 ⟨h.e_,h.li⟩
  rw[I6 d _ _ (by omega) λj _ hj=>this j hj]
  rw[ge (by simp)]
  exact I8 d _ _ (by omega) λj _ hj=>h.ter j hj
theorem b_.cI{d:Dc}(h:b_ d):lB d:=by
 refine⟨?_,Fz.2 ⟨h.e_,h.li⟩⟩
 have H:=h.al
 unfold ku at H
 split at H
 .cases H
 .exact λj hj=>Fq _ _ _ (by omega) H j (by omega) hj
theorem WE{d:Dc}{t:Int}:kB d t=0↔(∀ n∈zX d.ae t,kD d t (zv d t).kind n=false)/\∀ n∈zX d.ae t,eN d t (zv d t).kind n=false:=by
 rw[HT,<-Vz,<-Vz]
 have H:Y1 (zv d t).kind≠0:=by unfold Y1;split <;> (try split) <;> omega
 cases (zX d.ae t).any (kD d t (zv d t).kind) <;> cases (zX d.ae t).any (eN d t (zv d t).kind) <;> simp[H]
theorem VA{d:Dc}(h:b_ d){a b:Nt}(H:a∈d.ae)(G:b∈d.ae)(e:a.id=b.id):a=b:=by
 obtain⟨i,hi,rfl⟩:=nT.1 H
 obtain⟨j,hj,rfl⟩:=nT.1 G
 have F:=od.1 h.li
 rcases pU i j with E | rfl | E
 .have:=F i j hi hj E;omega
 .rfl
 .have:=F j i hj hi E;omega
theorem ua{d:Dc}(h:b_ d){n:Nt}(H:n∈d.ae):zp d.ae n.id=(n,true):=by
 unfold zp
 cases G:d.ae.find? λm=>decide (m.id=n.id) with
 |none=>rw[ry] at G;exact absurd (G n H) (by simp)
 |some m=>
  have F:=qv G;have E:m.id=n.id:=by simpa using tK G
  rw[VA h F H E]
end Go.V.Doc

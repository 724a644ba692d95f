/- Contracts and plain laws of this seat: part MF. It needs no conditions. -/
import Derived.Test.YtknekjalbninmaaGreatS3
import Derived.Test.YtknekjalbninmaaGreatSw
import Derived.Test.YtknekjalbninmaaGreatMD
import Derived.Test.YtknekjalbninmaaGreatME
import Derived.Test.YtknekjalbninmaaGreatMA
import Derived.Test.YtknekjalbninmaaGreatMC
import Derived.Test.YtknekjalbninmaaGreatMB
import Derived.Test.YtknekjalbninmaaGreatW1
set_option linter.all false
set_option maxHeartbeats 32000000
set_option maxRecDepth 100000
namespace Go.V
open Go Go.Proofs Tryz
theorem ztl(a b:List Int)(E:b.length<2^62):aq prog 158 [aa a,aa b] (.bool (decide (a=b))):=by
 refine aF func158 ?_
 simp[f158,aa]
 refine⟨λh e=>h (by rw[e]),λh=>?_⟩
 refine cl (λk:Nat=>{n:=26,next:=0,af:=[(0,.d (aa a)),(1,.d (aa b)),(12,.d (.int .i64 a.length)),(13,.d (.int .i64 k))],own:=[]})
  (λk=>k<=a.length/\a.take k=b.take k) (λk=>a.length-k) 0 (by simp) (by simp[aa]) ?_
 intro k ⟨K,J⟩
 have h:a.length=b.length:=by omega
 by_cases G:k<a.length
 .have e1:a[k]?=some a[k]:=ac G
  have e2:b[k]?=some (b[k]'(by omega)):=ac (by omega)
  have H:k<b.length:=by omega
  simp+decide[aa,int,e1,e2,G,H,aB];refine⟨λF e=>by subst e;simp at F,λhe=>⟨by omega,k+1,⟨G,?_⟩,by omega,by omega⟩⟩
  rw[yh G,yh H,J,he]
 .obtain rfl:k=a.length:=by omega
  simp+decide[aa];rw[nH,h,nH] at J;exact J
def vC(w s:List Int):Bool:=decide (s.length<=w.length)&&decide (s=w.take s.length)
def qT(us:List bo)(w:List Int):Nat->Option Nat
 |0=>none
 |k+1=>match us[k]? with
  |none=>qT us w k
  |some u=>if vC w u.bi=true then (match qT us w k with
    |none=>some k
    |some b=>if ((us[b]?.map λv=>v.bi.length).getD 0)<u.bi.length then some k else some b)
   else qT us w k
theorem Zp{us:List bo}{w:List Int}:∀ {k b:Nat},qT us w k=some b->∃ v,us[b]?=some v/\vC w v.bi=true
 |0,b,h=>by cases h
 |k+1,b,h=>by
  unfold qT at h;split at h
  .exact Zp h
  .rename_i u H
   split at h
   .rename_i G
    split at h
    .obtain rfl:=ph h;exact⟨u,H,G⟩
    .rename_i b' hb'
     split at h
     .obtain rfl:=ph h;exact⟨u,H,G⟩
     .obtain rfl:=ph h
      exact Zp hb'
   .exact Zp h
theorem zk7(o:bb)(V:eO o)(w:List Int)(X:w.length<2^40):aq prog 99 [.agg o.cells,aa w] (int (qo (qT o.au w o.au.length))):=by
 have O:=V.cW.1
 refine aF func99 ?_
 simp+decide[f99,int,aa,zJ,bb.cells]
 refine xP (λk:Nat=>{n:=51,next:=1,af:=[(1,.d (aa w)),(2,.bp 0 0),(5,.d (int (qo (qT o.au w k)))),(9,.d (zJ o.au)),(10,.d (int o.au.length)),(11,.d (int k))],own:=[(0,.box 28 (o.cells.map .d))]}) o.au.length ?_ ?_
 .simp+decide[int,aa,zJ,bb.cells,qT,qo]
 intro k Y
 refine cy ?_
 by_cases G:k<o.au.length
 case neg=>
  obtain rfl:k=o.au.length:=by omega
  simp+decide[int,aa,zJ,bb.cells]
 have F:=bG G
 obtain⟨u,eu,eu1⟩:=bN G
 have Q:=(V.au o.au[k] (nF G)).2
 rw[eu] at Q
 have H:qT o.au w (k+1)=if vC w u.bi=true then (match qT o.au w k with
    |none=>some k
    |some b=>if ((o.au[b]?.map λv=>v.bi.length).getD 0)<u.bi.length then some k else some b)
   else qT o.au w k:=by rw[qT,eu1]
 by_cases c1:w.length<u.bi.length
 .have c1':(w.length:Int)<u.bi.length:=by omega
  have Z:vC w u.bi=false:=by unfold vC;rw[pH (by omega)];rfl
  rw[Z,ge (by decide)] at H
  simp+decide[int,aa,zJ,bb.cells,G,F,eu,eu1,bo.row,aB,c1,c1'];exact⟨by omega,k+1,G,by omega,by rw[H],by omega⟩
 have c1':¬(w.length:Int)<u.bi.length:=by omega
 have A:=ztl u.bi (w.take u.bi.length) (by rw[nR];omega)
 have T:vC w u.bi=decide (u.bi=w.take u.bi.length):=by unfold vC;rw[pI (by omega)];rfl
 have c2:u.bi.length<=w.length:=by omega
 have c2':(u.bi.length:Int)<=w.length:=by omega
 rw[<-T] at A
 simp only[aa,rG] at A
 simp+decide[int,aa,zJ,bb.cells,G,F,eu,eu1,bo.row,aB,c1,c1',c2,c2']
 refine bw A ?_
 cases Z:vC w u.bi with
 |false=>
  rw[Z,ge (by decide)] at H
  simp+decide[int,aa,zJ,bb.cells,G,F,eu,eu1,bo.row,aB];exact⟨by omega,k+1,G,by omega,by rw[H],by omega⟩
 |true=>
  rw[Z,gt rfl] at H;cases K:qT o.au w k with
  |none=>
   rw[K] at H;simp only at H
   simp+decide[int,aa,zJ,bb.cells,G,F,eu,eu1,bo.row,aB,qo];exact⟨by omega,k+1,G,by omega,by rw[H],by omega⟩
  |some b=>
   obtain⟨v,ev1,_⟩:=Zp K;obtain⟨L,ev⟩:=nN.1 ev1;have E:(b:Int)<o.au.length:=by omega
   rw[K] at H;simp only at H
   rw[ev1] at H;simp only[oL,nW] at H;have M:¬(b:Int)<0:=by omega
   by_cases B:v.bi.length<u.bi.length
   .have J:(v.bi.length:Int)<u.bi.length:=by omega
    rw[gt B] at H;simp+decide[int,aa,zJ,bb.cells,G,F,eu,eu1,bo.row,aB,qo,L,E,ev,ev1,B,J,M];exact⟨by omega,k+1,G,by omega,by rw[H],by omega⟩
   .have J:¬(v.bi.length:Int)<u.bi.length:=by omega
    rw[ge B] at H;simp+decide[int,aa,zJ,bb.cells,G,F,eu,eu1,bo.row,aB,qo,L,E,ev,ev1,B,J,M];exact⟨by omega,k+1,G,by omega,by rw[H],by omega⟩
theorem zk8(s:ByteArray)(hs:s.size<2^40):
  aU prog 100 [.bp 0 0,.d (.str s)] [(0,.box 166 [.d (.val (.pointer none)),.aW])] 1 (.bE [.d (int s.size),.d (.val .nilIface)]) 2 [(1,.aQ 5 1 (yJ s)),(0,.box 166 [.bp 0 0,.ar 1])] [1]:=by
 have H:aU prog 159 [.bp 0 0] [(0,.box 166 [.d (.val (.pointer none)),.aW])] 1 (.d (.bE [])) 1 [(0,.box 166 [.bp 0 0,.aW])] []:=zly (by rfl) zof
 refine dd func100 (by simp[ah.a_,ah.lo]) ?_
 simp+decide[f100,int]
 refine zE.mut [0] [.bp 0 0] [(0,.box 166 [.d (.val (.pointer none)),.aW])] (by rfl) (by simp) (by simp) (by simp) H ?_
 simp+decide[int,maxLen]
 exact⟨by omega,by omega⟩
theorem zk9(s:ByteArray)(rows:List (List D))(hs:rows.length+s.size<2^40):
  aU prog 100 [.bp 0 0,.d (.str s)] [(0,.box 166 [.bp 0 0,.ar 1]),(1,.aQ 5 1 rows)] 2 (.bE [.d (int s.size),.d (.val .nilIface)]) 2 [(0,.box 166 [.bp 0 0,.ar 1]),(1,.aQ 5 1 (rows++yJ s))] [1]:=by
 have H:aU prog 159 [.bp 0 0] [(0,.box 166 [.bp 0 0,.ar 1]),(1,.aQ 5 1 rows)] 2 (.d (.bE [])) 2 [(0,.box 166 [.bp 0 0,.ar 1]),(1,.aQ 5 1 rows)] []:=zpw (by rfl) zrh _ _ _
 refine dd func100 (by simp[ah.a_,ah.lo]) ?_
 simp+decide[f100,int]
 refine zE.mut [0,1] [.bp 0 0] [(0,.box 166 [.bp 0 0,.ar 1]),(1,.aQ 5 1 rows)] (by rfl) (by simp) (by simp) (by simp;rfl) H ?_
 simp+decide[int,maxLen]
 exact⟨by omega,by omega⟩
theorem zr1(s:ByteArray)(hs:s.size≠0):
  aU prog 101 [.bp 0 0] [(0,.box 166 [.bp 0 0,.ar 1]),(1,.aQ 5 1 (yJ s))] 2 (.d (.str s)) 2 [] []:=zh1 ztu bldX (by rfl) s hs
theorem zer(a b:ByteArray):yJ (a++b)=yJ a++yJ b:=by
 unfold yJ
 simp[Bk]
def kL(us:List bo)(w:List Int):Nat->Nat->ByteArray->ByteArray×Int×Int
 |0,_,_=>(.empty,0,0)
 |f+1,bc,acc=>if bc<w.length then (match qT us (w.drop bc) us.length with
   |none=>(.empty,bc,20)
   |some b=>kL us w f (bc+((us[b]?.map λv=>v.bi.length).getD 0)) (acc++((us[b]?.map λv=>v.bg).getD .empty)))
  else (acc,0,0)
def xy(us:List bo)(w:List Int):ByteArray×Int×Int:=
 if w.length=0 then (.empty,0,4) else if 24<w.length then (.empty,0,5) else kL us w (w.length+1) 0 .empty
theorem OH{us:List bo}(G:∀ u∈us,fg u){w:List Int}:∀ {f bc:Nat} {acc:ByteArray},acc.size<=32*bc->bc<=w.length->(kL us w f bc acc).1.size<=32*w.length
 |0,_,_,_,_=>by simp[kL]
 |f+1,bc,acc,h,hat=>by
  unfold kL;split
  .split
   .simp
   .rename_i b F
    obtain⟨v,E,H⟩:=Zp F;have K:=G v (ol E);have J:v.bi.length<=(w.drop bc).length:=by
     unfold vC at H;rw[nI,nD] at H;exact H.1
    rw[oO] at J;rw[E];refine OH G ?_ ?_
    .have:=K.size;have:=K.bi
     rw[sy];simp only[oL,nW];omega
    .simp only[oL,nW]
     omega
  .have:acc.size<=32*w.length:=by omega
   exact this
theorem OI{us:List bo}(H:∀ u∈us,fg u)(w:List Int):(xy us w).1.size<=768:=by
 unfold xy
 split
 .simp
 .split
  .simp
  .have:=OH H (w:=w) (f:=w.length+1) (bc:=0) (acc:=.empty) (by simp) (by omega)
   omega
theorem zpf(o:bb)(P:eO o)(S:∀ u∈o.au,fg u)(w:List Int)(W:w.length<2^40):
  aq prog 43 [.agg o.cells,aa w] (.bE [.str (xy o.au w).1,int (xy o.au w).2.1,int (xy o.au w).2.2]):=by
 refine aF func43 ?_
 by_cases c0:w.length=0
 .have:w=[]:=nZ c0
  subst this;simp+decide[f43,int,aa,bb.cells,xy]
 have c0':¬(w.length:Int)=0:=by omega
 by_cases c1:24<w.length
 .have c1':(24:Int)<w.length:=by omega
  have T:xy o.au w=(.empty,0,5):=by unfold xy;rw[ge c0,gt c1]
  rw[T];simp+decide[f43,int,aa,bb.cells,c0,c0',c1,c1']
 have c1':¬(24:Int)<w.length:=by omega
 have T:xy o.au w=kL o.au w (w.length+1) 0 .empty:=by unfold xy;rw[ge c0,ge c1]
 simp+decide[f43,int,aa,bb.cells,c0,c0',c1,c1']
 refine qg (λx:Bool×Nat×Nat×ByteArray=>if x.1=true
   then {n:=45,next:=2,af:=[(1,.d (aa w)),(2,.bp 0 0),(7,.bp 1 0),(8,.d (int x.2.2.1))],own:=[(0,.box 28 (o.cells.map .d)),(1,.box 166 [.d (.val (.pointer none)),.aW])]}
   else {n:=45,next:=3,af:=[(1,.d (aa w)),(2,.bp 0 0),(7,.bp 1 0),(8,.d (int x.2.2.1))],own:=[(0,.box 28 (o.cells.map .d)),(1,.box 166 [.bp 1 0,.ar 2]),(2,.aQ 5 1 (yJ x.2.2.2))],aA:=[2]})
  (λx=>x.2.2.1<=w.length/\w.length<x.2.2.1+x.2.1/\kL o.au w x.2.1 x.2.2.1 x.2.2.2=xy o.au w/\x.2.2.2.size<=32*x.2.2.1/\(x.1=true->x.2.2.1=0/\x.2.2.2 = .empty)/\(x.1=false->x.2.2.2.size≠0)) (λx=>w.length-x.2.2.1)
  (true,w.length+1,0,.empty) ⟨by simp,by simp,T.symm,by simp,by simp,by simp⟩ ?_ ?_
 .simp+decide[int,aa,bb.cells]
 rintro⟨fr,f,bc,acc⟩ ⟨J,hf,F,A,V,Y⟩
 simp only at J hf F A V Y
 refine cy ?_
 obtain⟨f,rfl⟩:∃ f',f=f'+1:=⟨f-1,by omega⟩
 unfold kL at F
 by_cases G:bc<w.length
 case neg=>
  have H:¬(bc:Int)<w.length:=by omega
  rw[ge G] at F;cases fr with
  |true=>have:=(V rfl).1;omega
  |false=>
   rw[<-F];simp+decide[int,aa,G,H,bb.cells];refine zE.mut [1,2] [.bp 0 0] [(0,.box 166 [.bp 0 0,.ar 1]),(1,.aQ 5 1 (yJ acc))] (by rfl) (by simp) (by simp) (by simp;rfl) (zr1 acc (Y rfl)) ?_
   simp+decide[int]
 rw[gt G] at F
 have H:=bG G
 have hU:=zk7 o P (w.drop bc) (by rw[oO];omega)
 simp only[aa,tE] at hU
 have M:List.take w.length (w.map λn=>[D.int .i64 n])=w.map λn=>[D.int .i64 n]:=oa (by simp)
 cases hb:qT o.au (w.drop bc) o.au.length with
 |none=>
  rw[hb] at F hU;simp only at F
  simp only[qo] at hU;rw[<-F];cases fr with
  |true=>
   simp+decide[int,aa,G,H,J,M,bb.cells];refine bw hU ?_
   simp+decide[int,aa,G,H,bb.cells]
  |false=>
   simp+decide[int,aa,G,H,J,M,bb.cells];refine bw hU ?_
   simp+decide[int,aa,G,H,bb.cells]
 |some b=>
  obtain⟨v,ev1,K⟩:=Zp hb;obtain⟨O,ev⟩:=nN.1 ev1;have E:(b:Int)<o.au.length:=by omega
  have Q:¬(b:Int)<0:=by omega
  have hF:=S v (ol ev1);have B:=hF.size;have C:=hF.pos;have I:=hF.bi;have N:v.bi.length<=w.length-bc:=by
   unfold vC at K;rw[nI,nD,oO] at K;exact K.1
  rw[hb] at F hU;simp only[ev1,oL,nW] at F;simp only[qo] at hU;have L:(acc++v.bg).size<=32*(bc+v.bi.length):=by rw[sy];omega
  have Z:(acc++v.bg).size≠0:=by rw[sy];omega
  cases fr with
  |true=>
   obtain⟨h0,X⟩:=V rfl;subst X;simp+decide[int,aa,G,H,J,M,bb.cells];refine bw hU ?_
   simp+decide[int,aa,G,H,bb.cells,zJ,bo.row,O,E,ev,ev1,Q];refine zE.mut [1] [.bp 0 0,.d (.str v.bg)] [(0,.box 166 [.d (.val (.pointer none)),.aW])] (by rfl) (by simp) (by simp) (by simp) (zk8 v.bg (by omega)) ?_
   simp+decide[int,aa,G,H,bb.cells,zJ,bo.row,O,E,ev,ev1,Q,aB];exact⟨by omega,f,bc+v.bi.length,ByteArray.empty++v.bg,⟨by omega,by omega,F,L,λe=>Z (by rw[e];rfl)⟩,by omega,by omega,by simp⟩
  |false=>
   simp+decide[int,aa,G,H,J,M,bb.cells];refine bw hU ?_
   simp+decide[int,aa,G,H,bb.cells,zJ,bo.row,O,E,ev,ev1,Q];refine zE.mut [1,2] [.bp 0 0,.d (.str v.bg)] [(0,.box 166 [.bp 0 0,.ar 1]),(1,.aQ 5 1 (yJ acc))] (by rfl) (by simp) (by simp) (by simp;rfl) (zk9 v.bg (yJ acc) (by rw[Un];omega)) ?_
   simp+decide[int,aa,G,H,bb.cells,zJ,bo.row,O,E,ev,ev1,Q,aB];exact⟨by omega,f,bc+v.bi.length,acc++v.bg,⟨by omega,by omega,F,L,λe=>Z (by rw[e];rfl)⟩,by omega,by omega,(zer _ _).symm⟩
theorem zla(w:List Int)(bc:Nat)(u:bo)(J:w.length<2^40)(K:bc<=w.length)(hs:u.bi.length<2^40):aq prog 108 [aa w,int bc,.agg u.row] (.bool (vC (w.drop bc) u.bi)):=by
 refine aF func108 ?_
 by_cases c1:w.length-bc<u.bi.length
 .have c1':(w.length:Int)-bc<u.bi.length:=by omega
  have L:vC (w.drop bc) u.bi=false:=by unfold vC;rw[oO,pH (by omega)];rfl
  simp+decide[f108,int,aa,bo.row,L,c1,c1',aB];exact by omega
 have c1':¬(w.length:Int)-bc<u.bi.length:=by omega
 simp+decide[f108,int,aa,bo.row,c1,c1',aB]
 refine⟨by omega,?_⟩
 refine qg (λk:Nat=>{n:=35,next:=1,af:=[(0,.d (aa w)),(1,.d (int bc)),(5,.bp 0 0),(7,.d (int k))],own:=[(0,.box 143 [.d (.str u.bg),.d (aa u.bi)])]})
  (λk=>k<=u.bi.length/\u.bi.take k=(w.drop bc).take k) (λk=>u.bi.length-k) 0 ⟨nU _,by simp⟩ ?_ ?_
 .simp+decide[int,aa]
 rintro k ⟨M,O⟩
 refine cy ?_
 by_cases H:k<u.bi.length
 .have G:=bG H
  have E:bc+k<w.length:=by omega
  have F:(bc:Int)+k<w.length:=by omega
  have e1:u.bi[k]?=some u.bi[k]:=ac H
  have e2:w[bc+k]?=some w[bc+k]:=ac E
  have jn:((bc:Int)+k).toNat=bc+k:=by omega
  have Q:(w.drop bc)[k]?=some w[bc+k]:=by rw[oQ,e2]
  have j0:¬((bc:Int)+k<0):=by omega
  by_cases T:w[bc+k]=u.bi[k]
  .simp+decide[int,aa,H,G,E,F,e1,e2,jn,j0,T,aB]
   refine⟨by omega,by omega,by omega,k+1,⟨H,?_⟩,by omega,by omega⟩
   rw[rT,rT,O,e1,Q,T]
  .have L:vC (w.drop bc) u.bi=false:=by
    unfold vC;rw[pX];right
    refine pH λe=>T ?_
    have:=congrArg (λl=>l[k]?) e
    simp only[og,gt H,Q,e1,pB] at this;exact this.symm
   simp+decide[int,aa,H,G,E,F,e1,e2,jn,j0,T,L,aB];exact⟨by omega,by omega⟩
 .obtain rfl:k=u.bi.length:=by omega
  rw[nH] at O;have L:vC (w.drop bc) u.bi=true:=by
   unfold vC;rw[oO,pI (by omega),<-O,pI rfl];rfl
  simp+decide[int,aa,L]
theorem zes(o:bb)(S:eO o)(W:∀ u∈o.au,fg u)(w:List Int)(hw:w.length<2^40):
  aq prog 48 [.agg o.cells,aa w] (.bE [.str (xy o.au w).1,int (xy o.au w).2.1,int (xy o.au w).2.2]):=by
 have A:=S.cW.1
 refine aF func48 ?_
 by_cases c0:w.length=0
 .have:w=[]:=nZ c0
  subst this;simp+decide[Tryz.f48,int,aa,bb.cells,xy]
 have c0':¬(w.length:Int)=0:=by omega
 by_cases c1:24<w.length
 .have c1':(24:Int)<w.length:=by omega
  have V:xy o.au w=(.empty,0,5):=by unfold xy;rw[ge c0,gt c1]
  rw[V];simp+decide[Tryz.f48,int,aa,bb.cells,c0,c0',c1,c1']
 have c1':¬(24:Int)<w.length:=by omega
 have V:xy o.au w=kL o.au w (w.length+1) 0 .empty:=by unfold xy;rw[ge c0,ge c1]
 simp+decide[Tryz.f48,int,aa,bb.cells,c0,c0',c1,c1']
 refine qg (λx:Nat×Nat×ByteArray=>{n:=79,next:=1,af:=[(1,.d (aa w)),(2,.bp 0 0),(7,.d (.str x.2.2)),(8,.d (int x.2.1))],own:=[(0,.box 28 (o.cells.map .d))]})
  (λx=>x.2.1<=w.length/\w.length<x.2.1+x.1/\kL o.au w x.1 x.2.1 x.2.2=xy o.au w/\x.2.2.size<=32*x.2.1) (λx=>w.length-x.2.1)
  (w.length+1,0,.empty) ⟨by simp,by simp,V.symm,by simp⟩ ?_ ?_
 .simp+decide[int,aa,bb.cells]
 rintro⟨f,bc,acc⟩ ⟨Z,hf,K,B⟩
 simp only at Z hf K B
 refine cy ?_
 obtain⟨f,rfl⟩:∃ f',f=f'+1:=⟨f-1,by omega⟩
 unfold kL at K
 by_cases Q:bc<w.length
 case neg=>
  have J:¬(bc:Int)<w.length:=by omega
  rw[ge Q] at K;rw[<-K];simp+decide[int,aa,Q,J,bb.cells]
 rw[gt Q] at K
 have J:=bG Q
 simp+decide[int,aa,Q,J,bb.cells]
 refine xP (λk:Nat=>{n:=79,next:=1,af:=[(1,.d (aa w)),(2,.bp 0 0),(7,.d (.str acc)),(8,.d (int bc)),(9,.d (int (qo (qT o.au (w.drop bc) k)))),(10,.d (int k))],own:=[(0,.box 28 (o.cells.map .d))]}) o.au.length ?_ ?_
 .simp+decide[int,aa,bb.cells,qT,qo]
 intro k hk
 refine cy ?_
 by_cases F:k<o.au.length
 .have G:=bG F
  obtain⟨u,eu,eu1⟩:=bN F;have C:=(W o.au[k] (nF F)).cW;rw[eu] at C;have hS:=zla w bc u hw Z (by omega)
  have H:qT o.au (w.drop bc) (k+1)=if vC (w.drop bc) u.bi=true then (match qT o.au (w.drop bc) k with
    |none=>some k
    |some b=>if ((o.au[b]?.map λv=>v.bi.length).getD 0)<u.bi.length then some k else some b)
   else qT o.au (w.drop bc) k:=by simp only[qT,eu1] <;> rfl
  cases hb:vC (w.drop bc) u.bi with
  |false=>
   rw[hb] at H hS;rw[ge (by decide)] at H
   simp+decide[int,aa,zJ,bb.cells,F,G,eu,eu1,bo.row,aB];refine bw hS ?_
   simp+decide[int,aa,zJ,bb.cells,F,G,eu,eu1,bo.row,aB];exact⟨by omega,k+1,F,by omega,by rw[H],by omega⟩
  |true=>
   rw[hb] at H hS;rw[gt rfl] at H;cases X:qT o.au (w.drop bc) k with
   |none=>
    rw[X] at H;simp only at H
    simp+decide[int,aa,zJ,bb.cells,F,G,eu,eu1,bo.row,aB,qo];refine bw hS ?_
    simp+decide[int,aa,zJ,bb.cells,F,G,eu,eu1,bo.row,aB,qo];exact⟨by omega,k+1,F,by omega,by rw[H],by omega⟩
   |some b=>
    obtain⟨v,ev1,_⟩:=Zp X;obtain⟨M,ev⟩:=nN.1 ev1;have E:(b:Int)<o.au.length:=by omega
    rw[X] at H;simp only at H
    rw[ev1] at H;simp only[oL,nW] at H;have O:¬(b:Int)<0:=by omega
    by_cases hc:v.bi.length<u.bi.length
    .have T:(v.bi.length:Int)<u.bi.length:=by omega
     rw[gt hc] at H;simp+decide[int,aa,zJ,bb.cells,F,G,eu,eu1,bo.row,aB,qo,M,E,ev,ev1,hc,T,O];refine bw hS ?_
     simp+decide[int,aa,zJ,bb.cells,F,G,eu,eu1,bo.row,aB,qo,M,E,ev,ev1,hc,T,O];exact⟨by omega,k+1,F,by omega,by rw[H],by omega⟩
    .have T:¬(v.bi.length:Int)<u.bi.length:=by omega
     rw[ge hc] at H;simp+decide[int,aa,zJ,bb.cells,F,G,eu,eu1,bo.row,aB,qo,M,E,ev,ev1,hc,T,O];refine bw hS ?_
     simp+decide[int,aa,zJ,bb.cells,F,G,eu,eu1,bo.row,aB,qo,M,E,ev,ev1,hc,T,O];exact⟨by omega,k+1,F,by omega,by rw[H],by omega⟩
 .obtain rfl:k=o.au.length:=by omega
  cases hb:qT o.au (w.drop bc) o.au.length with
  |none=>
   rw[hb] at K;simp only at K
   rw[<-K];simp+decide[int,aa,zJ,bb.cells,qo]
  |some b=>
   obtain⟨v,ev1,L⟩:=Zp hb;obtain⟨M,ev⟩:=nN.1 ev1;have E:(b:Int)<o.au.length:=by omega
   have O:¬(b:Int)<0:=by omega
   have hF:=W v (ol ev1);have I:=hF.size;have N:=hF.bi;have P:v.bi.length<=w.length-bc:=by
    unfold vC at L;rw[nI,nD,oO] at L;exact L.1
   rw[hb] at K;simp only[ev1,oL,nW] at K;have Y:(acc++v.bg).size<=32*(bc+v.bi.length):=by rw[sy];omega
   simp+decide[int,aa,zJ,bb.cells,qo,bo.row,M,E,ev,ev1,O,aB];exact⟨by omega,by omega,f,bc+v.bi.length,acc++v.bg,⟨by omega,by omega,K,Y⟩,by omega,rfl,by omega⟩
def yn(l:List ByteArray):D:=.sl (l.map λs=>[.str s])
def vt(l:List aP)(p:aG):List Int:=((zF l p.entry).1.aK[p.bf.toNat]?).getD []
def gX(l:List aP)(p:aG):ByteArray:=((xg l p.entry)[p.bu.toNat]?.map λs=>s.xe).getD .empty
def qU(g:aj):List aG->List ByteArray->List ByteArray->List ByteArray×List ByteArray×Int
 | [],x,y=>(x,y,0)
 |p::ps,x,y=>if (xy g.bt.au (vt g.aM p)).2.2≠0 then ([],[],(xy g.bt.au (vt g.aM p)).2.2)
   else qU g ps (x++[(xy g.bt.au (vt g.aM p)).1]) (y++[gX g.aM p])
def yA(g:aj)(ps:List aG):List ByteArray×List ByteArray×Int:=
 if qF g ps≠0 then ([],[],qF g ps) else qU g ps [] []
theorem OJ:∀ {l:List aP} {ps:List aG},jf l ps=0->∀ p∈ps,qE l p=0
 |l,[],_,p,H=>by cases H
 |l,q::ps,h,p,H=>by
  unfold jf at h;split at h
  .rename_i hq
   rcases nE.1 H with rfl | H
   .exact hq
   .exact OJ h p H
  .rename_i hq;exact absurd h hq
theorem OL{g:aj}{ps:List aG}(h:qF g ps=0):ps.length<=4/\∀ p∈ps,qE g.aM p=0:=by
 unfold qF at h
 split at h
 .cases h
 .split at h
  .cases h
  .split at h
   .rename_i H;exact absurd h H
   .rename_i G H
    exact⟨by omega,OJ (by simpa using H)⟩
theorem OM{l:List aP}{p:aG}(h:qE l p=0):(zF l p.entry).2=true/\0<=p.bf/\p.bf<(zF l p.entry).1.aK.length/\0<=p.bu/\p.bu<(xg l p.entry).length:=by
 unfold qE at h
 split at h
 .cases h
 .rename_i H
  split at h
  .cases h
  .rename_i h2
   split at h
   .cases h
   .rename_i h3
    unfold qD at h2;split at h2
    .rename_i h4
     exact⟨by simpa using H,h4.2.1,h4.2.2,by omega,by omega⟩
    .simp at h2
theorem ON{g:aj}{ps:List aG}{k:Nat}{x y:List ByteArray}(h:k<ps.length):qU g (ps.drop k) x y=if (xy g.bt.au (vt g.aM ps[k])).2.2≠0 then ([],[],(xy g.bt.au (vt g.aM ps[k])).2.2)
   else qU g (ps.drop (k+1)) (x++[(xy g.bt.au (vt g.aM ps[k])).1]) (y++[gX g.aM ps[k]]):=by
 rw[nY h];rfl
def cr(l:List ByteArray):List (List D):=l.map λs=>[.str s]
theorem OO(g:aj)(B:aH g)(C:bC g)(ps:List aG)(I:ps.length<2^20):
  aq prog 14 [g.d,zr ps] (.bE [yn (yA g ps).1,yn (yA g ps).2.1,int (yA g ps).2.2]):=by
 have N:=B.kJ C
 have P:=N.toLangOk
 have O:=EJ g P ps I
 refine aF func14 ?_
 unfold yA
 simp+decide[Tryz.f14,int,aj.d,zr,zj]
 refine zg O ?_
 by_cases S:qF g ps=0
 case neg=>simp+decide[int,S,yn]
 obtain⟨h4,Q⟩:=OL S
 obtain⟨E,hE⟩:∃ E,qU g ps [] []=E:=⟨_,rfl⟩
 simp+decide[int,S,hE,zh]
 refine qg (λx:Nat×List ByteArray×List ByteArray=>{n:=74,next:=6,af:=[(2,.bp 0 0),(3,.bp 1 0),(8,.ar 4),(9,.ar 5),(24,.d (zh ps)),(25,.d (int ps.length)),(26,.d (int x.1))],own:=[(0,.box 36 (zj g.d)),(1,.box 39 [.d (zh ps)]),(4,.aQ 9 1 (cr x.2.1)),(5,.aQ 9 1 (cr x.2.2))],aA:=[4,5]})
  (λx=>x.1<=ps.length/\x.2.1.length=x.1/\x.2.2.length=x.1/\qU g (ps.drop x.1) x.2.1 x.2.2=E) (λx=>ps.length-x.1) (0,[],[]) ⟨nU _,rfl,rfl,by rw[p_];exact hE⟩ ?_ ?_
 .simp+decide[int,zh,zj,aj.d,cr]
 rintro⟨k,x,y⟩ ⟨hk,hx,hy,H⟩
 simp only at hk hx hy H
 refine cy ?_
 by_cases G:k<ps.length
 case neg=>
  have:k=ps.length:=by omega
  rw[this,pL] at H;subst H;have F:¬(k:Int)<ps.length:=by omega
  simp+decide[int,G,F,qU,yn,cr]
 have F:=bG G
 rw[ON G] at H
 obtain⟨p,ep,e1⟩:=bN G
 have L:=Q ps[k] (nF G)
 rw[ep] at H L
 obtain⟨q1,q2,q3,q4,q5⟩:=OM L
 have hG:=Wc g.aM p.entry P.aM.len
 have hA:=XN P.aM p.entry
 have hF:=Gj (zF g.aM p.entry).1 (by omega)
 have T:(vt g.aM p).length<2^20:=by
  unfold vt;have hj:p.bf.toNat<(zF g.aM p.entry).1.aK.length:=by omega
  rw[ac hj];exact P.aM.du _ (YG q1) _ (nF hj)
 have hS:=zpf g.bt C.bt B.fi (vt g.aM p) (by omega)
 have M:=Wg g.aM p.entry P.aM.len P.aM.aL
 have J:=OI B.fi (vt g.aM p)
 have K:(zF g.aM p.entry).1.aK[p.bf.toNat]?=some (vt g.aM p):=by
  unfold vt;have hj:p.bf.toNat<(zF g.aM p.entry).1.aK.length:=by omega
  rw[ac hj];rfl
 obtain⟨sn,aI,V⟩:∃ sn,(xg g.aM p.entry)[p.bu.toNat]?=some sn/\gX g.aM p=sn.xe:=by
  have hj:p.bu.toNat<(xg g.aM p.entry).length:=by omega
  exact⟨_,ac hj,by unfold gX;rw[ac hj];rfl⟩
 rw[V] at H
 generalize vt g.aM p=W at K hS H J T
 generalize xy g.bt.au W=z at hS H J
 generalize xg g.aM p.entry=ss at M aI q5
 generalize zF g.aM p.entry=r at hG hF K q3 q1 hA
 obtain⟨e,ok⟩:=r
 obtain⟨s,pos,err⟩:=z
 simp only at hG hF K q3 q1 hS H J hA
 subst q1
 have hj:p.bf.toNat<e.aK.length:=by omega
 have X:e.aK[p.bf.toNat]=W:=ph (by rw[<-ac hj];exact K)
 have hk:p.bu.toNat<ss.length:=by omega
 have Y:ss[p.bu.toNat]=sn:=ph (by rw[<-ac hk];exact aI)
 simp+decide[int,zh,zj,aj.d,aG.row,G,F,ep,e1,aB]
 refine zg hG ?_
 simp+decide[int,zh,zj,aj.d,aG.row,aP.row,aB]
 refine bw hF ?_
 simp+decide[int,zh,zj,aj.d,aG.row,aP.row,aB,yk,q2,q3,hj,X]
 refine bw hS ?_
 by_cases he:err=0
 case neg=>
  rw[gt he] at H;subst H;simp+decide[int,zh,zj,aj.d,aG.row,aP.row,aB,he,yn]
 subst he
 rw[ge (by decide)] at H
 simp+decide[int,zh,zj,aj.d,aG.row,aP.row,aB,maxLen]
 have Z:(cr x).length=k:=by simp[cr,hx]
 have A:(cr y).length=k:=by simp[cr,hy]
 refine⟨by omega,by omega,?_⟩
 refine jH 12 ?_
 simp+decide[int,zh,zj,aj.d,aG.row,aP.row,aB,maxLen]
 refine bw M ?_
 simp+decide[int,zh,zj,aj.d,aG.row,aP.row,aB,maxLen,zW,cC.row,q4,q5,hk,Y]
 exact⟨by omega,by omega,by omega,k+1,x++[s],y++[sn.xe],⟨G,by simp[hx],by simp[hy],H⟩,by omega,by omega,by simp[cr],by simp[cr]⟩
theorem OP(g:aj)(B:aH g)(C:bC g)(ps:List aG)(I:ps.length<2^20):
  aq prog 15 [g.d,zr ps] (.bE [yn (yA g ps).1,yn (yA g ps).2.1,int (yA g ps).2.2]):=by
 have N:=B.kJ C
 have P:=N.toLangOk
 have O:=EV g N.toLangL ps I
 refine aF func15 ?_
 unfold yA
 simp+decide[Tryz.f15,int,aj.d,zr,zj]
 refine zg O ?_
 by_cases S:qF g ps=0
 case neg=>simp+decide[int,S,yn]
 obtain⟨h4,Q⟩:=OL S
 obtain⟨E,hE⟩:∃ E,qU g ps [] []=E:=⟨_,rfl⟩
 simp+decide[int,S,hE,zh]
 refine qg (λx:Nat×List ByteArray×List ByteArray=>{n:=78,next:=6,af:=[(2,.bp 0 0),(3,.bp 1 0),(8,.ar 4),(9,.ar 5),(10,.d (int x.1))],own:=[(0,.box 36 (zj g.d)),(1,.box 39 [.d (zh ps)]),(4,.aQ 9 1 (cr x.2.1)),(5,.aQ 9 1 (cr x.2.2))],aA:=[4,5]})
  (λx=>x.1<=ps.length/\x.2.1.length=x.1/\x.2.2.length=x.1/\qU g (ps.drop x.1) x.2.1 x.2.2=E) (λx=>ps.length-x.1) (0,[],[]) ⟨nU _,rfl,rfl,by rw[p_];exact hE⟩ ?_ ?_
 .simp+decide[int,zh,zj,aj.d,cr]
 rintro⟨k,x,y⟩ ⟨hk,hx,hy,H⟩
 simp only at hk hx hy H
 refine cy ?_
 by_cases G:k<ps.length
 case neg=>
  have:k=ps.length:=by omega
  rw[this,pL] at H;subst H;have F:¬(k:Int)<ps.length:=by omega
  simp+decide[int,G,F,qU,yn,cr,zh]
 have F:=bG G
 rw[ON G] at H
 obtain⟨p,ep,e1⟩:=bN G
 have L:=Q ps[k] (nF G)
 rw[ep] at H L
 obtain⟨q1,q2,q3,q4,q5⟩:=OM L
 have hG:=Vk g.aM p.entry (by have:=P.aM.len;omega)
 have hA:=XN P.aM p.entry
 have hF:=Gt (zF g.aM p.entry).1 (by omega)
 have T:(vt g.aM p).length<2^20:=by
  unfold vt;have hj:p.bf.toNat<(zF g.aM p.entry).1.aK.length:=by omega
  rw[ac hj];exact P.aM.du _ (YG q1) _ (nF hj)
 have hS:=zes g.bt C.bt B.fi (vt g.aM p) (by omega)
 have M:=Gs g.aM p.entry P.aM.len
 have J:=OI B.fi (vt g.aM p)
 have K:(zF g.aM p.entry).1.aK[p.bf.toNat]?=some (vt g.aM p):=by
  unfold vt;have hj:p.bf.toNat<(zF g.aM p.entry).1.aK.length:=by omega
  rw[ac hj];rfl
 obtain⟨sn,aI,V⟩:∃ sn,(xg g.aM p.entry)[p.bu.toNat]?=some sn/\gX g.aM p=sn.xe:=by
  have hj:p.bu.toNat<(xg g.aM p.entry).length:=by omega
  exact⟨_,ac hj,by unfold gX;rw[ac hj];rfl⟩
 rw[V] at H
 generalize vt g.aM p=W at K hS H J T
 generalize xy g.bt.au W=z at hS H J
 generalize xg g.aM p.entry=ss at M aI q5
 generalize zF g.aM p.entry=r at hG hF K q3 q1 hA
 obtain⟨e,ok⟩:=r
 obtain⟨s,pos,err⟩:=z
 simp only at hG hF K q3 q1 hS H J hA
 subst q1
 have hj:p.bf.toNat<e.aK.length:=by omega
 have X:e.aK[p.bf.toNat]=W:=ph (by rw[<-ac hj];exact K)
 have hk:p.bu.toNat<ss.length:=by omega
 have Y:ss[p.bu.toNat]=sn:=ph (by rw[<-ac hk];exact aI)
 simp+decide[int,zh,zj,aj.d,aG.row,G,F,ep,e1,aB]
 refine zg hG ?_
 simp+decide[int,zh,zj,aj.d,aG.row,aP.row,aB]
 refine bw hF ?_
 simp+decide[int,zh,zj,aj.d,aG.row,aP.row,aB,yk,q2,q3,hj,X]
 refine bw hS ?_
 by_cases he:err=0
 case neg=>
  rw[gt he] at H;subst H;simp+decide[int,zh,zj,aj.d,aG.row,aP.row,aB,he,yn]
 subst he
 rw[ge (by decide)] at H
 simp+decide[int,zh,zj,aj.d,aG.row,aP.row,aB,maxLen]
 have Z:(cr x).length=k:=by simp[cr,hx]
 have A:(cr y).length=k:=by simp[cr,hy]
 refine⟨by omega,by omega,?_⟩
 refine jH 12 ?_
 simp+decide[int,zh,zj,aj.d,aG.row,aP.row,aB,maxLen]
 refine bw M ?_
 simp+decide[int,zh,zj,aj.d,aG.row,aP.row,aB,maxLen,zW,cC.row,q4,q5,hk,Y]
 exact⟨by omega,by omega,by omega,k+1,x++[s],y++[sn.xe],⟨G,by simp[hx],by simp[hy],H⟩,by omega,by omega,by simp[cr],by simp[cr]⟩
theorem OQ{g:aj}:∀ {ps:List aG} {x y:List ByteArray},(qU g ps x y).1.length<=x.length+ps.length/\(qU g ps x y).2.1.length<=y.length+ps.length
 | [],x,y=>by simp[qU]
 |p::ps,x,y=>by
  unfold qU;split
  .simp
  .have:=OQ (g:=g) (ps:=ps) (x:=x++[(xy g.bt.au (vt g.aM p)).1]) (y:=y++[gX g.aM p])
   simp only[nO,nP,pc] at this ⊢;omega
theorem C4(g:aj)(ps:List aG):(yA g ps).1.length<=ps.length/\(yA g ps).2.1.length<=ps.length:=by
 unfold yA
 split
 .simp
 .have:=OQ (g:=g) (ps:=ps) (x:=[]) (y:=[])
  simpa using this
def Yi(g:aj)(s:ByteArray)(ps:List aG):Bool:=decide ((yZ g.bt.au s).2.2=0)&&jh g (yZ g.bt.au s).1 ps
theorem zbe(g:aj)(G:aH g)(F:bC g)(s:ByteArray)(hs:s.size<=1024)(ps:List aG)(E:ps.length<2^20):aq prog 64 [g.d,.str s,zr ps] (.bool (Yi g s ps)):=by
 have K:=G.kJ F
 have J:=C2 g.bt F.bt G.fG s hs
 have H:=Qk g.bt.au s
 have L:=EK g K.toLangOk (yZ g.bt.au s).1 (by omega) ps E
 unfold Yi jh
 generalize yZ g.bt.au s=z at *
 obtain⟨w,pos,e⟩:=z
 simp only at J L H ⊢
 refine aF func64 ?_
 simp+decide[f64,int,aj.d,zr,zj]
 refine zg J ?_
 by_cases M:e=0
 .simp+decide[int,aa,M]
  refine zg L ?_
  simp+decide[int,aa]
 .simp+decide[int,aa,M]
theorem zad(g:aj)(G:aH g)(F:bC g)(s:ByteArray)(hs:s.size<=1024)(ps:List aG)(E:ps.length<2^20):aq prog 68 [g.d,.str s,zr ps] (.bool (Yi g s ps)):=by
 have K:=G.kJ F
 have J:=DY g.bt F.bt G.fG s hs
 have H:=Qk g.bt.au s
 have L:=GG g K (yZ g.bt.au s).1 (by omega) ps E
 unfold Yi
 generalize yZ g.bt.au s=z at *
 obtain⟨w,pos,e⟩:=z
 simp only at J L H ⊢
 refine aF func68 ?_
 simp+decide[f68,int,aj.d,zr,zj]
 refine zg J ?_
 by_cases M:e=0
 .simp+decide[int,aa,M]
  refine zg L ?_
  simp+decide[int,aa]
 .simp+decide[int,aa,M]
end Go.V
namespace Go.V.Doc
open Go Go.Proofs Tryz
def g_(d:Dc)(w nx:Int)(F G:List ByteArray)(i:Nat):List Nt:=
 [⟨nx+2*i,zy d.al 3,w,0,0,i,(F[i]?).getD .empty⟩,⟨nx+2*i+1,zy d.al 4,nx+2*i,0,0,0,(G[i]?).getD .empty⟩]
def xf(d:Dc)(w nx:Int)(F G:List ByteArray)(k:Nat):List Nt:=(List.range k).flatMap (g_ d w nx F G)
theorem J5(d:Dc)(w nx:Int)(F G:List ByteArray)(k:Nat):xf d w nx F G (k+1)=xf d w nx F G k++g_ d w nx F G k:=by
 unfold xf;rw[qr,oW];simp
theorem Yj(d:Dc)(w nx:Int)(F G:List ByteArray):∀ k,(xf d w nx F G k).length=2*k
 |0=>rfl
 |k+1=>by rw[J5,nO,Yj d w nx F G k];simp[g_];omega
def qV(l:List Nt)(nx:Int)(k:Nat):Bool:=(List.range k).any λi=>(zp l (nx+i)).2
theorem KB(l:List Nt)(nx:Int)(k:Nat):qV l nx (k+1)=(qV l nx k || (zp l (nx+k)).2):=by
 unfold qV;rw[qr,ta];simp
def Zq(F:List ByteArray):Bool:=F.any λs=>decide (200<s.size)
def jV(d:Dc)(w nx:Int)(F G:List ByteArray):Dc:={d with ae:=vJ (zK d w++xf d w nx F G F.length)}
def x8(d:Dc)(g:aj)(w:Int)(ps:List aG)(nx:Int):Dc×Int:=
 if (qc d w).2≠0 then (vd,(qc d w).2)
 else if Yi g (zp d.ae w).1.cF ps=false then (vd,23)
 else if (yA g ps).2.2≠0 then (vd,(yA g ps).2.2)
 else if Zq (yA g ps).1=true then (vd,5)
 else if nx<1\/1099511627768<nx then (vd,2)
 else if qV (zK d w) nx (2*(yA g ps).1.length)=true then (vd,8)
 else if 300<(zK d w).length+2*(yA g ps).1.length then (vd,11)
 else (jV d w nx (yA g ps).1 (yA g ps).2.1,0)
theorem C5{d:Dc}(h:b_ d){w:Int}(F:yB d w=true):zp (zK d w) w=zp d.ae w:=by
 unfold yB at F
 rw[nI] at F
 obtain⟨E,K⟩:=u7 F.1
 obtain⟨n,J⟩:∃ n,(zp d.ae w).1=n:=⟨_,rfl⟩
 rw[J] at E K
 have L:X0 d w n=false:=by
  unfold X0;rw[pO];intro M;obtain⟨c,M,_,q⟩:=(Y7 h E).1 M;have O:=WQ h E M;have:=Y4 h E (WO h E M) (by rw[q,K])
  omega
 have H:=ua h E
 rw[K] at H
 rw[H]
 unfold zK
 unfold zp at H ⊢
 rw[List.find?_filter]
 have key:∀ l:List Nt,l.Pairwise (λa b=>a.id<b.id)->n∈l->List.find? (λa=>decide ((!X0 d w a)=true/\decide (a.id=w)=true)) l=some n:=by
  intro l Q G;rw[tG];obtain⟨l1,l2,rfl⟩:=List.append_of_mem G;refine⟨by simp[L,K],l1,l2,rfl,λa T=>?_⟩
  have:=(pZ.1 Q).2.2 a T n nL
  have:¬a.id=w:=by omega
  simp[this]
 rw[key _ h.li E]
theorem eZ{d:Dc}(h:b_ d)(id:Int):(zp d.ae id).1.cF.size<=1024:=by
 cases H:(zp d.ae id).2 with
 |true=>
  have G:=(u7 H).1;have F:=(h.e_ _ G).e;rw[XU] at F;split at F
  .rename_i ht
   unfold c_ at ht;split at ht
   .cases ht
   .omega
  .rename_i ht;exact absurd F ht
 |false=>
  unfold zp at H ⊢;split at H
  .cases H
  .exact nU _
theorem zhj{d:Dc}(h:b_ d)(g:aj)(w:Int)(H:Fw d)(ps:List aG)(nx:Int)(G:(qc d w).2≠0):aq prog 26 [zn d,g.d,int w,zr ps,int nx] (.bE [zn (x8 d g w ps nx).1,int (x8 d g w ps nx).2]):=by
 have F:=IX h w H
 unfold x8
 rw[gt G]
 generalize qc d w=z at *
 obtain⟨x,e⟩:=z
 simp only at F G ⊢
 refine aF func26 ?_
 simp+decide[Tryz.f26,zn,Dc.row,int,aj.d,zr,zj]
 refine zg F ?_
 simp+decide[zn,Dc.row,int,G]
 exact⟨rfl,rfl,rfl⟩
def jW(d:Dc)(g:aj)(ps:List aG)(N:List Nt):List (Nat×am):=
 [(0,.box 53 (zO d)),(1,.box 36 (zj g.d)),(2,.box 39 [.d (zh ps)]),(3,.box 53 zeroCells),(8,.aQ 72 7 (N.map Nt.row)),
  (10,.box 53 [.d (int d.id),.d (.str d.name),.d (int d.len),.d (int d.iG),.d (aa d.fh),.d (zw d.al),.ar 8])]
def jX(w nx:Int)(F G:List ByteArray):List (Nat×ah):=
 [(2,.d (int w)),(4,.d (int nx)),(5,.bp 0 0),(6,.bp 1 0),(8,.bp 2 0),(10,.bp 3 0),(12,.bp 10 0),(16,.d (yn F)),(17,.d (yn G))]
theorem OR{g:aj}:∀ {ps:List aG} {x y:List ByteArray},y.length=x.length->(qU g ps x y).2.1.length=(qU g ps x y).1.length
 | [],x,y,h=>h
 |p::ps,x,y,h=>by
  unfold qU;split
  .rfl
  .exact OR (by simp[h])
theorem C6(g:aj)(ps:List aG):(yA g ps).2.1.length=(yA g ps).1.length:=by
 unfold yA
 split
 .rfl
 .exact OR rfl
theorem gY(g:aj){m:Nat}:ah.a_ m (zj g.d):=by simp[zj,aj.d,ah.a_,ah.lo]
theorem zpg{d:Dc}(h:b_ d)(g:aj)(hL:aH g)(hg:bC g)(w:Int)(hC:aU prog 22 [.d (zn d),.d (int w)] [] 0 (.bE [.agg [.d (int d.id),.d (.str d.name),.d (int d.len),.d (int d.iG),.d (aa d.fh),.d (zw d.al),.ar 4],.d (int 0)]) 6 [(4,.aQ 72 7 ((zK d w).map Nt.row))] [3,4])(ps:List aG)(hp:ps.length<2^20)(nx:Int)(hr:yl d=true)(hw:yB d w=true):
  aq prog 26 [zn d,g.d,int w,zr ps,int nx] (.bE [zn (x8 d g w ps nx).1,int (x8 d g w ps nx).2]):=by
 have S:=h.cW
 have W:=uf h
 have H0:(qc d w).2=0:=by unfold qc;rw[ge (by rw[hr];decide),ge (by rw[hw];decide)]
 have Ga:(zK d w).length<=d.ae.length:=oz _ _
 have C:=YM (xk d w) w (by simp only[xk];omega)
 have V:=zbe g hL hg (zp d.ae w).1.cF (eZ h w) ps hp
 have H1:=OO g hL hg ps hp
 have H2:=C4 g ps
 have Hb:=C6 g ps
 have Hc:=YU d (by omega)
 rw[show(xk d w).ae=zK d w from rfl,C5 h hw] at C
 obtain⟨E,hE⟩:∃ E,x8 d g w ps nx=E:=⟨_,rfl⟩
 rw[hE]
 unfold x8 at hE
 rw[ge (by simp[H0])] at hE
 refine fY func26 [8] ?_
 simp+decide[Tryz.f26,zn,Dc.row,int,aj.d,zr,zj]
 refine zE.mut [] [.d (zn d),.d (int w)] [] (by rfl) (by simp[zn,Dc.row,int]) (by simp) (by simp) hC ?_
 simp+decide[int]
 refine zg C ?_
 simp+decide[cb,Nt.row,int]
 refine zg V ?_
 cases J:Yi g (zp d.ae w).1.cF ps with
 |false=>
  rw[gt J] at hE;subst hE;simp+decide[int];exact⟨rfl,rfl,rfl⟩
 |true=>
 rw[ge (by rw[J];decide)] at hE
 simp+decide[int]
 refine zg H1 ?_
 generalize yA g ps=z at *
 obtain⟨F,G,e⟩:=z
 simp only at hE H2 Hb
 by_cases he:e=0
 case neg=>
  rw[gt he] at hE;subst hE;simp+decide[int,he];exact⟨rfl,rfl,rfl⟩
 subst he
 rw[ge (by decide)] at hE
 simp+decide[int,yn]
 refine qg (λk:Nat=>{n:=145,next:=12,af:=(60,.d (yn F))::(61,.d (int F.length))::(62,.d (int k))::jX w nx F G,own:=jW d g ps (zK d w),aA:=[7,8]})
  (λk=>k<=F.length/\Zq (F.take k)=false) (λk=>F.length-k) 0 ⟨nU _,rfl⟩ ?_ ?_
 .simp+decide[int,jX,jW,yn,zj,aj.d]
 rintro k ⟨hk,T⟩
 refine cy ?_
 by_cases L:k<F.length
 case pos=>
  have H:=bG L;obtain⟨s,es,e1⟩:=bN L;by_cases hs:200<s.size
  .have X:(200:Int)<s.size:=by omega
   have Hd:Zq F=true:=n_.2 ⟨s,by rw[<-es];exact nF L,by simpa using hs⟩
   rw[gt Hd] at hE;subst hE;simp+decide[int,jX,jW,yn,L,H,es,e1,hs,X,aB];exact⟨rfl,rfl,rfl⟩
  .have X:¬(200:Int)<s.size:=by omega
   simp+decide[int,jX,jW,yn,L,H,es,e1,hs,X,aB];refine⟨by omega,k+1,⟨L,?_⟩,by omega,by omega,gY g⟩
   unfold Zq at T ⊢;rw[nX L,ta,T,es];simp[hs]
 have Hi:k=F.length:=by omega
 rw[Hi,nH] at T
 have H:¬(k:Int)<F.length:=by omega
 rw[ge (by rw[T];decide)] at hE
 by_cases h1:nx<1
 .rw[gt (.inl h1)] at hE
  subst hE;simp+decide[int,jX,jW,yn,H,h1,aB];exact⟨rfl,rfl,rfl⟩
 by_cases h2:1099511627768<nx
 .rw[gt (.inr h2)] at hE
  subst hE;simp+decide[int,jX,jW,yn,H,h1,h2,aB];exact⟨rfl,rfl,rfl⟩
 rw[ge (λe=>e.elim h1 h2)] at hE
 simp+decide[int,jX,jW,yn,H,h1,h2,aB]
 refine⟨by omega,?_⟩
 refine qg (λk:Nat=>{n:=145,next:=12,af:=(80,.d (int (2*F.length)))::(81,.d (int k))::jX w nx F G,own:=jW d g ps (zK d w),aA:=[7,8]})
  (λk=>k<=2*F.length/\qV (zK d w) nx k=false) (λk=>2*F.length-k) 0 ⟨nU _,rfl⟩ ?_ ?_
 .simp+decide[int,jX,jW,yn]
  exact gY g
 rintro q ⟨hq,Y⟩
 refine cy ?_
 by_cases I:q<2*F.length
 case pos=>
  have K:(q:Int)<2*F.length:=by omega
  have N:=YM (xk d w) (nx+q) (by simp only[xk];omega)
  rw[show(xk d w).ae=zK d w from rfl] at N
  have Z:=KB (zK d w) nx q;generalize zp (zK d w) (nx+q)=r at *;obtain⟨n,ok⟩:=r;simp only[Y,rk] at Z;simp+decide[int,jX,jW,yn,I,K,aB];refine⟨by omega,?_⟩
  refine zg N ?_
  cases ok with
  |true=>
   have Hp:qV (zK d w) nx (2*F.length)=true:=by
    have:∀ m,qV (zK d w) nx (q+1+m)=true:=by
     intro m;induction m with
     |zero=>exact Z
     |succ m ih=>rw[<-pP,KB,ih];rfl
    have h:=this (2*F.length-(q+1));rwa [show q+1+(2*F.length-(q+1))=2*F.length by omega] at h
   rw[gt Hp] at hE;subst hE;simp+decide[cb,Nt.row,int];exact⟨rfl,rfl,rfl⟩
  |false=>
   simp+decide[cb,Nt.row,int,aB];exact⟨by omega,q+1,⟨I,Z⟩,by omega,by omega,gY g⟩
 have Hs:q=2*F.length:=by omega
 rw[Hs] at Y
 have K:¬(q:Int)<2*F.length:=by omega
 rw[ge (by rw[Y];decide)] at hE
 by_cases h3:300<(zK d w).length+2*F.length
 .have A:(300:Int)<(zK d w).length+2*F.length:=by omega
  rw[gt h3] at hE;subst hE;simp+decide[int,jX,jW,yn,K,h3,A,aB];exact⟨by omega,by omega,rfl,rfl,rfl⟩
 have A:¬(300:Int)<(zK d w).length+2*F.length:=by omega
 rw[ge h3] at hE
 simp+decide[int,jX,jW,yn,K,h3,A,aB]
 refine⟨by omega,by omega,?_⟩
 refine zg Hc ?_
 simp+decide[ud,int]
 refine xP (λk:Nat=>{n:=145,next:=13,af:=(23,.bp 12 0)::(107,.d (int F.length))::(108,.d (int k))::jX w nx F G,own:=(12,.box 112 [.d (int (zy d.al 2)),.d (int (zy d.al 3)),.d (int (zy d.al 4))])::jW d g ps (zK d w++xf d w nx F G k),aA:=[7,8]}) F.length ?_ ?_
 .simp+decide[int,jX,jW,yn,xf]
  exact gY g
 intro i hi
 refine cy ?_
 by_cases J:i<F.length
 case neg=>
  obtain rfl:i=F.length:=by omega
  have O:¬(F.length:Int)<F.length:=by omega
  have Hx:zK d w++xf d w nx F G F.length≠[]:=by
   intro e0;have P:=C5 h hw;have:zK d w=[]:=(List.append_eq_nil_iff.1 e0).1
   rw[this] at P;unfold yB at hw;rw[<-P] at hw;simp[zp] at hw
  have hS:=zj2 (zK d w++xf d w nx F G F.length) Hx (by rw[nO,Yj];omega)
  simp+decide[int,jX,jW,yn];simp only[<-oF];refine zE.mut [8] [.ar 0,.fn 66 []] [(0,.aQ 72 7 ((zK d w++xf d w nx F G F.length).map Nt.row))] (by rfl) (by simp[int]) (by simp[ah.a_,ah.lo]) (by simp) hS ?_
  subst hE;simp+decide[int,jV];exact rfl
 have O:=bG J
 obtain⟨s,es,e1⟩:=bN J
 have B:i<G.length:=by omega
 have Q:(i:Int)<G.length:=by omega
 obtain⟨u,eu,e2⟩:=bN B
 have aI:=J5 d w nx F G i
 have G2:=Yj d w nx F G i
 unfold g_ at aI
 rw[e1,e2] at aI
 generalize xf d w nx F G i=M at aI G2
 simp+decide[int,jX,jW,yn,J,O,B,Q,es,e1,eu,e2,aB]
 refine⟨by omega,by omega,?_⟩
 refine jH 23 ?_
 simp+decide[int,yn,J,O,B,Q,es,e1,eu,e2,aB,maxLen]
 exact⟨by omega,by omega,by omega,by omega,i+1,J,by omega,by omega,by simp[zj,aj.d,yI,zA],gY g,by rw[aI];simp[Nt.row,int]⟩
theorem ztm{d:Dc}(h:b_ d)(g:aj)(H:aH g)(G:bC g)(w:Int)(F:Fw d)(ps:List aG)(E:ps.length<2^20)(nx:Int):
  aq prog 26 [zn d,g.d,int w,zr ps,int nx] (.bE [zn (x8 d g w ps nx).1,int (x8 d g w ps nx).2]):=by
 by_cases K:(qc d w).2=0
 .unfold qc at K
  cases J:yl d with
  |false=>rw[gt J] at K;cases K
  |true=>
   rw[ge (by rw[J];decide)] at K
   cases L:yB d w with
   |false=>rw[gt L] at K;cases K
   |true=>exact zpg h g H G w (IV h w J L F) ps E nx J L
 .exact zhj h g w F ps nx K
theorem zr2(d:Dc)(n:Nt)(J:d.ae.length<2^40):
  aU prog 69 [.d (zn d),.d (.agg n.row)] [] 0 (.agg [.d (int d.id),.d (.str d.name),.d (int d.len),.d (int d.iG),.d (aa d.fh),.d (zw d.al),.ar 4]) 5 [(4,.aQ 72 7 ((xq d.ae n).map Nt.row))] [4]:=by
 refine dd func69 (by simp[ah.a_,ah.lo]) ?_
 simp+decide[f69,zn,Dc.row,Nt.row,int,zw]
 refine IW (id:=3) (T:=53) 72 7 (bJ:=[.d (int d.id),.d (.str d.name),.d (int d.len),.d (int d.iG),.d (aa d.fh),.d (zw d.al)]) (post:=[]) rfl ?_
 refine xP (λk:Nat=>{n:=58,next:=5,af:=[(2,.bp 0 0),(3,.bp 1 0),(4,.bp 2 0),(5,.bp 3 0),(6,.d (.bool (ve d.ae n k).2)),(7,.d (int k))],own:=[(0,.box 53 (zO d)),(1,.box 72 (dz n)),(2,.box 53 zeroCells),(3,.box 53 [.d (int d.id),.d (.str d.name),.d (int d.len),.d (int d.iG),.d (aa d.fh),.d (zw d.al),.ar 4]),(4,.aQ 72 7 ((ve d.ae n k).1.map Nt.row))],aA:=[4]}) d.ae.length ?_ ?_
 .simp+decide[int,zw,ve]
 intro k M
 refine cy ?_
 have E:(ve d.ae n k).1.length<=k+1:=by
  unfold ve;split
  .show(d.ae.take k).length<=k+1
   rw[nR];have:=tM k d.ae.length;omega
  .have:=(Q8 (d.ae.take k) n).length_eq
   show(xq (d.ae.take k) n).length<=k+1
   rw[this,nP,nR];omega
 by_cases G:k<d.ae.length
 case neg=>
  have K:k=d.ae.length:=by omega
  have F:xq d.ae n=if (ve d.ae n k).2=true then (ve d.ae n k).1 else (ve d.ae n k).1++[n]:=by
   unfold ve;rw[K,nH];split
   .rename_i h;simp[IZ h]
   .simp
  have H:¬(k:Int)<d.ae.length:=by omega
  rw[F];generalize ve d.ae n k=z at *;obtain⟨L,b⟩:=z;simp only at E
  cases b with
  |false=>
   simp+decide[int,zq,H,Nt.row,maxLen];exact⟨by omega,by omega,rfl⟩
  |true=>
   simp+decide[int,zq,H];exact rfl
 have H:=bG G
 obtain⟨m,em,e1⟩:=bN G
 have aI:=zj4 (n:=n) e1
 generalize ve d.ae n k=z at *
 obtain⟨L,b⟩:=z
 simp only at aI E
 cases b with
 |true=>
  rw[ge (by simp)] at aI
  simp+decide[int,zq,Nt.row,G,H,em,e1,aB];refine jH 8 ?_
  simp+decide[int,zq,Nt.row,G,H,em,e1,aB,maxLen];exact⟨by omega,by omega,by omega,k+1,G,by omega,⟨by rw[aI],by omega⟩,by rw[aI];simp[Nt.row,int]⟩
 |false=>
  by_cases O:n.id<m.id
  .rw[gt ⟨rfl,O⟩] at aI
   simp+decide[int,zq,Nt.row,G,H,em,e1,aB,O,maxLen];refine⟨by omega,by omega,?_⟩
   refine jH 8 ?_
   simp+decide[int,zq,Nt.row,G,H,em,e1,aB,maxLen];exact⟨by omega,by omega,by omega,k+1,G,by omega,⟨by rw[aI],by omega⟩,by rw[aI];simp[Nt.row,int]⟩
  .rw[ge (λe=>O e.2)] at aI
   simp+decide[int,zq,Nt.row,G,H,em,e1,aB,O,maxLen];refine jH 8 ?_
   simp+decide[int,zq,Nt.row,G,H,em,e1,aB,maxLen];exact⟨by omega,by omega,by omega,k+1,G,by omega,⟨by rw[aI],by omega⟩,by rw[aI];simp[Nt.row,int]⟩
theorem Wt(d:Dc)(n:Nt)(H:d.ae.length<2^40):aq prog 69 [zn d,.agg n.row] (zn {d with ae:=xq d.ae n}):=
 zaa (ds:=[zn d,.agg n.row]) (zr2 d n H) (by simp[bX,xZ,wZ,zn,Dc.row,zq])
theorem zbf{d:Dc}(h:b_ d)(g:aj)(w:Int)(ps:List aG)(nx:Int)(H:(qc d w).2≠0):aq prog 27 [zn d,g.d,int w,zr ps,int nx] (.bE [zn (x8 d g w ps nx).1,int (x8 d g w ps nx).2]):=by
 have G:=D1 h w
 unfold x8
 rw[gt H]
 generalize qc d w=z at *
 obtain⟨x,e⟩:=z
 simp only at G H ⊢
 refine aF func27 ?_
 simp+decide[Tryz.f27,zn,Dc.row,int,aj.d,zr]
 refine zg G ?_
 simp+decide[zn,Dc.row,int,H]
 exact⟨rfl,rfl,rfl⟩
def jY(d:Dc)(g:aj)(ps:List aG)(x:Dc):List (Nat×am):=
 [(0,.box 53 (zO d)),(1,.box 36 (zj g.d)),(2,.box 39 [.d (zh ps)]),(3,.box 53 zeroCells),(4,.box 53 (zO x))]
def jZ(w nx:Int)(F G:List ByteArray):List (Nat×ah):=
 [(2,.d (int w)),(4,.d (int nx)),(5,.bp 0 0),(6,.bp 1 0),(8,.bp 2 0),(10,.bp 3 0),(12,.bp 4 0),(14,.d (yn F)),(15,.d (yn G))]
def gZ(d:Dc)(w nx:Int)(F G:List ByteArray)(k:Nat):List Nt:=(xf d w nx F G k).foldl xq (zK d w)
theorem zet(d:Dc)(w nx:Int)(F G:List ByteArray)(k:Nat):gZ d w nx F G (k+1)=xq (xq (gZ d w nx F G k) ⟨nx+2*k,zy d.al 3,w,0,0,k,(F[k]?).getD .empty⟩) ⟨nx+2*k+1,zy d.al 4,nx+2*k,0,0,0,(G[k]?).getD .empty⟩:=by
 unfold gZ;rw[J5,oI];rfl
theorem OS:∀ (m l:List Nt),(m.foldl xq l).length=l.length+m.length
 | [],l=>rfl
 |n::m,l=>by rw[oK,OS m,(Q8 l n).length_eq];simp only[nP];omega
theorem zhk(d:Dc)(w nx:Int)(F G:List ByteArray)(k:Nat):(gZ d w nx F G k).length=(zK d w).length+2*k:=by
 unfold gZ;rw[OS,Yj]
theorem zhl{d:Dc}(h:b_ d)(g:aj)(hL:aH g)(hg:bC g)(w:Int)(ps:List aG)(hp:ps.length<2^20)(nx:Int)(hr:yl d=true)(hw:yB d w=true)
  (heq:∀ F G:List ByteArray,qV (zK d w) nx (2*F.length)=false->gZ d w nx F G F.length=vJ (zK d w++xf d w nx F G F.length)) :
  aq prog 27 [zn d,g.d,int w,zr ps,int nx] (.bE [zn (x8 d g w ps nx).1,int (x8 d g w ps nx).2]):=by
 have S:=h.cW
 have W:=uf h
 have H0:qc d w=(xk d w,0):=by unfold qc;rw[ge (by rw[hr];decide),ge (by rw[hw];decide)]
 have hC:=D1 h w
 have Gc:(zK d w).length<=d.ae.length:=oz _ _
 have H1:=WN d w (by omega)
 have Y:=zad g hL hg (zp d.ae w).1.cF (eZ h w) ps hp
 have H2:=OP g hL hg ps hp
 have Hb:=C4 g ps
 have Hc:=C6 g ps
 have Hd:=gJ d 3 (by omega)
 have Hi:=gJ d 4 (by omega)
 obtain⟨E,hE⟩:∃ E,x8 d g w ps nx=E:=⟨_,rfl⟩
 rw[hE]
 unfold x8 at hE
 rw[H0] at hE hC
 simp only at hE hC
 rw[ge (by simp)] at hE
 refine aF func27 ?_
 simp+decide[Tryz.f27,zn,Dc.row,int,aj.d,zr]
 refine zg hC ?_
 simp+decide[int,zn,Dc.row]
 refine bw H1 ?_
 simp+decide
 refine bw Y ?_
 cases J:Yi g (zp d.ae w).1.cF ps with
 |false=>
  rw[gt J] at hE;subst hE;simp+decide
  exact⟨rfl,rfl,rfl⟩
 |true=>
 rw[ge (by rw[J];decide)] at hE
 simp+decide
 refine zg H2 ?_
 generalize yA g ps=z at *
 obtain⟨F,G,e⟩:=z
 simp only at hE Hb Hc
 by_cases he:e=0
 case neg=>
  rw[gt he] at hE;subst hE;simp+decide[int,he];exact⟨rfl,rfl,rfl⟩
 subst he
 rw[ge (by decide)] at hE
 simp+decide[int,yn]
 refine qg (λk:Nat=>{n:=136,next:=5,af:=(16,.d (int k))::jZ w nx F G,own:=jY d g ps (xk d w)})
  (λk=>k<=F.length/\Zq (F.take k)=false) (λk=>F.length-k) 0 ⟨nU _,rfl⟩ ?_ ?_
 .simp+decide[int,jZ,jY,yn,zj,aj.d]
 rintro k ⟨hk,T⟩
 refine cy ?_
 by_cases L:k<F.length
 case pos=>
  have H:=bG L;obtain⟨s,es,e1⟩:=bN L;by_cases hs:200<s.size
  .have Z:(200:Int)<s.size:=by omega
   have Hp:Zq F=true:=n_.2 ⟨s,by rw[<-es];exact nF L,by simpa using hs⟩
   rw[gt Hp] at hE;subst hE;simp+decide[int,jZ,jY,yn,L,H,es,Z];exact⟨rfl,rfl,rfl⟩
  .have Z:¬(200:Int)<s.size:=by omega
   simp+decide[int,jZ,jY,yn,L,H,es,Z,aB];refine⟨by omega,k+1,⟨L,?_⟩,by omega,by omega,gY g⟩
   unfold Zq at T ⊢;rw[nX L,ta,T,es];simp[hs]
 have Hs:k=F.length:=by omega
 rw[Hs,nH] at T
 have H:¬(k:Int)<F.length:=by omega
 rw[ge (by rw[T];decide)] at hE
 by_cases h1:nx<1
 .rw[gt (.inl h1)] at hE
  subst hE;simp+decide[int,jZ,jY,yn,H,h1];exact⟨rfl,rfl,rfl⟩
 by_cases h2:1099511627768<nx
 .rw[gt (.inr h2)] at hE
  subst hE;simp+decide[int,jZ,jY,yn,H,h1,h2];exact⟨rfl,rfl,rfl⟩
 rw[ge (λe=>e.elim h1 h2)] at hE
 simp+decide[int,jZ,jY,yn,H,h1,h2]
 refine qg (λk:Nat=>{n:=136,next:=5,af:=(17,.d (int k))::jZ w nx F G,own:=jY d g ps (xk d w)})
  (λk=>k<=2*F.length/\qV (zK d w) nx k=false) (λk=>2*F.length-k) 0 ⟨nU _,rfl⟩ ?_ ?_
 .simp+decide[int,jZ,jY,yn]
  exact gY g
 rintro q ⟨hq,V⟩
 refine cy ?_
 by_cases Hx:q<2*F.length
 case pos=>
  have K:(q:Int)<2*F.length:=by omega
  have N:=jL (xk d w) (nx+q) (by simp only[xk];omega)
  rw[show(xk d w).ae=zK d w from rfl] at N
  have A:=KB (zK d w) nx q;generalize zp (zK d w) (nx+q)=r at *;obtain⟨n,ok⟩:=r;simp only[V,rk] at A;simp+decide[int,jZ,jY,yn,K,aB];refine⟨by omega,by omega,?_⟩
  refine zg N ?_
  cases ok with
  |true=>
   have G2:qV (zK d w) nx (2*F.length)=true:=by
    have:∀ m,qV (zK d w) nx (q+1+m)=true:=by
     intro m;induction m with
     |zero=>exact A
     |succ m ih=>rw[<-pP,KB,ih];rfl
    have h:=this (2*F.length-(q+1));rwa [show q+1+(2*F.length-(q+1))=2*F.length by omega] at h
   rw[gt G2] at hE;subst hE;simp+decide[cb,Nt.row,int];exact⟨rfl,rfl,rfl⟩
  |false=>
   simp+decide[cb,Nt.row,int,aB];exact⟨by omega,q+1,⟨Hx,A⟩,by omega,by omega,gY g⟩
 have Ga:q=2*F.length:=by omega
 rw[Ga] at V
 have K:¬(q:Int)<2*F.length:=by omega
 rw[ge (by rw[V];decide)] at hE
 by_cases h3:300<(zK d w).length+2*F.length
 .have B:(300:Int)<(zK d w).length+2*F.length:=by omega
  rw[gt h3] at hE;subst hE;simp+decide[int,jZ,jY,yn,K,B,aB,xk,zq];exact⟨by omega,by omega,rfl,rfl⟩
 have B:¬(300:Int)<(zK d w).length+2*F.length:=by omega
 rw[ge h3] at hE
 have O:=heq F G V
 simp+decide[int,jZ,jY,yn,K,B,aB,xk,zq]
 refine⟨by omega,by omega,?_⟩
 refine xP (λk:Nat=>{n:=136,next:=5,af:=(20,.d (int k))::jZ w nx F G,own:=jY d g ps {d with ae:=gZ d w nx F G k} }) F.length ?_ ?_
 .simp+decide[int,jZ,jY,yn,gZ,xf]
  exact gY g
 intro i hi
 refine cy ?_
 by_cases J:i<F.length
 case neg=>
  obtain rfl:i=F.length:=by omega
  rw[O];subst hE;simp+decide[int,jZ,jY,yn,jV,zq]
 have Q:=bG J
 obtain⟨s,es,e1⟩:=bN J
 have P:i<G.length:=by omega
 have C:(i:Int)<G.length:=by omega
 obtain⟨u,eu,e2⟩:=bN P
 have aI:=zet d w nx F G i
 have Gb:=zhk d w nx F G i
 rw[e1,e2] at aI
 simp only[nW] at aI
 generalize gZ d w nx F G i=M at aI Gb
 have I:=Wt {d with ae:=M} ⟨nx+2*i,zy d.al 3,w,0,0,i,s⟩ (by simp only;omega)
 have X:=Wt {d with ae:=xq M ⟨nx+2*i,zy d.al 3,w,0,0,i,s⟩} ⟨nx+2*i+1,zy d.al 4,nx+2*i,0,0,0,u⟩ (by simp only;rw[(Q8 _ _).length_eq];simp only[nP];omega)
 simp only[zn,Dc.row,Nt.row] at I X
 generalize xq M ⟨nx+2*i,zy d.al 3,w,0,0,i,s⟩=M1 at I X aI
 generalize xq M1 ⟨nx+2*i+1,zy d.al 4,nx+2*i,0,0,0,u⟩=M2 at X aI
 simp+decide[int,jZ,jY,yn,Q]
 refine jH 14 ?_
 simp+decide[int,J,Q,es,aB]
 refine⟨by omega,by omega,?_⟩
 refine bw Hd ?_
 simp+decide[int]
 refine zg I ?_
 simp+decide[int]
 refine jH 17 ?_
 simp+decide[int,P,C,eu,aB]
 refine⟨by omega,by omega,by omega,?_⟩
 refine bw Hi ?_
 simp+decide[int]
 refine⟨⟨by omega,by omega⟩,⟨by omega,by omega⟩,?_⟩
 refine zg X ?_
 simp+decide[int,aB]
 exact⟨by omega,i+1,J,by omega,by omega,gY g,by rw[aI]⟩
abbrev js(l:List Nt):Prop:=l.Pairwise λa b=>a.id<b.id
theorem OT{n:Nt}:∀ {l:List Nt},js l->(∀ x∈l,x.id≠n.id)->js (xq l n)
 | [],_,_=>by simp[xq,js]
 |a::l,h,H=>by
  have G:=pM.1 h;by_cases c:n.id<a.id
  .have:xq (a::l) n=n::a::l:=by unfold xq;simp[c]
   rw[this];refine pM.2 ⟨λx F=>?_,h⟩
   rcases nE.1 F with rfl | F
   .exact c
   .have:=G.1 x F;omega
  .have:xq (a::l) n=a::xq l n:=by unfold xq;simp[c]
   rw[this];have E:=H a nL;refine pM.2 ⟨λx F=>?_,OT G.2 λx F=>H x (nG _ F)⟩
   rcases nE.1 ((Q8 l n).mem_iff.1 F) with rfl | F
   .omega
   .exact G.1 x F
theorem OU:∀ (m l:List Nt),js l->js m->(∀ n∈m,∀ x∈l,x.id≠n.id)->js (m.foldl xq l)/\(m.foldl xq l).Perm (l++m)
 | [],l,h,_,_=>⟨h,by simp⟩
 |n::m,l,h,H,G=>by
  have F:=pM.1 H;rw[oK];obtain⟨E,K⟩:=OU m (xq l n) (OT h (G n nL)) F.2 λk J x L=>by
   rcases nE.1 ((Q8 l n).mem_iff.1 L) with rfl | L
   .have:=F.1 k J;omega
   .exact G k (nG _ J) x L
  refine⟨E,K.trans ?_⟩
  refine((Q8 l n).append_right m).trans ?_
  simp only[nV];exact tz.symm
theorem OV{l:List Nt}(h:(l.map (·.id)).Nodup):js (vJ l):=by
 have G:=zba l
 have F:((vJ l).map (·.id)).Nodup:=((VR l).map _).nodup_iff.2 h
 rw[qi,rq] at F
 exact(tu.2 ⟨G,F⟩).imp λ{a b} H=>by have:=H.1;have:=H.2;omega
theorem KC{d:Dc}{w nx:Int}{F G:List ByteArray}:∀ (k:Nat),js (xf d w nx F G k)/\∀ n∈xf d w nx F G k,∃ j:Nat,j<2*k/\n.id=nx+j
 |0=>⟨by simp[xf,js],by simp[xf]⟩
 |k+1=>by
  obtain⟨H,E⟩:=KC (d:=d) (w:=w) (nx:=nx) (F:=F) (G:=G) k;rw[J5];refine⟨pZ.2 ⟨H,by simp[g_];omega,λa K b J=>?_⟩,λn L=>?_⟩
  .obtain⟨j,hj,e⟩:=E a K
   simp only[g_,nE,pw,rD] at J;rcases J with rfl | rfl <;> simp only <;> omega
  .rcases nM.1 L with L | L
   .obtain⟨j,hj,e⟩:=E n L
    exact⟨j,by omega,e⟩
   .simp only[g_,nE,pw,rD] at L
    rcases L with rfl | rfl
    .exact⟨2*k,by omega,by simp only;omega⟩
    .exact⟨2*k+1,by omega,by simp only;omega⟩
theorem OW{l:List Nt}{x:Nt}(h:x∈l):(zp l x.id).2=true:=by
 unfold zp
 cases H:l.find? λm=>decide (m.id=x.id) with
 |none=>rw[ry] at H;exact absurd (H x h) (by simp)
 |some m=>rfl
theorem OX{l:List Nt}{nx:Int}{k:Nat}(h:qV l nx k=false){x:Nt}(H:x∈l){j:Nat}(hj:j<k):x.id≠nx+j:=by
 intro e
 unfold qV at h
 have:=oB.1 h j (oc.2 hj)
 rw[<-e,OW H] at this
 exact this rfl
theorem Ql{d:Dc}(h:b_ d)(w:Int):js (zK d w):=h.li.sublist oX
theorem OY{d:Dc}{w nx:Int}{F G:List ByteArray}{k:Nat}(h:qV (zK d w) nx (2*k)=false):∀ n∈xf d w nx F G k,∀ x∈zK d w,x.id≠n.id:=by
 intro n H x E e
 obtain⟨j,hj,e2⟩:=(KC k).2 n H
 exact OX h E hj (by rw[e,e2])
theorem OZ{d:Dc}(h:b_ d){w nx:Int}{F G:List ByteArray}{k:Nat}(H:qV (zK d w) nx (2*k)=false):((zK d w++xf d w nx F G k).map (·.id)).Nodup:=by
 rw[qi,rq,pZ]
 exact⟨(Ql h w).imp λ{a b} e=>by omega,(KC k).1.imp λ{a b} e=>by omega,λa E b K=>OY H b K a E⟩
theorem zph{d:Dc}(h:b_ d)(w nx:Int)(F G:List ByteArray)(H:qV (zK d w) nx (2*F.length)=false):gZ d w nx F G F.length=vJ (zK d w++xf d w nx F G F.length):=by
 obtain⟨E,K⟩:=OU (xf d w nx F G F.length) (zK d w) (Ql h w) (KC _).1 (OY H)
 exact sZ (le:=λa b=>a.id<b.id) (λa b _ _ r1 r2=>by omega) E (OV (OZ h H)) (K.trans (VR _).symm)
theorem zlb{d:Dc}(h:b_ d)(g:aj)(H:aH g)(E:bC g)(w:Int)(ps:List aG)(K:ps.length<2^20)(nx:Int):
  aq prog 27 [zn d,g.d,int w,zr ps,int nx] (.bE [zn (x8 d g w ps nx).1,int (x8 d g w ps nx).2]):=by
 by_cases J:(qc d w).2=0
 .unfold qc at J
  cases L:yl d with
  |false=>rw[gt L] at J;cases J
  |true=>
   rw[ge (by rw[L];decide)] at J
   cases M:yB d w with
   |false=>rw[gt M] at J;cases J
   |true=>exact zhl h g H E w ps K nx L M λF G ht=>zph h w nx F G ht
 .exact zbf h g w ps nx J
end Go.V.Doc
namespace Go.V.Doc
open Go Go.Proofs Tryz
theorem Xe{l:List Nt}(h:js l){n:Nt}(H:n∈l):zp l n.id=(n,true):=by
 have G:=OW H
 obtain⟨F,E⟩:=u7 G
 refine Prod.ext ?_ G
 obtain⟨i,hi,e1⟩:=nT.1 F
 obtain⟨j,hj,e2⟩:=nT.1 H
 have K:=od.1 h
 rw[<-e1,<-e2] at E
 rcases pU i j with q | q | q
 .have:=K i j hi hj q;omega
 .subst q;rw[<-e1,e2]
 .have:=K j i hj hi q;omega
theorem zr3{a b:List Nt}(G:js a)(F:js b)(h:∀ m,m∈a↔m∈b):a=b:=by
 have nd:∀ {l:List Nt},js l->l.Nodup:=λ{l} E=>E.imp λ{x y} H e=>by rw[e] at H;omega
 exact sZ (le:=λa b=>a.id<b.id) (λa b _ _ r1 r2=>by omega) G F ((sR (nd G) (nd F)).2 h)
theorem zhm{d x:Dc}(H:x.al=d.al)(G:x.len=d.len){n:Nt}(F:(zv d n.aZ).kind≠0->zp x.ae n.aE=zp d.ae n.aE):ky x n=ky d n:=by
 have e:∀ i,zv x i=zv d i:=λi=>by unfold zv;rw[H]
 unfold ky wq
 simp only[e,H,G]
 by_cases E:(zv d n.aZ).kind=0
 .simp only[E,oV]
 .rw[F E]
theorem P0{d:Dc}{n:Nt}(H:(zv d n.aZ).kind≠0)(G:(zp d.ae n.aE).2=true/\(zp d.ae n.aE).1.aZ=(zv d n.aZ).aE)
  (F:wq d n (zp d.ae n.aE).1=true) (E:0<=n.cc/\(n.cc=0\/(zv d n.aZ).kind=3)):ky d n=0:=by
 unfold ky
 rw[gt (by rw[ge H];simp[G]),gt F,ge (by omega)]
theorem b_.grow{d x:Dc}(h:b_ d)(E:x.al=d.al)(K:x.len=d.len)(J:x.ae.length<=300)(hi:js x.ae)
  (L:∀ n∈x.ae,(n∈d.ae/\((zv d n.aZ).kind≠0->zp x.ae n.aE=zp d.ae n.aE)/\∀ m,m.aZ=n.aZ->m.aE=n.aE->(m∈x.ae↔m∈d.ae)) \/
   (Nok x n/\((zv d n.aZ).kind=3/\wQ (yc x.ae n.aZ n.aE)=true\/(zv d n.aZ).kind=4/\(yc x.ae n.aZ n.aE).length<=1))):b_ x:=by
 have e:∀ i,zv x i=zv d i:=λi=>by unfold zv;rw[E]
 have hs:∀ n:Nt,(∀ m,m.aZ=n.aZ->m.aE=n.aE->(m∈x.ae↔m∈d.ae))->yc x.ae n.aZ n.aE=yc d.ae n.aZ n.aE:=λn M=>by
  unfold yc;refine zr3 (hi.sublist oX) (h.li.sublist oX) λm=>?_
  simp only[oA,nI,nD];exact⟨λq=>⟨(M m q.2.1 q.2.2).1 q.1,q.2⟩,λq=>⟨(M m q.2.1 q.2.2).2 q.1,q.2⟩⟩
 refine⟨by rw[E];exact h.al,by rw[K];exact h.len,J,λn O=>?_,hi,λt F=>?_⟩
 .rcases L n O with⟨Q,T,_⟩ | ⟨Q,_⟩
  .have o:=h.e_ n Q
   refine⟨o.lo,o.hi,o.t0,by rw[E];exact o.t1,?_⟩
   have V:=o.e;rw[XU] at V ⊢;rw[zhm E K T];exact V
  .exact Q
 .have G:=WE.1 (h.ter t (by rw[<-E];exact F))
  rw[WE,e];refine⟨λn X=>?_,λn X=>?_⟩ <;> obtain⟨O,et⟩:=uO.1 X <;> rcases L n O with⟨Q,T,M⟩ | ⟨_,M⟩
  .have H:=hs n M
   have Y:=G.1 n (uO.2 ⟨Q,et⟩);rw[et] at H;unfold kD at Y ⊢;rw[H];exact Y
  .rw[et] at M
   unfold kD;rcases M with⟨k,_⟩ | ⟨k,_⟩ <;> rw[k] <;> rfl
  .have H:=hs n M
   have Y:=G.2 n (uO.2 ⟨Q,et⟩);rw[et] at H T;unfold eN at Y ⊢;rw[H];by_cases k1:(zv d t).kind=1
   .rw[T (by rw[k1];decide)];exact Y
   .simp only[k1,tS,tX] at Y ⊢;exact Y
  .rw[et] at M
   unfold eN;rcases M with⟨k,q⟩ | ⟨k,q⟩
   .rw[k,q];rfl
   .rw[k,pH (show ¬1<(yc x.ae t n.aE).length by omega)];rfl
section
variable {d:Dc} {w:Int}
theorem zpi(h:b_ d){m n:Nt}(H:m∈d.ae)(G:n∈d.ae)(F:m.aZ=n.aZ)(E:m.aE=n.aE):m.id∈YZ d w↔n.id∈YZ d w:=by
 rw[Y7 h H,Y7 h G,(xB h H).1,(xB h G).1,E]
 simp only[nE,or_and_right,exists_or,exists_eq_left,F,E]
theorem Zr{n:Nt}:n∈zK d w↔n∈d.ae/\n.id∉YZ d w:=by
 unfold zK X0
 simp only[oA,pS,pO]
theorem C7(h:b_ d){n:Nt}(G:n∈zK d w)(F:(zv d n.aZ).kind≠0):∃ p∈zK d w,zp d.ae n.aE=(p,true)/\p.id=n.aE:=by
 obtain⟨E,K⟩:=Zr.1 G
 obtain⟨t,H,et⟩:=h.Ij E
 rw[et] at F
 obtain⟨p1,p2⟩:=h.dv ⟨E,et⟩ H F
 have J:=ua h p1.1
 rw[p2] at J
 refine⟨_,Zr.2 ⟨p1.1,λL=>K ?_⟩,J,p2⟩
 obtain⟨c,q1,q2,q3⟩:=(Y7 h p1.1).1 L
 refine(Y7 h E).2 ⟨c,?_,q2,q3⟩
 rw[(xB h E).1,J]
 unfold bH
 rw[gt rfl]
 exact nG _ q1
theorem P2(h:b_ d):b_ (xk d w):=by
 refine h.grow rfl rfl (oC (oz _ _) h.cW) (Ql h w) λn H=>.inl ?_
 have H:n∈zK d w:=H
 obtain⟨G,F⟩:=Zr.1 H
 refine⟨G,λE=>?_,λm a b=>⟨λK=>(Zr.1 K).1,λK=>Zr.2 ⟨K,λJ=>F ((zpi h K G a b).1 J)⟩⟩⟩
 obtain⟨p,L,M,e⟩:=C7 h H E
 rw[M,<-e]
 exact Xe (Ql h w) L
end
theorem C9{l:List cD}{t:cD}(h:qM l t=0):(t.bV=0\/gy l t.bV=false)/\((t.bV=3->t.kind=3/\0<=t.aE/\t.aE<l.length/\(l[t.aE.toNat]?.getD default).bV=2)/\(t.bV=4->t.kind=4/\0<=t.aE/\t.aE<l.length/\(l[t.aE.toNat]?.getD default).bV=3)):=by
 unfold qM at h
 split at h
 .cases h
 split at h
 .cases h
 split at h
 .cases h
 split at h
 .cases h
 split at h
 .cases h
 rename_i H
 refine⟨.inr (by simpa using H),?_⟩
 split at h
 .rename_i k0
  split at h
  .unfold gA at h
   constructor <;> intro r <;> rw[r,k0] at h <;> simp at h
  .cases h
 split at h
 .cases h
 rename_i k0 G
 split at h
 .cases h
 unfold gA at h
 constructor <;> intro r <;> rw[r] at h <;> simp at h
 .split at h
  .split at h
   .exact⟨by assumption,by omega,by omega,by assumption⟩
   .cases h
  .cases h
 .split at h
  .split at h
   .exact⟨by assumption,by omega,by omega,by assumption⟩
   .cases h
  .cases h
theorem zr4{d:Dc}(h:b_ d){t:Nat}(H:t<d.al.length){r:Int}(G:r≠0)(F:(d.al[t]).bV=r):zy d.al r=t:=by
 have E:=(C9 (h.cI.al t H)).1
 rw[F] at E
 unfold zy Zi
 rw[ge G,FM H (λe K=>?_) (by simp[F])]
 rcases E with E | E
 .exact absurd E G
 .unfold gy at E
  rw[pH G,sO,pK,oB] at E;exact rV.2 (E e K)
theorem P3{d:Dc}{r:Int}(H:r≠0)(h:0<=zy d.al r):∃ t:Nat,zy d.al r=t/\∃ G:t<d.al.length,(d.al[t]).bV=r:=by
 unfold zy at h ⊢
 rw[ge H] at h ⊢
 obtain⟨t,et,G,F⟩:=FQ h
 exact⟨t,et,G,w_ F⟩
theorem P4{d:Dc}(h:b_ d){t:Nat}(H:t<d.al.length){r:Int}(G:r≠0)(F:0<=(d.al[t]).aE)(E:(d.al[t]).aE<(d.al.take t).length)(K:((d.al.take t)[(d.al[t]).aE.toNat]?.getD default).bV=r):(zv d t).aE=zy d.al r:=by
 rw[gG d H]
 rw[nR] at E
 have J:(d.al[t]).aE.toNat<d.al.length:=by omega
 rw[og,gt (by omega),ac J,nW] at K
 rw[zr4 h J G K];omega
structure lI(d:Dc):Prop where
 m:(zv d (zy d.al 3)).kind=3/\(zv d (zy d.al 3)).aE=zy d.al 2/\0<=zy d.al 3/\zy d.al 3<d.al.length
 g:(zv d (zy d.al 4)).kind=4/\(zv d (zy d.al 4)).aE=zy d.al 3/\0<=zy d.al 4/\zy d.al 4<d.al.length
theorem Cb{d:Dc}(h:b_ d)(H:yl d=true):lI d:=by
 unfold yl at H
 simp only[nI,nD] at H
 obtain⟨t3,e3,l3,r3⟩:=P3 (by decide) H.2.1
 obtain⟨t4,e4,l4,r4⟩:=P3 (by decide) H.2.2
 obtain⟨k3,a1,a2,a3⟩:=(C9 (h.cI.al t3 l3)).2.1 r3
 obtain⟨k4,b1,b2,b3⟩:=(C9 (h.cI.al t4 l4)).2.2 r4
 refine⟨?_,?_⟩
 .rw[e3,P4 h l3 (by decide) a1 a2 a3,gG d l3]
  exact⟨k3,rfl,by omega,by omega⟩
 .rw[e4,P4 h l4 (by decide) b1 b2 b3,gG d l4]
  exact⟨k4,rfl,by omega,by omega⟩
section
variable {d:Dc} {w nx:Int} {F G:List ByteArray}
abbrev P5(d:Dc)(w nx:Int)(F:List ByteArray)(i:Nat):Nt:=⟨nx+2*i,zy d.al 3,w,0,0,i,(F[i]?).getD .empty⟩
abbrev P6(d:Dc)(nx:Int)(G:List ByteArray)(i:Nat):Nt:=⟨nx+2*i+1,zy d.al 4,nx+2*i,0,0,0,(G[i]?).getD .empty⟩
theorem Qm{k:Nat}{n:Nt}:n∈xf d w nx F G k↔∃ i,i<k/\(n=P5 d w nx F i\/n=P6 d nx G i):=by
 unfold xf g_
 simp only[po,oc,nE,pw,rD]
theorem Zs{n:Nt}:n∈(jV d w nx F G).ae↔n∈zK d w\/n∈xf d w nx F G F.length:=(VR _).mem_iff.trans nM
theorem Cc(h:b_ d)(H:qV (zK d w) nx (2*F.length)=false):js (jV d w nx F G).ae:=OV (OZ h H)
theorem zlc{l:List Nt}(h:js l):l.Nodup:=h.imp λ{x y} H e=>by rw[e] at H;omega
theorem zld(h:b_ d)(H:yB d w=true)(E:qV (zK d w) nx (2*F.length)=false):∃ n∈zK d w,n.id=w/\n.aZ=zy d.al 2/\zp (jV d w nx F G).ae w=(n,true)/\zp d.ae w=(n,true):=by
 have e:=C5 h H
 unfold yB at H
 rw[nI,nD] at H
 have K:=u7 (l:=zK d w) (id:=w) (by rw[e];exact H.1)
 rw[e] at K
 have J:=Xe (Cc (G:=G) h E) (Zs.2 (.inl K.1))
 rw[K.2] at J
 exact⟨_,K.1,K.2,H.2,J,Prod.ext rfl H.1⟩
theorem P7(H:zy d.al 4≠zy d.al 3):∀ k,((xf d w nx F G k).filter λn=>decide (n.aZ=zy d.al 3)&&decide (n.aE=w)).length<=k
 |0=>by simp[xf]
 |k+1=>by
  have:=P7 H k
  rw[J5,pm,nO];have:((g_ d w nx F G k).filter λn=>decide (n.aZ=zy d.al 3)&&decide (n.aE=w)).length<=1:=by simp[g_,H]
  omega
theorem Cd(h:b_ d){n:Nt}(H:n∈zK d w)(G:n.aZ=zy d.al 3)(F:n.aE=w):False:=
 (Zr.1 H).2 ((Y7 h (Zr.1 H).1).2 ⟨n,VI h (Zr.1 H).1,G,F⟩)
theorem Ce(h:b_ d)(H:lI d)(G:qV (zK d w) nx (2*F.length)=false){i:Nat}(hi:i<F.length){n:Nt}(E:n∈zK d w)(K:n.aZ=zy d.al 4)(J:n.aE=nx+2*i):False:=by
 obtain⟨p,L,_,e⟩:=C7 h E (by rw[K,H.g.1];decide)
 exact OX G L (j:=2*i) (by omega) (by rw[e,J];omega)
theorem zpj(h:b_ d)(Q:yl d=true)(T:yB d w=true)(V:∀ s∈F,c_ s=0)(X:∀ s∈G,c_ s=0)(Y:G.length=F.length)(Z:1<=nx)(A:nx+2*F.length<=1099511627777)
  (B:qV (zK d w) nx (2*F.length)=false) (C:(zK d w).length+2*F.length<=300):b_ (jV d w nx F G):=by
 have I:=Cb h Q
 have J:zy d.al 4≠zy d.al 3:=λe=>by have:=I.g.1;rw[e,I.m.1] at this;cases this
 have E:=Cc (G:=G) h B
 have K:∀ {L:List ByteArray} {i:Nat},(∀ s∈L,c_ s=0)->i<L.length->c_ ((L[i]?).getD .empty)=0:=λ{L i} N hi=>by
  rw[ac hi];exact N _ (nF hi)
 have H:∀ i,zv (jV d w nx F G) i=zv d i:=λ_=>rfl
 refine(P2 h (w:=w)).grow rfl rfl ?_ E λn P=>?_
 .show(vJ _).length<=300
  rw[VQ,nO,Yj];exact C
 rcases Zs.1 P with S | S
 .left
  refine⟨S,λhk=>?_,λm a b=>⟨λW=>?_,λW=>Zs.2 (.inl W)⟩⟩
  .obtain⟨p,hp,_,e⟩:=C7 h S hk
   have e2:zp (xk d w).ae n.aE=(p,true):=by rw[<-e];exact Xe (Ql h w) hp
   rw[e2,<-e];exact Xe E (Zs.2 (.inl hp))
  .rcases Zs.1 W with W | W
   .exact W
   .obtain⟨i,hi,rfl | rfl⟩:=Qm.1 W
    .exact(Cd h S a.symm b.symm).elim
    .exact(Ce h I B hi S a.symm b.symm).elim
 .right
  obtain⟨i,hi,e⟩:=Qm.1 S;rcases e with rfl | rfl
  .obtain⟨p,hp,_,pt,hg,_⟩:=zld (G:=G) h T B
   refine⟨⟨by simp only;omega,by simp only;omega,I.m.2.2.1,I.m.2.2.2,?_⟩,.inl ⟨I.m.1,?_⟩⟩
   .rw[XU,gt (K V hi)]
    refine P0 (by rw[H,I.m.1];decide) (by rw[H,hg];exact⟨rfl,by rw[I.m.2.1];exact pt⟩) ?_ ⟨by simp only;omega,.inr (by rw[H];exact I.m.1)⟩
    unfold wq;rw[ge]
    .simp
    .rw[Vx (d:=jV d w nx F G) I.m.2.2.1 I.m.2.2.2,H,I.m.1];decide
   .rw[Vs]
    intro j hj;have M:(yc (jV d w nx F G).ae (zy d.al 3) w).length<=F.length:=by
     unfold yc;show((vJ (zK d w++xf d w nx F G F.length)).filter _).length<=F.length
     rw[((VR (zK d w++xf d w nx F G F.length)).filter _).length_eq,pm,nO];have e0:(zK d w).filter (λn=>decide (n.aZ=zy d.al 3)&&decide (n.aE=w))=[]:=by
      rw[rp];intro m W e;rw[nI,nD,nD] at e;exact Cd h W e.1 e.2
     rw[e0];have:=P7 (w:=w) (nx:=nx) (F:=F) (G:=G) J F.length
     simp only[pc,pG];exact this
    have O:j<F.length:=pg hj M
    rw[n_];exact⟨P5 d w nx F j,oA.2 ⟨Zs.2 (.inr (Qm.2 ⟨j,O,.inl rfl⟩)),by simp⟩,by simp⟩
  .have hg:=Xe E (Zs.2 (.inr (Qm.2 ⟨i,hi,.inl rfl⟩)))
   refine⟨⟨by simp only;omega,by simp only;omega,I.g.2.2.1,I.g.2.2.2,?_⟩,.inr ⟨I.g.1,?_⟩⟩
   .rw[XU,gt (K X (by omega))]
    refine P0 (by rw[H,I.g.1];decide) (by rw[H];simp only at hg ⊢;rw[hg];exact⟨rfl,by rw[I.g.2.1]⟩) ?_ ⟨by simp only;omega,.inl rfl⟩
    unfold wq;rw[ge]
    .simp
    .rw[Vx (d:=jV d w nx F G) I.g.2.2.1 I.g.2.2.2,H,I.g.1];decide
   .refine Ii ((zlc E).sublist oX) λa ha b hb=>?_
    have key:∀ m,m∈yc (jV d w nx F G).ae (zy d.al 4) (nx+2*i)->m=P6 d nx G i:=λm W=>by
     unfold yc at W;rw[oA,nI,nD,nD] at W;obtain⟨q1,q2,q3⟩:=W;rcases Zs.1 q1 with q | q
     .exact(Ce h I B hi q q2 q3).elim
     .obtain⟨j,hj,rfl | rfl⟩:=Qm.1 q
      .exact absurd q2.symm J
      .obtain rfl:j=i:=by simp only at q3;omega
       rfl
    rw[key a ha,key b hb]
end
end Go.V.Doc
namespace Go.V.Doc
open Go Go.Proofs Go.Lib Tryz
theorem iu(n m b0 b1 b2 b3 c1 c2 c3:Nat)(H:n<=m)(G:1<n->c1=b1)(F:2<n->c2=b2)(E:3<n->c3=b3)(K:¬((decodeN n b0 b1 b2 b3).1=65533/\(decodeN n b0 b1 b2 b3).2=1))(J:1<=n):
  decodeN m b0 c1 c2 c3=decodeN n b0 b1 b2 b3/\(decodeN n b0 b1 b2 b3).2<=n/\1<=(decodeN n b0 b1 b2 b3).2:=by
 by_cases n1:1<n
 .have:=G n1;subst this
  by_cases n2:2<n
  .have:=F n2;subst this
   by_cases n3:3<n
   .have:=E n3;subst this
    have m1:1<m:=by omega
    have m2:2<m:=by omega
    have m3:3<m:=by omega
    revert K
    unfold decodeN;simp only[n1,n2,n3,m1,m2,m3,tT];intro K;constructor <;> (repeat' split) <;> (simp only;omega)
   .revert K
    unfold decodeN;have m1:1<m:=by omega
    have m2:2<m:=by omega
    simp only[n1,n2,n3,m1,m2,tT,BT,and_false,oU];repeat' split
    all_goals intro K
    all_goals first | exact absurd ⟨rfl,rfl⟩ K | (refine⟨rfl,?_⟩;simp only;omega) | (exfalso;omega)
  .revert K
   unfold decodeN;have m1:1<m:=by omega
   simp only[n1,n2,m1,tT,BT,and_false,oU];repeat' split
   all_goals intro K
   all_goals first | exact absurd ⟨rfl,rfl⟩ K | (refine⟨rfl,?_⟩;simp only;omega) | (exfalso;omega)
 .revert K
  unfold decodeN;simp only[n1,BT,and_false,oU];repeat' split
  all_goals intro K
  all_goals first | exact absurd ⟨rfl,rfl⟩ K | (refine⟨rfl,?_⟩;simp only;omega) | (exfalso;omega)
theorem P8:∀ (k:Nat) (a b:List UInt8),a.length<=k->validD a=true->validD (a++b)=validD b
 |0,a,b,G,_=>by
  obtain rfl:a=[]:=nZ (by omega)
  rfl
 |k+1,a,b,G,h=>by
  by_cases e:a=[]
  .subst e;rfl
  have H:0<a.length:=r_.2 e
  rw[validD_step a e] at h;split at h
  .cases h
  rename_i F;rw[decodeL_N] at F;have E:∀ i,i<a.length->(a++b).getD i 0=a.getD i 0:=λi hi=>by
   simp only[ot];rw[pl hi]
  have K:=iu a.length (a++b).length (a.getD 0 0).toNat (a.getD 1 0).toNat (a.getD 2 0).toNat (a.getD 3 0).toNat ((a++b).getD 1 0).toNat ((a++b).getD 2 0).toNat ((a++b).getD 3 0).toNat (by simp) (λq=>by rw[E 1 q]) (λq=>by rw[E 2 q]) (λq=>by rw[E 3 q]) F H
  obtain⟨d1,d2,d3⟩:=K;have e2:decodeL (a++b)=decodeL a:=by rw[decodeL_N,decodeL_N,E 0 H,d1]
  rw[validD_step (a++b) (by simp[e]),e2,ge (by rw[decodeL_N];exact F)]
  rw[<-decodeL_N] at d2;rw[sg d2];exact P8 k _ b (by rw[oO];rw[<-decodeL_N] at d3;omega) h
def w8(s:ByteArray):Prop:=validD s.data.toList=true/\∀ b∈s.data.toList,eD b.toNat=false
theorem zr5{a b:ByteArray}(H:w8 a)(G:w8 b):w8 (a++b):=by
 unfold w8 at *
 rw[Bk,sf]
 refine⟨by rw[P8 _ _ _ (nJ _) H.1];exact G.1,λx F=>?_⟩
 rcases nM.1 F with F | F
 .exact H.2 x F
 .exact G.2 x F
theorem Qn:w8 .empty:=⟨rfl,λb H=>by cases H⟩
theorem zle{s:ByteArray}{b:UInt8}(H:b∈s.data.toList):∃ k,k<s.size/\zC s k=b.toNat:=by
 obtain⟨k,G,rfl⟩:=nT.1 H
 refine⟨k,by simpa using G,?_⟩
 unfold zC
 rw[ot,ac G];rfl
theorem P9{s:ByteArray}(h:xI s=true):w8 s:=by
 unfold xI at h
 rw[nI,nI,nI] at h
 obtain⟨H,⟨G,_⟩,_⟩:=h
 have F:=(F4 s s.size 0 (by omega) (by omega)).1
 rw[p_,G] at F
 refine⟨F,λb E=>?_⟩
 obtain⟨k,K,e⟩:=zle E
 unfold Za at H
 have:=oo.1 H k (oc.2 K)
 rw[e] at this
 unfold ZZ at this
 unfold eD
 rw[nI,nD,nD] at this
 rw[pH this.1,pH this.2];rfl
theorem kf{s:ByteArray}(h:w8 s)(G:s.size<=200):c_ s=0:=by
 unfold c_
 rw[ge (by omega),gt (show GK s=true from h.1),ge]
 unfold Ws
 rw[pW,oB]
 intro k F
 have F:=oc.1 F
 have H:k<s.data.toList.length:=by simpa using F
 have:=h.2 (s.data.toList[k]) (nF H)
 unfold zC
 rw[ot,ac H]
 simp only[nW];rw[this];decide
theorem Pe{us:List bo}(H:∀ u∈us,fg u){w:List Int}:∀ {f bc:Nat} {acc:ByteArray},w8 acc->w8 (kL us w f bc acc).1
 |0,_,_,_=>Qn
 |f+1,bc,acc,h=>by
  unfold kL;split
  .split
   .exact Qn
   .rename_i b G
    obtain⟨v,F,_⟩:=Zp G;rw[F];exact Pe H (zr5 h (P9 (H v (ol F)).lab))
  .exact h
theorem zlf{us:List bo}(H:∀ u∈us,fg u)(w:List Int):w8 (xy us w).1:=by
 unfold xy
 split
 .exact Qn
 .split
  .exact Qn
  .exact Pe H Qn
theorem Pg{l:List aP}(H:∀ e∈l,∀ s∈e.aL,xI s.xe=true):∀ {f:Nat} {id:Int} {ss:List cC},kj l f id=some ss->∀ s∈ss,xI s.xe=true
 |0,_,_,h=>by cases h
 |f+1,id,ss,h=>by
  unfold kj at h;split at h
  .rename_i G
   split at h
   .cases h;exact H _ (YG G)
   .split at h
    .cases h
    .exact Pg H h
  .cases h
theorem zlg{l:List aP}(H:∀ e∈l,∀ s∈e.aL,xI s.xe=true)(p:aG):w8 (gX l p)/\(gX l p).size<=200:=by
 unfold gX
 cases hs:(xg l p.entry)[p.bu.toNat]? with
 |none=>exact⟨Qn,nU _⟩
 |some s=>
  have G:=ol hs;have F:xI s.xe=true:=by
   unfold xg at G;cases E:kj l (l.length+1) p.entry with
   |none=>rw[E] at G;cases G
   |some ss=>rw[E] at G;exact Pg H E s G
  have:=(Di F).2
  exact⟨P9 F,by simp only[oL,nW];omega⟩
theorem Ph{g:aj}(H:aH g):∀ {ps:List aG} {x y:List ByteArray},(∀ s∈x,w8 s)->(∀ s∈y,w8 s/\s.size<=200)->(∀ s∈(qU g ps x y).1,w8 s)/\∀ s∈(qU g ps x y).2.1,w8 s/\s.size<=200
 | [],x,y,G,F=>⟨G,F⟩
 |p::ps,x,y,G,F=>by
  unfold qU;split
  .exact⟨λs h=>(by cases h),λs h=>(by cases h)⟩
  .refine Ph H (λs h=>?_) (λs h=>?_) <;> rcases nM.1 h with h | h
   .exact G s h
   .rw[nQ] at h;rw[h];exact zlf H.fi _
   .exact F s h
   .rw[nQ] at h;rw[h];exact zlg (λe E=>(H.aM.d_ e E).gl) p
theorem zhn{g:aj}(H:aH g)(ps:List aG):(∀ s∈(yA g ps).1,w8 s)/\∀ s∈(yA g ps).2.1,c_ s=0:=by
 unfold yA
 split
 .exact⟨λs h=>(by cases h),λs h=>(by cases h)⟩
 .have h:=Ph H (ps:=ps) (x:=[]) (y:=[]) (λs h=>(by cases h)) (λs h=>(by cases h))
  exact⟨h.1,λs hs=>kf (h.2 s hs).1 (h.2 s hs).2⟩
theorem Pj{g:aj}:∀ {ps:List aG} {x y:List ByteArray},(qU g ps x y).2.2=0->(qU g ps x y).1.length=x.length+ps.length
 | [],x,y,_=>rfl
 |p::ps,x,y,h=>by
  unfold qU at h ⊢;split at h
  .rename_i H;exact absurd h H
  .rename_i H
   rw[ge H,Pj h];simp only[nO,nP,pc];omega
theorem zeu{g:aj}{ps:List aG}(h:(yA g ps).2.2=0):(yA g ps).1.length=ps.length/\ps.length<=4:=by
 unfold yA at h ⊢
 split at h
 .rename_i H;exact absurd h H
 .rename_i H
  rw[ge H,Pj h];refine⟨by simp,?_⟩
  rw[Cz,sJ] at H;unfold qF at H;split at H
  .cases H
  .split at H
   .cases H
   .omega
end Go.V.Doc
namespace Go.V.Doc
open Go Go.Proofs Tryz
section
variable {d:Dc} {w nx:Int} {F G:List ByteArray}
theorem Cf(h:Fw d):Fw (xk d w) where
 n:=rP (oz _ _) h.n
 k:=λid t=>rP (List.Sublist.length_le (oX.filter _)) (h.k id t)
theorem zr6(h:b_ d)(E:yl d=true)(K:Fw d)(J:qV (zK d w) nx (2*F.length)=false)(L:F.length<=4):Fw (jV d w nx F G) where
 n:=by
  show(vJ _).length<2^40
  have:=(Cf (w:=w) K).n
  have:(zK d w).length<=d.ae.length:=oz _ _
  have:=h.cW
  rw[VQ,nO,Yj];omega
 k:=λid t=>by
  have M:=Cb h E;show((vJ (zK d w++xf d w nx F G F.length)).filter (yS d id t)).length<20
  rw[((VR (zK d w++xf d w nx F G F.length)).filter _).length_eq,pm,nO];have O:=(Cf (w:=w) K).k id t;have O:((zK d w).filter (yS d id t)).length<20:=O
  have Q:((xf d w nx F G F.length).filter (yS d id t)).length<=8:=oC (oz _ _) (by rw[Yj];omega)
  cases T:(xf d w nx F G F.length).filter (yS d id t) with
  |nil=>simpa using O
  |cons n l=>
   rw[<-T];obtain⟨m1,m2⟩:=oA.1 (show n∈(xf d w nx F G F.length).filter (yS d id t) by rw[T];exact nL)
   have e0:(zK d w).filter (yS d id t)=[]:=by
    rw[rp];intro m H V;unfold yS at V m2;simp only[nI,nD] at V m2;obtain⟨i,hi,rfl | rfl⟩:=Qm.1 m1
    .exact Cd h H (V.1.1.1.trans m2.1.1.1.symm) (V.1.1.2.trans m2.1.1.2.symm)
    .exact Ce h M J hi H (V.1.1.1.trans m2.1.1.1.symm) (V.1.1.2.trans m2.1.1.2.symm)
   rw[e0];simp only[pc];omega
end
structure me(d:Dc):Prop where
 r:b_ d
 y:yl d=true
 w:Fw d
theorem me.clear{d:Dc}(h:me d)(w:Int):me (xk d w):=⟨P2 h.r,h.y,Cf h.w⟩
theorem KD{d:Dc}{g:aj}{w:Int}{ps:List aG}{nx:Int}(H:(x8 d g w ps nx).2=0):
  (qc d w).2=0/\Yi g (zp d.ae w).1.cF ps=true/\(yA g ps).2.2=0/\Zq (yA g ps).1=false/\(1<=nx/\nx<=1099511627768)/\qV (zK d w) nx (2*(yA g ps).1.length)=false/\(zK d w).length+2*(yA g ps).1.length<=300 /\
   (x8 d g w ps nx).1=jV d w nx (yA g ps).1 (yA g ps).2.1:=by
 unfold x8 at H ⊢
 split at H
 .rename_i h;exact absurd H h
 rename_i G
 rw[ge G]
 split at H
 .cases H
 rename_i F
 rw[ge F]
 split at H
 .rename_i h;exact absurd H h
 rename_i E
 rw[ge E]
 split at H
 .cases H
 rename_i K
 rw[ge K]
 split at H
 .cases H
 rename_i J
 rw[ge J]
 split at H
 .cases H
 rename_i L
 rw[ge L]
 split at H
 .cases H
 rename_i M
 rw[ge M]
 exact⟨sJ.1 G,by simpa using F,sJ.1 E,by simpa using K,⟨by omega,by omega⟩,by simpa using L,by omega,rfl⟩
theorem zev{d:Dc}{w:Int}(h:(qc d w).2=0):yl d=true/\yB d w=true:=by
 unfold qc at h
 split at h
 .cases h
 .split at h
  .cases h
  .rename_i H G
   exact⟨by simpa using H,by simpa using G⟩
theorem me.fill{d:Dc}(h:me d){g:aj}(H:aH g){w:Int}{ps:List aG}{nx:Int}(G:(x8 d g w ps nx).2=0):me (x8 d g w ps nx).1:=by
 obtain⟨c1,c2,c3,c4,c5,c6,c7,c8⟩:=KD G
 obtain⟨_,F⟩:=zev c1
 obtain⟨l1,l2⟩:=zeu c3
 obtain⟨t1,t2⟩:=zhn H ps
 have hs:=C6 g ps
 rw[c8]
 refine⟨zpj h.r h.y F (λs hs=>kf (t1 s hs) ?_) t2 hs c5.1 (by omega) c6 c7,h.y,zr6 h.r h.y h.w c6 (by omega)⟩
 unfold Zq at c4
 have:=oB.1 c4 s hs
 simpa using this
end Go.V.Doc
namespace Go.V
open Go Go.Proofs Tryz
def xN(d x:bR):Bool:=d.f_&&(x.f_&&decide (d.cd=x.cd))
theorem uq{a b:Rf}:a=b↔a.cw=b.cw/\a.bT=b.bT:=by cases a;cases b;simp
def j8(a b:bR):Bool:=if a.cd.cw=b.cd.cw then (if a.cd.bT=b.cd.bT then zP a.pick b.pick else decide (a.cd.bT<b.cd.bT)) else decide (a.cd.cw<b.cd.cw)
def bR.iZ(d:bR):Prop:=d.pick.length<2^62
theorem zlh(a b:bR)(H:a.iZ)(G:b.iZ):aq prog 118 [.agg a.row,.agg b.row] (.bool (j8 a b)):=by
 refine aF func118 ?_
 simp+decide[f118,bR.row,int,j8]
 refine⟨λh F=>absurd F h,λh=>⟨λh2=>?_,λh2=>?_⟩⟩
 .rw[gt h,ge h2]
 .refine zg (Wa a.pick b.pick H G) ?_
  simp[gt h,gt h2]
def cmpD(a b:bR):Int:=if Ha a.cd b.cd=0 then (if zP a.pick b.pick=true then -1 else if zP b.pick a.pick=true then 1 else 0) else Ha a.cd b.cd
def fV(n:Int):Bool:=decide (1<=n)&&decide (n<=1099511627776)
theorem Pm(n:Int):aq prog 117 [int n] (.bool (fV n)):=by
 refine aF func117 ?_
 simp+decide[f117,int,fV]
 omega
def uu{α:Type}(p:α->Bool)(l:List α):Int:=match l.findIdx? p with
 |some k=>k
 |none=>-1
theorem Pn{α:Type}{p:α->Bool}{l:List α}{k:Nat}(h:k<l.length)(H:∀ e∈l.take k,p e=false)(G:p l[k]=true):l.findIdx? p=some k:=by
 rw[oN]
 refine⟨h,G,λj hj=>?_⟩
 have:=H l[j] (by rw[oG];exact⟨j,by omega,rfl⟩)
 simpa using this
theorem Ci{α:Type}{p:α->Bool}{l:List α}(H:∀ e∈l,p e=false):l.findIdx? p=none:=by
 rw[pj];exact H
theorem zli(l:List bR)(G:l.length<2^62)(f:Nat)(aJ:List D)(p:bR->Bool)(F:∀ x∈l,aq prog f (.agg x.row::aJ) (.bool (p x))):
  aq prog 241 [zu l,.fn f aJ] (int (uu p l)):=by
 refine aF func241 ?_
 simp[f241,zu]
 refine cl (λk:Nat=>{n:=19,next:=0,af:=[(0,.d (zu l)),(1,.d (.fn f aJ)),(6,.d (zu l)),(7,.d (.int .i64 l.length)),(8,.d (.int .i64 k))],own:=[]})
  (λk=>k<=l.length/\∀ e∈l.take k,p e=false) (λk=>l.length-k) 0 (by simp) (by simp[zu]) ?_
 intro k ⟨E,K⟩
 by_cases H:k<l.length
 .have e1:l[k]?=some l[k]:=ac H
  simp+decide[zu,bR.row,int,H];refine zE.pure (lent:=false) (by simp[k7,GL];rfl) (F l[k] (nF H)) (by simp) ?_
  simp+decide[aB];refine⟨λh=>?_,λh=>⟨by omega,k+1,⟨H,kW H K h⟩,by omega,by omega⟩⟩
  simp[uu,Pn H K h]
 .obtain rfl:k=l.length:=by omega
  simp+decide[zu,int];simp[uu,Ci (by simpa using K)]
theorem zpk{α:Type}(p:α->Bool)(l:List α):decide (0<=uu p l)=l.any p:=by
 unfold uu
 cases h:l.findIdx? p with
 |none=>
  rw[pj] at h;have:l.any p=false:=by rw[oB];intro x H;rw[h x H];simp
  rw[this];rfl
 |some k=>
  rw[oN] at h;obtain⟨G,F,_⟩:=h;rw[n_.2 ⟨_,nF G,F⟩];simp
theorem zci(l:List bR)(H:l.length<2^62)(f:Nat)(aJ:List D)(p:bR->Bool)(G:∀ x∈l,aq prog f (.agg x.row::aJ) (.bool (p x))):
  aq prog 219 [zu l,.fn f aJ] (.bool (l.any p)):=by
 refine aF func219 ?_
 simp[f219,zu]
 refine zg (zli l H f aJ p G) ?_
 simp[int,<-zpk]
def vg(l:List bR)(k:Nat):Option Int:=match l[k]? with
 |none=>none
 |some d=>if fV d.cd.cw=true then (if fV d.cd.bT=true then (if d.pick.length=0 then some 4 else if d.pick.length>4 then some 11
   else if (decide (0<k)&&match l[k-1]? with | some c=>!j8 c d | none=>false)=true then some 10
   else if (l.take k).any (xN d)=true then some 8 else none) else some 2) else some 2
def uv(l:List bR):Int:=((List.range l.length).findSome? (vg l)).getD 0
theorem Cj{l:List bR}{k:Nat}{e:Int}(h:k<l.length)(G:∀ j,j<k->vg l j=none)(F:vg l k=some e):uv l=e:=by
 unfold uv
 have:(List.range l.length).findSome? (vg l)=some e:=by
  rw[List.findSome?_eq_some_iff];refine⟨List.range k,k,(List.range' (k+1) (l.length-(k+1))),?_,F,λa E=>G a (oc.1 E)⟩
  obtain⟨m,K⟩:∃ m,l.length=k+(1+m):=⟨l.length-(k+1),by omega⟩
  have H:l.length-(k+1)=m:=by omega
  rw[H,K,tJ,tJ,<-Cp,<-Cp];simp
 rw[this];rfl
theorem Po{l:List bR}(H:∀ j,j<l.length->vg l j=none):uv l=0:=by
 unfold uv
 have:(List.range l.length).findSome? (vg l)=none:=by
  rw[t_];intro a G;exact H a (oc.1 G)
 rw[this];rfl
theorem Pq{p:Nat->Prop}{k:Nat}(h:∀ j,j<k->p j)(H:p k):∀ j,j<k+1->p j:=by
 intro j hj
 rcases pe j k with G | G
 .exact h j G
 .obtain rfl:j=k:=(by omega);exact H
def Zt(l:List bR):Prop:=∀ d∈l,d.iZ
theorem Fe(l:List bR)(A:l.length<2^62)(B:Zt l):aq prog 63 [zu l] (int (uv l)):=by
 refine aF func63 ?_
 simp[f63,zu]
 refine cl (λk:Nat=>{n:=74,next:=0,af:=[(0,.d (zu l)),(6,.d (zu l)),(7,.d (.int .i64 l.length)),(8,.d (.int .i64 k))],own:=[]})
  (λk=>k<=l.length/\∀ j,j<k->vg l j=none) (λk=>l.length-k) 0 (by simp) (by simp[zu]) ?_
 intro k ⟨C,I⟩
 by_cases E:k<l.length
 .have e1:l[k]?=some l[k]:=ac E
  have L:=λe=>Cj (e:=e) E I
  simp only[vg,e1] at L;have X:l[k].iZ:=B _ (nF E)
  have Z:∀ e∈l,e.row.length=4:=λe _=>rfl
  simp+decide[zu,bR.row,int,E];refine zg (Pm l[k].cd.cw) ?_
  cases N:fV l[k].cd.cw
  .simp+decide[L 2 (by simp[N])]
  simp+decide
  refine zg (Pm l[k].cd.bT) ?_
  cases P:fV l[k].cd.bT
  .simp+decide[L 2 (by simp[N,P])]
  simp+decide[zh];by_cases S:l[k].pick=[]
  .simp+decide[S,L 4 (by simp[N,P,S])]
  simp+decide[S];by_cases W:l[k].pick.length>4
  .have O:(4:Int)<(l[k].pick.length:Int):=by omega
   have Q:¬(l[k].pick.length:Int)<=4:=by omega
   simp+decide[O,Q,L 11 (by simp[N,P,S,W])]
  have O:¬(4:Int)<(l[k].pick.length:Int):=by omega
  have Q:(l[k].pick.length:Int)<=4:=by omega
  simp+decide[O,Q];by_cases T:0<k
  .have hj:k-1<l.length:=by omega
   have e0:l[k-1]?=some l[k-1]:=ac hj
   have Y:l[k-1].iZ:=B _ (nF hj)
   have M:¬k=0:=by omega
   simp+decide[e0,aB,bR.row,T,M];refine⟨by omega,by omega,bw (zlh l[k-1] l[k] Y X) ?_⟩
   cases h5:j8 l[k-1] l[k]
   .simp+decide[int,L 10 (by simp[N,P,S,W,e0,h5,T])]
   simp+decide[int];have G:(decide (0<k)&&match l[k-1]? with | some c=>!j8 c l[k] | none=>false)=false:=by simp[e0,h5]
   refine cl (λm:Nat=>{n:=74,next:=1,af:=[(0,.d (zu l)),(3,.d (.int .i64 k)),(4,.bp 0 0),(5,.d (.int .i64 m)),(6,.d (zu l)),(7,.d (.int .i64 l.length)),(8,.d (.int .i64 k))],own:=[(0,.box 139 [.d (int l[k].cd.cw),.d (int l[k].cd.bT),.d (.bool l[k].f_),.d (zh l[k].pick)])]})
    (λm=>m<=k/\∀ e∈l.take m,xN l[k] e=false) (λm=>k-m) 0 (by simp) (by simp[zu,int,zh]) ?_
   intro m ⟨hm,hq⟩;by_cases H:m<k
   .have F:m<l.length:=by omega
    have e2:l[m]?=some l[m]:=ac F
    have K:xN l[k] l[m]=true->vg l k=some 8:=by
     intro h;have:(l.take k).any (xN l[k])=true:=n_.2 ⟨l[m],by rw[oG];exact⟨m,by omega,rfl⟩,h⟩
     simp[vg,e1,N,P,S,W,G,this]
    have J:xN l[k] l[m]=false->∀ e∈l.take (m+1),xN l[k] e=false:=λh=>kW F hq h
    cases y1:l[k].f_
    .simp+decide[H,int,aB,zu,zh]
     exact⟨by omega,m+1,⟨H,J (by simp[xN,y1])⟩,by omega,by omega⟩
    .cases y2:l[m].f_
     .simp+decide[H,F,bR.row,int,aB,zu,zh,y2]
      exact⟨by omega,m+1,⟨H,J (by simp[xN,y2])⟩,by omega,by omega⟩
     .simp+decide[H,F,bR.row,int,aB,zu,zh,y2]
      refine⟨λg1 g2=>(Cj E I (K (by simp[xN,y1,y2,uq,g1,g2]))).symm,λg=>⟨by omega,m+1,⟨H,J ?_⟩,by omega,by omega⟩⟩
      simp[xN,y1,y2,uq];exact λe3 e4=>g e3.symm e4.symm
   .obtain rfl:m=k:=by omega
    have V:(l.take m).any (xN l[m])=false:=by rw[oB];intro x hx;rw[hq x hx];simp
    simp+decide[int,aB,zu,zh];refine⟨by omega,m+1,⟨E,Pq I ?_⟩,by omega,by omega⟩
    simp[vg,e1,N,P,S,W,G,V]
  .have M:k=0:=by omega
   simp+decide[M];have G:(decide (0<k)&&match l[k-1]? with | some c=>!j8 c l[k] | none=>false)=false:=by simp[T]
   refine cl (λm:Nat=>{n:=74,next:=1,af:=[(0,.d (zu l)),(3,.d (.int .i64 k)),(4,.bp 0 0),(5,.d (.int .i64 m)),(6,.d (zu l)),(7,.d (.int .i64 l.length)),(8,.d (.int .i64 k))],own:=[(0,.box 139 [.d (int l[k].cd.cw),.d (int l[k].cd.bT),.d (.bool l[k].f_),.d (zh l[k].pick)])]})
    (λm=>m<=k/\∀ e∈l.take m,xN l[k] e=false) (λm=>k-m) 0 (by simp) (by simp[zu,int,zh,M]) ?_
   intro m ⟨hm,hq⟩;by_cases H:m<k
   .have F:m<l.length:=by omega
    have e2:l[m]?=some l[m]:=ac F
    have K:xN l[k] l[m]=true->vg l k=some 8:=by
     intro h;have:(l.take k).any (xN l[k])=true:=n_.2 ⟨l[m],by rw[oG];exact⟨m,by omega,rfl⟩,h⟩
     simp[vg,e1,N,P,S,W,G,this]
    have J:xN l[k] l[m]=false->∀ e∈l.take (m+1),xN l[k] e=false:=λh=>kW F hq h
    cases y1:l[k].f_
    .simp+decide[H,int,aB,zu,zh]
     exact⟨by omega,m+1,⟨H,J (by simp[xN,y1])⟩,by omega,by omega⟩
    .cases y2:l[m].f_
     .simp+decide[H,F,bR.row,int,aB,zu,zh,y2]
      exact⟨by omega,m+1,⟨H,J (by simp[xN,y2])⟩,by omega,by omega⟩
     .simp+decide[H,F,bR.row,int,aB,zu,zh,y2]
      refine⟨λg1 g2=>(Cj E I (K (by simp[xN,y1,y2,uq,g1,g2]))).symm,λg=>⟨by omega,m+1,⟨H,J ?_⟩,by omega,by omega⟩⟩
      simp[xN,y1,y2,uq];exact λe3 e4=>g e3.symm e4.symm
   .obtain rfl:m=k:=by omega
    have V:(l.take m).any (xN l[m])=false:=by rw[oB];intro x hx;rw[hq x hx];simp
    simp+decide[int,aB,zu,zh];refine⟨by omega,m+1,⟨E,Pq I ?_⟩,by omega,by omega⟩
    simp[vg,e1,N,P,S,W,G,V]
 .obtain rfl:k=l.length:=by omega
  simp+decide[zu,int];rw[Po (by simpa using I)]
@[simp] theorem zs8(d:bR):d.row.length=4:=rfl
def qu(l:List bR)(r:Rf):List aG×Bool:=match l.find? (λd=>decide (d.cd=r)&&d.f_) with
 |some d=>(d.pick,true)
 |none=>([],false)
theorem Pv{α:Type}{p:α->Bool}{l:List α}{k:Nat}(h:k<l.length)(H:∀ e∈l.take k,p e=false)(G:p l[k]=true):l.find? p=some l[k]:=by
 rw[rx]
 refine⟨G,k,h,rfl,λj hj=>?_⟩
 have:=H l[j] (by rw[oG];exact⟨j,by omega,rfl⟩)
 simpa using this
theorem Px{α:Type}{p:α->Bool}{l:List α}(H:∀ e∈l,p e=false):l.find? p=none:=by
 rw[ry];intro e G;simpa using H e G
theorem zlj(l:List bR)(r:Rf)(F:l.length<2^62):aq prog 182 [zu l,wO r] (.bE [zr (qu l r).1,.bool (qu l r).2]):=by
 refine aF func182 ?_
 simp[f182,zu,wO,Rf.row,int,Value.oneCell']
 refine cl (λk:Nat=>{n:=26,next:=2,af:=[(3,.bp 0 0),(4,.bp 1 0),(8,.d (zu l)),(9,.d (.int .i64 l.length)),(10,.d (.int .i64 k))],own:=[(0,.box 78 [.d (int r.cw),.d (int r.bT)]),(1,.box 39 [.aW])]})
  (λk=>k<=l.length/\∀ e∈l.take k,(decide (e.cd=r)&&e.f_)=false) (λk=>l.length-k) 0 (by simp) (by simp[zu,int]) ?_
 intro k ⟨E,K⟩
 by_cases H:k<l.length
 .have e1:l[k]?=some l[k]:=ac H
  have G:(decide (l[k].cd=r)&&l[k].f_)=false->∀ e∈l.take (k+1),(decide (e.cd=r)&&e.f_)=false:=λh=>kW H K h
  by_cases g:l[k].cd=r
  .have g':=uq.1 g
   cases y:l[k].f_
   .simp+decide[zu,bR.row,int,H,aB,g'.1,g'.2,y]
    exact⟨by omega,k+1,⟨H,by simpa using G (by simp[y])⟩,by omega,by omega⟩
   .have J:=Pv H K (by simp[g,y])
    simp+decide[zu,bR.row,int,H,g'.1,g'.2,y,qu,J,zr]
  .have g':l[k].cd.cw=r.cw->¬l[k].cd.bT=r.bT:=λa b=>g (uq.2 ⟨a,b⟩)
   by_cases g1:l[k].cd.cw=r.cw
   .have g2:=g' g1
    simp+decide[zu,bR.row,int,H,aB,g1,g2];exact⟨by omega,k+1,⟨H,by simpa using G (by simp[g])⟩,by omega,by omega⟩
   .simp+decide[zu,bR.row,int,H,aB,g1]
    exact⟨by omega,k+1,⟨H,by simpa using G (by simp[g])⟩,by omega,by omega⟩
 .obtain rfl:k=l.length:=by omega
  rw[nH] at K;have J:=Px K;simp+decide[zu,int,qu,J,zr,zh]
theorem zcj(l:List bR)(r:Rf)(F:l.length<2^62):aq prog 33 [zu l,wO r] (.bE [zr (qu l r).1,.bool (qu l r).2]):=by
 refine aF func33 ?_
 simp[f33,zu,wO,Rf.row,int,Value.oneCell']
 refine cl (λk:Nat=>{n:=33,next:=2,af:=[(0,.d (zu l)),(3,.bp 0 0),(4,.bp 1 0),(7,.d (zu l)),(8,.d (.int .i64 l.length)),(9,.d (.int .i64 k))],own:=[(0,.box 78 [.d (int r.cw),.d (int r.bT)]),(1,.box 39 [.aW])]})
  (λk=>k<=l.length/\∀ e∈l.take k,(decide (e.cd=r)&&e.f_)=false) (λk=>l.length-k) 0 (by simp) (by simp[zu,int]) ?_
 intro k ⟨E,K⟩
 by_cases H:k<l.length
 .have e1:l[k]?=some l[k]:=ac H
  have G:(decide (l[k].cd=r)&&l[k].f_)=false->∀ e∈l.take (k+1),(decide (e.cd=r)&&e.f_)=false:=λh=>kW H K h
  by_cases g:l[k].cd=r
  .have g':=uq.1 g
   cases y:l[k].f_
   .simp+decide[zu,bR.row,int,H,aB,g'.1,g'.2,y]
    exact⟨by omega,k+1,⟨H,by simpa using G (by simp[y])⟩,by omega,by omega⟩
   .have J:=Pv H K (by simp[g,y])
    simp+decide[zu,bR.row,int,H,g'.1,g'.2,y,qu,J,zr]
  .have g':l[k].cd.cw=r.cw->¬l[k].cd.bT=r.bT:=λa b=>g (uq.2 ⟨a,b⟩)
   by_cases g1:l[k].cd.cw=r.cw
   .have g2:=g' g1
    simp+decide[zu,bR.row,int,H,aB,g1,g2];exact⟨by omega,k+1,⟨H,by simpa using G (by simp[g])⟩,by omega,by omega⟩
   .simp+decide[zu,bR.row,int,H,aB,g1]
    exact⟨by omega,k+1,⟨H,by simpa using G (by simp[g])⟩,by omega,by omega⟩
 .obtain rfl:k=l.length:=by omega
  rw[nH] at K;have J:=Px K;simp+decide[zu,int,qu,J,zr,zh]
theorem J6{α:Type}{p:α->Bool}{l:List α}{k:Nat}(h:k<l.length):(l.take (k+1)).filter p=(l.take k).filter p++(if p l[k]=true then [l[k]] else []):=by
 rw[bW h,pm]
 congr 1
 simp[rK]
theorem Py{α:Type}(p:α->Bool)(l:List α)(k:Nat):((l.take k).filter p).length<=l.length:=by
 have H:=oz p (l.take k)
 have G:=List.length_take_le k l
 simp only[nR] at H
 omega
theorem zbg{α:Type}{l:List α}{i:Nat}(v:α)(h:i<l.length):(l.set i v).take (i+1)=l.take i++[v]:=by
 have H:i<(l.set i v).length:=by simpa using h
 rw[bW H,Bb]
 congr 1
 apply ro
 intro j
 simp only[og,Cv]
 by_cases hj:j<i
 .rw[gt hj,gt hj,ge (by omega)]
 .rw[ge hj,ge hj]
theorem zew{α:Type}{l:List α}{i j:Nat}(v:α)(h:i<j):(l.set i v).drop j=l.drop j:=by
 apply ro
 intro k
 simp only[oQ,Cv]
 rw[ge (by omega)]
theorem Pz{P:Program}(F:P.follows .mixedOrders=true){id:Nat}{ops:List Oper}{st:St}{Q:DE->St->Prop}(H:ops≠[])(K:yO ops=true)(E:vF ops (ops.length-1)=true)(L:(ops.getLast H).guard=none)
  (G:(st.own.map (·.1)).Nodup) (h:Xz P ops st.next (ops.getLast H) ops.dropLast st (Q .normal)):aT P (.region id ops.toArray true) Q st:=by
 obtain⟨bJ,o,rfl⟩:∃ bJ o,ops=bJ++[o]:=⟨ops.dropLast,ops.getLast H,(su H).symm⟩
 have J:(bJ++[o]).getLast H=o:=by simp
 rw[J] at L h
 rw[By] at h
 refine TD F K ?_ L G h
 simpa using E
def PD(d x:bR):Bool:=decide (cmpD x d=0) || xN d x
theorem zck{a b c:aG}(h:qp a b=true)(H:qp b c=true):qp a c=true:=by
 unfold qp at h H ⊢
 by_cases e1:a.entry=b.entry <;> by_cases e2:b.entry=c.entry <;> by_cases e3:a.bf=b.bf <;> by_cases e4:b.bf=c.bf <;>
  by_cases e5:a.entry=c.entry <;> by_cases e6:a.bf=c.bf <;> simp only[e1,e2,e3,e4,e5,e6,oV,oU,nD] at h H ⊢ <;> first | omega | (simp_all;omega) | simp_all
theorem zcl(a:aG):qp a a=false:=by simp[qp]
theorem PE:∀ {a b c:List aG},zP a b=true->zP b c=true->zP a c=true
 |_,[],_,h,_=>by simp[zP] at h
 |_,_::_,[],_,h=>by simp[zP] at h
 | [],_::_,_::_,_,_=>by simp[zP]
 |x::a,y::b,z::c,h,H=>by
  simp only[zP] at h H ⊢;by_cases e1:x=y
  .subst e1
   rw[gt rfl] at h;by_cases e2:x=z
   .subst e2
    rw[gt rfl] at H ⊢;exact PE h H
   .rw[ge e2] at H ⊢;exact H
  .rw[ge e1] at h
   by_cases e2:y=z
   .subst e2;rw[ge e1];exact h
   .rw[ge e2] at H
    have G:=zck h H;have e3:¬x=z:=by intro e;subst e;rw[zcl] at G;cases G
    rw[ge e3];exact G
theorem zex{a b c:bR}(h:j8 a b=true)(H:j8 b c=true):j8 a c=true:=by
 unfold j8 at h H ⊢
 by_cases e1:a.cd.cw=b.cd.cw
 .by_cases e2:b.cd.cw=c.cd.cw
  .rw[gt e1] at h;rw[gt e2] at H;rw[gt (e1.trans e2)]
   by_cases e3:a.cd.bT=b.cd.bT
   .by_cases e4:b.cd.bT=c.cd.bT
    .rw[gt e3] at h;rw[gt e4] at H;rw[gt (e3.trans e4)]
     exact PE h H
    .rw[ge e4] at H;rw[ge (λe=>e4 (e3.symm.trans e))]
     simp only[nD] at H ⊢;omega
   .rw[ge e3] at h
    simp only[nD] at h;by_cases e4:b.cd.bT=c.cd.bT
    .rw[ge (λe=>e3 (e.trans e4.symm))];simp only[nD];omega
    .rw[ge e4] at H
     simp only[nD] at H;rw[ge (by omega)];simp only[nD];omega
  .rw[ge e2] at H;rw[ge (λe=>e2 (e1.symm.trans e))]
   simp only[nD] at H ⊢;omega
 .rw[ge e1] at h
  simp only[nD] at h;by_cases e2:b.cd.cw=c.cd.cw
  .rw[ge (λe=>e1 (e.trans e2.symm))];simp only[nD];omega
  .rw[ge e2] at H
   simp only[nD] at H;rw[ge (by omega)];simp only[nD];omega
theorem zcm(a:bR):j8 a a=false:=by simp[j8,G8]
theorem zho{l:List bR}{k:Nat}{e:Int}(h:vg l k=some e):e≠0:=by
 unfold vg at h
 split at h
 .cases h
 .repeat' split at h
  all_goals first | (cases h;decide) | cases h
theorem PG{l:List bR}(h:uv l=0):∀ k,k<l.length->vg l k=none:=by
 unfold uv at h
 cases H:(List.range l.length).findSome? (vg l) with
 |none=>
  rw[t_] at H;intro k G;exact H k (oc.2 G)
 |some e=>
  rw[H] at h;obtain⟨k,_,G⟩:=List.exists_of_findSome?_eq_some H;exact absurd h (zho G)
structure AtOk(l:List bR)(k:Nat)(h:k<l.length):Prop where
 cw:fV l[k].cd.cw=true
 bT:fV l[k].cd.bT=true
 ne:l[k].pick.length≠0
 le:l[k].pick.length<=4
 dy:∀ j (hj:j+1=k),j8 (l[j]'(by omega)) l[k]=true
 riv:(l.take k).any (xN l[k])=false
theorem Cm{l:List bR}{k:Nat}(h:k<l.length):vg l k=none↔AtOk l k h:=by
 have e1:l[k]?=some l[k]:=ac h
 constructor
 .intro hc
  unfold vg at hc;rw[e1] at hc;simp only at hc
  by_cases g1:fV l[k].cd.cw=true
  .rw[gt g1] at hc
   by_cases g2:fV l[k].cd.bT=true
   .rw[gt g2] at hc
    by_cases g3:l[k].pick.length=0
    .rw[gt g3] at hc;cases hc
    .rw[ge g3] at hc
     by_cases g4:l[k].pick.length>4
     .rw[gt g4] at hc;cases hc
     .rw[ge g4] at hc
      cases k with
      |zero=>exact⟨g1,g2,g3,by omega,λj hj=>by omega,by simp⟩
      |succ j=>
       have H:j<l.length:=by omega
       have e0:l[j]?=some l[j]:=ac H
       simp only[rz,e0,Nat.zero_lt_succ,decide_true,pK] at hc;by_cases g5:(!j8 l[j] l[j+1])=true
       .rw[gt g5] at hc;cases hc
       .rw[ge g5] at hc
        by_cases g6:(l.take (j+1)).any (xN l[j+1])=true
        .rw[gt g6] at hc;cases hc
        .refine⟨g1,g2,g3,by omega,λj' hj=>?_,by simpa using g6⟩
         have:j'=j:=by omega
         subst this;simpa using g5
   .rw[ge g2] at hc;cases hc
  .rw[ge g1] at hc;cases hc
 .intro⟨F,E,K,J,L,M⟩
  have G:¬l[k].pick.length>4:=by omega
  cases k with
  |zero=>simp only[vg,e1,F,E,K,G,M,oV,oU];simp
  |succ j=>
   have H:j<l.length:=by omega
   have e0:l[j]?=some l[j]:=ac H
   simp only[vg,e1,F,E,K,G,M,oV,oU,rz,e0,L j rfl];simp
def J7(l:List bR):Prop:=l.Pairwise (λa b=>j8 a b=true)
theorem zlk{l:List bR}(h:∀ k (G:k+1<l.length),j8 l[k] l[k+1]=true):J7 l:=by
 unfold J7
 rw[od]
 intro i j hi hj H
 induction j with
 |zero=>omega
 |succ j ih=>
  by_cases e:i=j
  .subst e;exact h i hj
  .exact zex (ih (by omega) (by omega)) (h j hj)
theorem zbh{l:List bR}(h:uv l=0):J7 l:=zlk λk H=>((Cm H).1 (PG h (k+1) H)).dy k rfl
def zut(d:bR)(l:List bR):List bR:=l.filter λx=>!PD d x&&j8 x d
def zuu(d:bR)(l:List bR):List bR:=l.filter λx=>!PD d x && !j8 x d
def xq(l:List bR)(d:bR):List bR:=if uv [d]=0 then zut d l++d::zuu d l else l
theorem zey(x y:bR):xN x y=xN y x:=by
 unfold xN
 have:decide (x.cd=y.cd)=decide (y.cd=x.cd):=by rw[AT];simp[eq_comm]
 rw[this];cases x.f_ <;> cases y.f_ <;> simp
structure mU(x:bR):Prop where
 cw:fV x.cd.cw=true
 bT:fV x.cd.bT=true
 ne:x.pick.length≠0
 le:x.pick.length<=4
theorem zhp(l:List bR):uv l=0↔(∀ x∈l,mU x)/\J7 l/\∀ x∈l,∀ y∈l,x≠y->xN x y=false:=by
 constructor
 .intro h
  have at':=λk (E:k<l.length)=>(Cm E).1 (PG h k E)
  refine⟨λx K=>?_,zbh h,λx K y J H=>?_⟩
  .obtain⟨k,E,rfl⟩:=nT.1 K
   have:=at' k E
   exact⟨this.cw,this.bT,this.ne,this.le⟩
  .obtain⟨i,hi,rfl⟩:=nT.1 K
   obtain⟨j,hj,rfl⟩:=nT.1 J;have key:∀ i j (hi:i<l.length) (hj:j<l.length),i<j->xN l[j] l[i]=false:=by
    intro i j hi hj F;have:=(at' j hj).riv
    rw[oB] at this;have:=this l[i] (by rw[oG];exact⟨i,by omega,rfl⟩)
    simpa using this
   rcases pU i j with L | L | L
   .rw[zey];exact key i j hi hj L
   .subst L;exact absurd rfl H
   .exact key j i hj hi L
 .rintro⟨L,M,O⟩
  refine Po λk E=>(Cm E).2 ?_
  have Q:=L _ (nF E);unfold J7 at M;rw[od] at M;refine⟨Q.cw,Q.bT,Q.ne,Q.le,λj hj=>M j k (by omega) E (by omega),?_⟩
  rw[oB];intro y J;rw[oG] at J;obtain⟨i,hi,rfl⟩:=J;have G:i<l.length:=by omega
  have H:l[k]≠l[i]:=by
   intro e;have:=M i k G E (by omega)
   rw[e,zcm] at this;cases this
  rw[O _ (nF E) _ (nF G) H];simp
def w9(r:Rf)(q:List aG)(d:bR):Bool:=decide (d.cd=r)&&(!d.f_&&decide (d.pick=q))
def kM(l:List bR)(r:Rf)(q:List aG):Bool:=l.any (w9 r q)
theorem zcn(d:bR)(r:Rf)(q:List aG)(H:q.length<2^62):aq prog 220 [.agg d.row,.ptr [int r.cw,int r.bT],.ptr [zh q]] (.bool (w9 r q d)):=by
 refine aF func220 ?_
 have G:=AY d.pick q H
 unfold w9
 by_cases c1:d.cd.cw=r.cw
 .by_cases c2:d.cd.bT=r.bT
  .have c3:d.cd=r:=uq.2 ⟨c1,c2⟩
   cases F:d.f_
   .simp+decide[f220,bR.row,int,c1,c2,c3,F]
    refine zg G ?_
    simp+decide
   .simp+decide[f220,bR.row,int,c1,c2,c3,F]
  .have c3:¬d.cd=r:=λe=>c2 (by rw[e])
   simp+decide[f220,bR.row,int,c1,c2,c3]
 .have c3:¬d.cd=r:=λe=>c1 (by rw[e])
  simp+decide[f220,bR.row,int,c1,c3]
theorem zez(l:List bR)(H:l.length<2^62)(r:Rf)(q:List aG)(G:q.length<2^62):aq prog 218 [zr q,.ptr [zu l],.ptr [int r.cw,int r.bT]] (.bool (kM l r q)):=by
 refine aF func218 ?_
 have F:=zci l H 220 [.ptr [int r.cw,int r.bT],.ptr [zh q]] (w9 r q) (λx _=>zcn x r q G)
 simp+decide[f218,zr,int]
 refine zg F ?_
 simp+decide[kM]
theorem zll(l:List (List aG))(F:l.length<2^62)(f:Nat)(aJ:List D)(p:List aG->Bool)(E:∀ x∈l,aq prog f (zr x::aJ) (.bool (p x))):
  aq prog 240 [zG l,.fn f aJ] (int (uu p l)):=by
 refine aF func240 ?_
 simp[f240,zG]
 refine cl (λk:Nat=>{n:=19,next:=0,af:=[(0,.d (zG l)),(1,.d (.fn f aJ)),(7,.d (.int .i64 l.length)),(8,.d (.int .i64 k))],own:=[]})
  (λk=>k<=l.length/\∀ e∈l.take k,p e=false) (λk=>l.length-k) 0 (by simp) (by simp[zG]) ?_
 intro k ⟨K,J⟩
 by_cases H:k<l.length
 .have e1:l[k]?=some l[k]:=ac H
  have G:=E l[k] (nF H);simp+decide[zG,int,e1,H,aB];refine zE.pure (lent:=false) (by simp[k7,GL,zr]) G (by simp) ?_
  cases h:p l[k]
  .simp+decide[zG,int,aB]
   refine⟨by omega,k+1,⟨H,λe L=>?_⟩,by omega,by omega⟩
   rw[bW H] at L;rcases nM.1 L with M | M
   .exact J e M
   .rw[nQ] at M;rw[M,h]
  .simp+decide[uu,Pn H J h]
 .obtain rfl:k=l.length:=by omega
  rw[nH] at J;simp+decide[zG,int,uu,Ci J]
def eU(q:List aG):List D:=[zh q]
theorem zlm(l:List (List aG))(H:l.length<2^40):eG prog 217 [zG l] 39 1 (l.map eU):=by
 refine lh func217 (by simp[eU]) ?_
 simp[f217,zG,maxLen,eU]
 omega
theorem zhq(l:List (List aG))(hl:l.length<2^62)(f:Nat)(p:List aG->Bool)(L:List bR)(r:Rf)(hf:∀ x∈l,aq prog f [zr x,.ptr [zu L],.ptr [int r.cw,int r.bT]] (.bool (p x))):
  aU prog 216 [.ar 0,.fn f [.bp 1 0,.bp 2 0]] [(0,.aQ 39 1 (l.map eU)),(1,.box 64 [.d (zu L)]),(2,.box 78 [.d (int r.cw),.d (int r.bT)])] 3
   (.d (.sl ((l.filter λq=>!p q).map eU))) 3 [(1,.box 64 [.d (zu L)]),(2,.box 78 [.d (int r.cw),.d (int r.bT)])] []:=by
 refine zac mixed func216 rfl nv [0] (by simp) ?_
 simp[Tryz.f216]
 refine zg (zll l hl f [.ptr [zu L],.ptr [int r.cw,int r.bT]] p hf) ?_
 cases hi:l.findIdx? p with
 |none=>
  rw[pj] at hi;have Z:(l.filter λd=>!p d)=l:=by rw[tQ];intro a ha;rw[hi a ha];rfl
  have E:uu p l = -1:=by simp[uu,Ci hi]
  simp+decide[E,int,Z];done
 |some k=>
  have E:uu p l=k:=by simp[uu,hi]
  rw[oN] at hi;obtain⟨hk,A,Q⟩:=hi;have B:¬(k:Int) = -1:=by omega
  simp+decide[E,int,B,aB];refine⟨by omega,?_⟩
  have C:(l.take (k+1)).filter (λd=>!p d)=l.take k:=by
   rw[J6 hk,tQ.2]
   .simp[A]
   .intro a ha
    rw[oG] at ha;obtain⟨j,hj,rfl⟩:=ha;have:=Q j (by omega)
    simpa using this
  refine cl (λx:Nat×Nat×List (List aG)=>{n:=42,next:=3,ai:=3,af:=[(0,.ar 0),(1,.fn f [.bp 1 0,.bp 2 0]),(5,.d (.int .i64 x.2.1)),(6,.d (.int .i64 x.1))],own:=[(0,.aQ 39 1 (x.2.2.map eU)),(1,.box 64 [.d (zu L)]),(2,.box 78 [.d (int r.cw),.d (int r.bT)])]})
   (λx=>x.2.2.length=l.length/\x.2.1<x.1/\x.1<=l.length/\x.2.2.take x.2.1=(l.take x.1).filter (λd=>!p d)/\x.2.2.drop x.1=l.drop x.1) (λx=>l.length-x.1) (k+1,k,l) (by simp[C];omega) (by simp[int]) ?_
  rintro⟨j,i,cur⟩ ⟨T,I,N,H,dR⟩
  simp only at T I N H dR
  by_cases K:j<l.length
  .have V:j<cur.length:=by omega
   have J:cur[j]=l[j]:=by
    have h1:cur.drop j=cur[j]::cur.drop (j+1):=nY V
    have h2:l.drop j=l[j]::l.drop (j+1):=nY K
    rw[h1,h2] at dR;exact(rJ dR).1
   have G:cur.drop (j+1)=l.drop (j+1):=by
    have:=congrArg (List.drop 1) dR
    rw[tV,tV] at this;exact this
   have e1:cur[j]?=some cur[j]:=ac V
   have F:(j:Int)<cur.length:=by omega
   have P:aq prog f [zr cur[j],.ptr [zu L],.ptr [int r.cw,int r.bT]] (.bool (p l[j])):=by rw[J];exact hf l[j] (nF K)
   simp+decide[F,V,e1,eU,int,aB];refine zg P ?_
   cases hp:p l[j]
   .have X:i<cur.length:=by omega
    have e2:cur[i]?=some cur[i]:=ac X
    simp+decide[X,e2,eU,int,aB];refine⟨by omega,by omega,j+1,i+1,cur.set i cur[j],⟨by simpa using T,by omega,K,?_,?_⟩,by omega,by omega,by simp[sh,eU,int]⟩
    .rw[zbg _ X,J6 K,H,J];simp[hp]
    .rw[zew _ (by omega)];exact G
   .simp+decide[int,aB]
    refine⟨by omega,j+1,i,cur,⟨T,by omega,K,?_,G⟩,by omega,by omega,rfl⟩
    rw[J6 K,H];simp[hp]
  .have hj:j=l.length:=by omega
   subst hj;have F:¬(l.length:Int)<cur.length:=by omega
   have S:¬(i:Int)=(cur.length:Int):=by omega
   have M:(cur.map eU).take i=(l.filter λd=>!p d).map eU:=by
    rw[<-rG,H,nH]
   have Y:((l.filter λd=>!p d).map eU).length=i:=by rw[<-M];simp;omega
   by_cases W:i=0
   .subst W
    have H0:¬(0:Int)=(cur.length:Int):=by omega
    simp+decide[F,int,aB,H0];have O:l.filter (λd=>!p d)=[]:=nZ (by simpa using Y)
    rw[rp] at O;intro a ha;simpa using O a ha
   .have H1:¬(0:Int)=(i:Int):=by omega
    simp+decide[F,int,aB,S,H1];refine⟨by omega,by omega,by omega,?_⟩
    rw[M];rw[gt]
    .congr 2
     rw[o_ (by omega),oa (by omega)]
    .refine⟨by omega,?_⟩
     cases hF:(l.filter λd=>!p d) with
     |nil=>rw[hF] at Y;simp at Y;omega
     |cons c0 cs=>rfl
def j9(g:aj)(r:Rf)(s:ByteArray)(l:List bR):List (List aG)×Int:=if (jr g s).2≠0 then ([],(jr g s).2) else ((jr g s).1.filter λq=>!kM l r q,0)
theorem zpl{g:aj}(H:aH g)(r:Rf)(s:ByteArray)(l:List bR):(j9 g r s l).1.length<=200/\∀ q∈(j9 g r s l).1,q.length<=4:=by
 have h:=C3 H s
 unfold j9
 split
 .exact⟨nU _,λq G=>by cases G⟩
 .exact⟨oC (oz ..) h.1,λq G=>h.2 q (oA.1 G).1⟩
theorem zhr(g:aj)(G:aH g)(F:bC g)(r:Rf)(s:ByteArray)(hs:s.size<=1024)(l:List bR)(E:l.length<2^40):
  aq prog 183 [g.d,wO r,.str s,zu l] (.bE [zG (j9 g r s l).1,int (j9 g r s l).2]):=by
 have K:=zr0 g G F s hs
 have H:=C3 G s
 unfold j9
 generalize jr g s=z at *
 obtain⟨O,e⟩:=z
 simp only at K H ⊢
 refine aF func183 ?_
 simp+decide[f183,aj.d,zj,int,wO,Rf.row]
 refine zg K ?_
 by_cases J:e=0
 case neg=>simp+decide[int,zG,J]
 subst J
 simp+decide[int]
 refine zE.im (by rfl) (zlm O (by omega)) (by simp) ?_
 simp+decide[int]
 refine zE.mut [4,2,1] [.ar 0,.fn 218 [.bp 1 0,.bp 2 0]] [(0,.aQ 39 1 (O.map eU)),(1,.box 64 [.d (zu l)]),(2,.box 78 [.d (int r.cw),.d (int r.bT)])] (by rfl) (by simp) (by simp) (by simp[int];rfl)
  (zhq O (by omega) _ (kM l r) l r (λx L=>zez l (by omega) r x (by have:=H.2 x L;omega))) ?_
 simp+decide[int,zG,eU]
structure fl where
 cd:Rf
 kind:Int
 pick:List aG
 deriving DecidableEq
def fl.d(x:fl):D:=.agg [int x.cd.cw,int x.cd.bT,int x.kind,zh x.pick]
def Yk(g:aj)(r:Rf)(s:ByteArray)(l:List bR):fl:=
 if (qu l r).2=true then
  (if (yZ g.bt.au s).2.2=0/\jh g (yZ g.bt.au s).1 (qu l r).1=true then ⟨r,4,(qu l r).1⟩ else ⟨r,5,(qu l r).1⟩)
 else if (j9 g r s l).2=11\/1<(j9 g r s l).1.length then ⟨r,3,[]⟩
 else if (j9 g r s l).2≠0 then ⟨r,0,[]⟩
 else match (j9 g r s l).1 with
  | []=>⟨r,1,[]⟩
  |q::_=>⟨r,2,q⟩
theorem zln(g:aj)(K:aH g)(J:bC g)(r:Rf)(s:ByteArray)(hs:s.size<=1024)(l:List bR)(L:l.length<2^40)(M:(qu l r).1.length<2^20):
  aq prog 124 [g.d,wO r,.str s,zu l] (Yk g r s l).d:=by
 have Q:=zhr g K J r s hs l L
 have T:=zlj l r (by omega)
 have V:=C2 g.bt J.bt K.fG s hs
 have X:=Qk g.bt.au s
 have F:=EK g (K.kJ J).toLangOk (yZ g.bt.au s).1 (by omega) (qu l r).1 M
 unfold Yk
 have E:decide ((qj g (qu l r).1).2=0/\(qj g (qu l r).1).1=(yZ g.bt.au s).1)=jh g (yZ g.bt.au s).1 (qu l r).1:=rfl
 rw[E] at F
 generalize jh g (yZ g.bt.au s).1 (qu l r).1=ng at *
 generalize qu l r=pk at *
 obtain⟨P,ok⟩:=pk
 generalize yZ g.bt.au s=z at *
 obtain⟨W,ap,e⟩:=z
 generalize j9 g r s l=c at *
 obtain⟨O,f⟩:=c
 simp only at *
 refine aF func124 ?_
 simp+decide[f124,aj.d,zj,int,wO,Rf.row]
 refine zg T ?_
 cases ok with
 |true=>
  simp+decide[int,zr];refine zg V ?_
  by_cases Y:e=0
  case neg=>simp+decide[int,aa,zr,Y,fl.d]
  subst Y;simp+decide[int,aa,zr];refine zg F ?_
  cases ng <;> simp+decide[int,aa,zr,fl.d]
 |false=>
  simp+decide[int,zr];refine zg Q ?_
  by_cases G:f=11
  .simp+decide[int,zG,zh,G,fl.d]
  by_cases Z:1<O.length
  .have H:(1:Int)<O.length:=by omega
   simp+decide[int,zG,zh,G,Z,H,fl.d]
  have H:¬(1:Int)<O.length:=by omega
  by_cases A:f=0
  case neg=>simp+decide[int,zG,zh,G,Z,H,A,fl.d]
  subst A;match O,Z,H with
  | [],_,_=>simp+decide[int,zG,zh,fl.d]
  | [q],_,_=>
   simp+decide[int,zG,zh,fl.d];refine Pz mixed (by simp) (by rfl) (by rfl) (by rfl) (by simp) ?_
   simp+decide[int,zG,zh,fl.d]
  |_::_::_,h,_=>simp at h
theorem zbi(l:List bR)(K:l.length<2^62)(J:Zt l)(r:Rf)(q:List aG)(L:q.length<2^62):aq prog 223 [zu l,wO r,zr q] (.bool (kM l r q)):=by
 refine aF func223 ?_
 simp[f223,zu,wO,Rf.row,int,zr]
 refine cl (λk:Nat=>{n:=38,next:=2,af:=[(0,.d (zu l)),(4,.bp 0 0),(5,.bp 1 0),(9,.d (.int .i64 l.length)),(10,.d (.int .i64 k))],own:=[(0,.box 78 [.d (int r.cw),.d (int r.bT)]),(1,.box 39 [.d (zh q)])]})
  (λk=>k<=l.length/\∀ d∈l.take k,w9 r q d=false) (λk=>l.length-k) 0 (by simp) (by simp[zu,int,zh]) ?_
 intro k ⟨M,O⟩
 by_cases G:k<l.length
 .obtain⟨d,ed,e1⟩:=bN G
  have E:=J l[k] (nF G);rw[ed] at E;have Q:=ziu d.pick q E L;have aI:=bW G;rw[ed] at aI;have F:w9 r q d=false->∀ x∈l.take (k+1),w9 r q x=false:=by
   intro h x T;rw[aI] at T;rcases nM.1 T with V | V
   .exact O x V
   .rw[nQ] at V;rw[V,h]
  by_cases c1:d.cd.cw=r.cw
  .by_cases c2:d.cd.bT=r.bT
   .have c3:d.cd=r:=uq.2 ⟨c1,c2⟩
    cases X:d.f_
    .simp+decide[zu,bR.row,int,aB,G,ed,e1,c1,c2,X]
     refine bw Q ?_
     by_cases c4:d.pick=q
     .have H:kM l r q=true:=n_.2 ⟨d,by rw[<-ed];exact nF G,by simp[w9,c3,X,c4]⟩
      simp+decide[c4,H]
     .have H:w9 r q d=false:=by simp[w9,c3,X,c4]
      simp+decide[c4,zu,int,aB];exact⟨by omega,k+1,⟨G,F H⟩,by omega,by omega⟩
    .have H:w9 r q d=false:=by simp[w9,c3,X]
     simp+decide[zu,bR.row,int,aB,G,ed,e1,c1,c2,X];exact⟨by omega,k+1,⟨G,F H⟩,by omega,by omega⟩
   .have H:w9 r q d=false:=by simp[w9,uq,c2]
    simp+decide[zu,bR.row,int,aB,G,ed,e1,c1,c2];exact⟨by omega,k+1,⟨G,F H⟩,by omega,by omega⟩
  .have H:w9 r q d=false:=by simp[w9,uq,c1]
   simp+decide[zu,bR.row,int,aB,G,ed,e1,c1];exact⟨by omega,k+1,⟨G,F H⟩,by omega,by omega⟩
 .obtain rfl:k=l.length:=by omega
  rw[nH] at O;have H:kM l r q=false:=by
   unfold kM;rw[oB];intro x T;rw[O x T];simp
  simp+decide[zu,int,H]
theorem zaj(g:aj)(L:aH g)(M:bC g)(r:Rf)(s:ByteArray)(hs:s.size<=1024)(l:List bR)(Q:l.length<2^40)(T:Zt l):
  aq prog 185 [g.d,wO r,.str s,zu l] (zG (j9 g r s l).1):=by
 have V:=VC g L M s hs
 have E:=C3 L s
 unfold j9
 generalize jr g s=z at *
 obtain⟨O,e⟩:=z
 simp only at V E ⊢
 refine aF func185 ?_
 simp+decide[f185,aj.d,zj,int,wO,Rf.row]
 refine zg V ?_
 by_cases X:e=0
 case neg=>simp+decide[int,zG,X]
 subst X
 simp+decide[int,zG]
 refine xP (λk:Nat=>{n:=43,next:=4,af:=[(3,.d (zu l)),(5,.bp 1 0),(9,.d (zG O)),(11,.ar 3),(21,.d (zG O)),(22,.d (int O.length)),(23,.d (int k))],own:=[(1,.box 78 [.d (int r.cw),.d (int r.bT)]),(3,.aQ 39 1 (((O.take k).filter λq=>!kM l r q).map eU))],aA:=[3]}) O.length ?_ ?_
 .simp+decide[int,zG,zu]
 intro k Y
 refine cy ?_
 by_cases H:k<O.length
 case neg=>
  obtain rfl:k=O.length:=by omega
  rw[nH];simp+decide[int,zG,zu,eU]
 have G:=bG H
 obtain⟨q,eq,e1⟩:=bN H
 have K:=E.2 O[k] (nF H)
 rw[eq] at K
 have Z:=zbi l (by omega) T r q (by omega)
 have F:=J6 (p:=λq=>!kM l r q) H
 rw[eq] at F
 have J:=Py (λq=>!kM l r q) O k
 cases A:kM l r q with
 |true=>
  rw[A] at Z F;simp only[tF,ou,oU,oq] at F;simp+decide[int,zG,zu,H,G,eq,e1,aB];refine bw Z ?_
  simp+decide[int,zG,zu,H,G,eq,e1,aB];exact⟨by omega,k+1,H,by omega,by omega,by rw[F]⟩
 |false=>
  rw[A] at Z F;simp only[sO,oV] at F;generalize (O.take k).filter (λq=>!kM l r q)=W at F J
  simp+decide[int,zG,zu,H,G,eq,e1,aB];refine bw Z ?_
  simp+decide[int,zG,zu,H,G,eq,e1,aB];exact⟨by omega,by unfold maxLen;omega,by omega,k+1,H,by omega,by omega,by rw[F];simp[eU]⟩
theorem zco(g:aj)(K:aH g)(J:bC g)(r:Rf)(s:ByteArray)(hs:s.size<=1024)(l:List bR)(L:l.length<2^40)(M:Zt l)(Q:(qu l r).1.length<2^20):
  aq prog 127 [g.d,wO r,.str s,zu l] (Yk g r s l).d:=by
 have T:=zaj g K J r s hs l L M
 have V:=VC g K J s hs
 have X:=zcj l r (by omega)
 have Y:=DY g.bt J.bt K.fG s hs
 have Z:=Qk g.bt.au s
 have G:=GG g (K.kJ J) (yZ g.bt.au s).1 (by omega) (qu l r).1 Q
 have F:(j9 g r s l).2=(jr g s).2:=by
  unfold j9;split
  .rfl
  .rename_i h;exact(sJ.1 h).symm
 have E:(jr g s).2≠0->(j9 g r s l).1=[]:=λh=>by unfold j9;rw[gt h]
 unfold Yk
 rw[F]
 generalize jh g (yZ g.bt.au s).1 (qu l r).1=ng at *
 generalize qu l r=pk at *
 obtain⟨P,ok⟩:=pk
 generalize yZ g.bt.au s=z at *
 obtain⟨W,ap,e⟩:=z
 generalize j9 g r s l=c at *
 obtain⟨C,f'⟩:=c
 generalize jr g s=y at *
 obtain⟨O,f⟩:=y
 simp only at *
 refine aF func127 ?_
 simp+decide[f127,aj.d,zj,int,wO,Rf.row]
 refine zg X ?_
 cases ok with
 |true=>
  simp+decide[int,zr];refine zg Y ?_
  by_cases A:e=0
  case neg=>simp+decide[int,aa,zr,A,fl.d]
  subst A;simp+decide[int,aa,zr];refine zg G ?_
  cases ng <;> simp+decide[int,aa,zr,fl.d]
 |false=>
  simp+decide[int,zr];refine zg V ?_
  by_cases H:f=11
  .simp+decide[int,zG,zh,H,fl.d]
  by_cases B:f=0
  case neg=>
   have I:C=[]:=E B
   subst I;simp+decide[int,zG,zh,H,B,fl.d]
  subst B;simp+decide[int,zG];refine zg T ?_
  match C with
  | []=>simp+decide[int,zG,zh,fl.d]
  | [q]=>
   simp+decide[int,zG,zh,fl.d];refine Pz mixed (by simp) (by rfl) (by rfl) (by rfl) (by simp) ?_
   simp+decide[int,zG,zh,fl.d]
  |a::b::t=>
   have N:¬((t.length:Int)+1+1=0):=by omega
   have S:¬((t.length:Int)+1+1=1):=by omega
   simp+decide[int,zG,zh,fl.d,N,S]
structure Wrd where
 g:aj
 cd:Rf
 s:ByteArray
 l:List bR
def Wrd.cells(x:Wrd):List D:=(match x.g.d with | .agg cs=>cs | _=>[])++[int x.cd.cw,int x.cd.bT,.str x.s,zu x.l]
def Wrd.d(x:Wrd):D:=.agg x.cells
theorem CB{l:List bR}{r:Rf}{n:Nat}(h:∀ d∈l,d.pick.length<=n):(qu l r).1.length<=n:=by
 unfold qu
 split
 .rename_i d H;exact h d (qv H)
 .exact nU _
theorem zhs{g:aj}(H:aH g){r:Rf}{s:ByteArray}{l:List bR}{n:Nat}(G:4<=n)(h:∀ d∈l,d.pick.length<=n):(Yk g r s l).pick.length<=n:=by
 have F:=CB (r:=r) h
 have E:=(zpl H r s l).2
 unfold Yk
 split
 .split <;> exact F
 .split
  .exact nU _
  .split
   .exact nU _
   .split
    .exact nU _
    .rename_i q t K
     have:=E q (by rw[K];exact nL ..)
     exact oC this G
end Go.V
namespace Go.V.Doc
open Go Go.Proofs Tryz
def wW(d:Dc)(w:Int):List ByteArray×List ByteArray:=if XY d w=true then ((yy d w 3).map (vz d),(yy d w 3).map λm=>gK d (yy d m 4)) else ([],[])
theorem PH(d:Dc)(w:Int)(H:Fw d)(G:d.al.length<2^62):
  aq prog 18 [zn d,int w] (.bE [yC (wW d w).1,yC (wW d w).2]):=by
 have h:=zn3 d w H G
 unfold wW
 split at h <;> rename_i c
 .rw[gt c];exact h
 .rw[ge c];exact h
theorem zht{d:Dc}(E:b_ d)(w:Int)(K:Fw d)(J:d.al.length<2^62):
  aq prog 19 [zn d,int w] (.bE [yC (wW d w).1,yC (wW d w).2]):=by
 have F:=XZ d w 3 K
 have h:=zdv d E.w w J (by rw[FR E];omega)
 rw[FR E] at h
 have H:(yl d&&yB d w)=XY d w:=by unfold XY;rw[Bool.and_comm]
 rw[H] at h
 unfold wW
 split at h <;> rename_i c
 .rw[gt c]
  have G:yl d=true:=by unfold XY at c;rw[nI] at c;exact c.2
  have heq:(yy d w 3).map (λm=>VF d (kE d m 4))=(yy d w 3).map (λm=>gK d (yy d m 4)):=by
   apply pD;intro m _;rw[FR E];exact(zjo (zjn E G m)).symm
  rw[heq] at h;exact h
 .rw[ge c];exact h
theorem PI(d:Dc)(w:Int)(G:Fw d):(wW d w).1.length<20/\(wW d w).2.length<20:=by
 have H:=XZ d w 3 G
 unfold wW
 split
 .simp only[om];omega
 .simp
theorem PK(a b:List ByteArray)(E:b.length<2^62):aq prog 125 [yC a,yC b] (.bool (decide (a=b))):=by
 refine aF func125 ?_
 simp[Tryz.f125,yC]
 refine⟨λh e=>h (by rw[e]),λh=>?_⟩
 refine cl (λk:Nat=>{n:=26,next:=0,af:=[(0,.d (yC a)),(1,.d (yC b)),(12,.d (.int .i64 a.length)),(13,.d (.int .i64 k))],own:=[]})
  (λk=>k<=a.length/\a.take k=b.take k) (λk=>a.length-k) 0 (by simp) (by simp[yC]) ?_
 intro k ⟨K,J⟩
 have h:a.length=b.length:=by omega
 by_cases G:k<a.length
 .have e1:a[k]?=some a[k]:=ac G
  have e2:b[k]?=some (b[k]'(by omega)):=ac (by omega)
  have H:k<b.length:=by omega
  simp+decide[yC,int,e1,e2,G,H,aB];refine⟨λF e=>by subst e;simp at F,λh1=>⟨by omega,k+1,⟨G,?_⟩,by omega,by omega⟩⟩
  rw[bW G,bW H,J,h1]
 .obtain rfl:k=a.length:=by omega
  simp+decide[yC];rw[nH,h,nH] at J;exact J
theorem KE(a b:List ByteArray)(E:a.length<2^62)(K:b.length<2^62):aq prog 16 [yC a,yC b] (.bool (decide (a=b))):=by
 refine aF func16 ?_
 by_cases h:a.length=b.length
 case neg=>
  have F:a≠b:=λe=>h (by rw[e])
  have J:¬(a.length:Int)=b.length:=by omega
  simp+decide[f16,yC,int,h,J,F]
 simp+decide[f16,yC,int,h]
 refine cl (λk:Nat=>{n:=26,next:=0,af:=[(0,.d (yC a)),(1,.d (yC b)),(5,.d (int k))],own:=[]})
  (λk=>k<=a.length/\a.take k=b.take k) (λk=>a.length-k) 0 (by simp) (by simp[yC,int]) ?_
 intro k ⟨L,M⟩
 by_cases G:k<a.length
 .have e1:a[k]?=some a[k]:=ac G
  have e2:b[k]?=some (b[k]'(by omega)):=ac (by omega)
  have H:k<b.length:=by omega
  simp+decide[yC,int,e1,e2,G,H,aB];refine⟨λF e=>by subst e;simp at F,λh1=>⟨by omega,k+1,⟨G,?_⟩,by omega,by omega⟩⟩
  rw[bW G,bW H,M,h1]
 .obtain rfl:k=a.length:=by omega
  have H:¬a.length<b.length:=by omega
  simp+decide[yC,int,H];rw[nH,h,nH] at M;exact M
def uV(d:Dc)(g:aj)(w:Int)(q:List aG):Bool:=decide ((yA g q).2.2=0/\(yA g q).1=(wW d w).1/\(yA g q).2.1=(wW d w).2)
theorem PL(d:Dc)(w:Int)(F:Fw d)(E:d.al.length<2^62)(g:aj)(K:aH g)(J:bC g)(q:List aG)(L:q.length<2^20):
  aq prog 74 [zn d,g.d,int w,zr q] (.bool (uV d g w q)):=by
 refine aF func74 ?_
 have M:=OO g K J q L
 have O:=PH d w F E
 obtain⟨H,G⟩:=PI d w F
 unfold uV
 generalize yA g q=z at *
 obtain⟨x,y,e⟩:=z
 generalize wW d w=s at *
 obtain⟨u,v⟩:=s
 simp only at *
 have Q:=PK x u (by omega)
 have T:=PK y v (by omega)
 simp+decide[f74,zn,Dc.row,int,aj.d,zj,zr]
 refine zg M ?_
 simp+decide[int,yn,zn,Dc.row]
 refine zg O ?_
 by_cases V:e=0
 case neg=>simp+decide[int,yC,V]
 subst V
 simp+decide[int,yC]
 refine zg Q ?_
 by_cases X:x=u
 case neg=>simp+decide[int,X]
 simp+decide[int,X]
 refine zg T ?_
 simp+decide[int]
def yL(d:Dc)(g:aj)(l:List bR)(w:Int):fl:=Yk g ⟨d.id,w⟩ (vz d w) l
theorem PN{d:Dc}(h:b_ d)(g:aj)(G:aH g)(F:bC g)(l:List bR)(E:l.length<2^40)(K:∀ x∈l,x.pick.length<=4)(w:Int):
  aq prog 73 [zn d,g.d,zu l,int w] (yL d g l w).d:=by
 have H:=h.cW
 refine aF func73 ?_
 have J:=YM d w (by omega)
 have L:=zln g G F ⟨d.id,w⟩ (vz d w) (eZ h w) l E (rP (CB K) (by omega))
 simp+decide[f73,zn,Dc.row,int,aj.d,zj,zu]
 refine zg J ?_
 simp+decide[int,cb,Nt.row,aj.d,zj]
 refine zg L ?_
 simp+decide[int,fl.d,yL]
theorem zpm{d:Dc}(h:b_ d)(g:aj)(G:aH g)(F:bC g)(l:List bR)(E:l.length<2^40)(K:Zt l)(J:∀ x∈l,x.pick.length<=4)(w:Int):
  aq prog 76 [zn d,g.d,zu l,int w] (yL d g l w).d:=by
 have H:=h.cW
 refine aF func76 ?_
 have L:=WN d w (by omega)
 have M:=zco g G F ⟨d.id,w⟩ (vz d w) (eZ h w) l E K (rP (CB J) (by omega))
 simp+decide[f76,zn,Dc.row,int,aj.d,zj,zu]
 refine Z8 mixed 11 [2] (by rfl) (by rfl) (by rfl) (by rfl) (by simp) ?_
 simp+decide[zn,Dc.row,int,aj.d,zj,zu]
 refine bw L ?_
 simp+decide[int,aj.d,zj]
 refine bw M ?_
 simp+decide[int,fl.d,yL]
def ztn(d:Dc)(g:aj)(l:List bR)(w:Int):Bool:=decide ((yL d g l w).kind=4)&&uV d g w (yL d g l w).pick
theorem zhu{d:Dc}(K:b_ d)(w:Int)(J:Fw d)(L:d.al.length<2^62)(g:aj)(M:aH g)(O:bC g)(s:fl)(Q:s.pick.length<2^20):
  aq prog 77 [zn d,g.d,s.d,int w] (.bool (decide (s.kind=4)&&uV d g w s.pick)):=by
 refine aF func77 ?_
 obtain⟨r,k,q⟩:=s
 simp only at Q
 have T:=OP g M O q Q
 have V:=zht K w J L
 have G:=C4 g q
 obtain⟨F,E⟩:=PI d w J
 unfold uV
 generalize yA g q=z at *
 obtain⟨x,y,e⟩:=z
 generalize wW d w=s at *
 obtain⟨u,v⟩:=s
 simp only at *
 have X:=KE u x (by omega) (by omega)
 have Y:=KE v y (by omega) (by omega)
 simp+decide[f77,zn,Dc.row,int,aj.d,zj,fl.d]
 refine zg V ?_
 simp+decide[int,yC,aj.d,zj]
 refine zg T ?_
 by_cases Z:k=4
 case neg=>simp+decide[int,yn,yC,Z]
 subst Z
 by_cases A:e=0
 case neg=>simp+decide[int,yn,yC,A]
 subst A
 simp+decide[int,yn,yC]
 refine zg X ?_
 by_cases B:u=x
 case neg=>
  have H:¬x=u:=λe=>B e.symm
  simp+decide[int,B,H]
 subst B
 simp+decide[int]
 refine zg Y ?_
 simp+decide[int]
 exact eq_comm
def vB(d:Dc)(g:aj)(l:List bR)(w:Int):Bool:=decide (0<(yy d w 3).length) && !ztn d g l w
def qW(d:Dc):List Int:=zH (qP d (zy d.al 2).toNat)
def KF(d:Dc)(g:aj)(l:List bR):List Int:=if yl d=true then qQ ((qW d).filter (vB d g l)) else []
theorem Qo{d:Dc}(h:yl d=true):∃ t:Nat,zy d.al 2=t/\t<d.al.length:=by
 unfold yl at h
 simp only[nI,nD] at h
 have H:=h.1
 unfold zy at H ⊢
 rw[ge (by decide)] at H ⊢
 obtain⟨t,et,G,_⟩:=FQ H
 exact⟨t,et,G⟩
theorem KG{d:Dc}(h:fa d)(H:yl d=true):(qW d).Nodup/\(qW d).length<=d.ae.length:=by
 obtain⟨t,et,G⟩:=Qo H
 unfold qW zH
 rw[et,om]
 refine⟨?_,FC h G⟩
 have F:=(FB h G).map (·.id)
 refine F.nodup_iff.2 ?_
 unfold zX
 have:=(h.li.sublist (oX (l:=d.ae) (p:=λn=>decide (n.aZ=((t:Int).toNat:Int)))))
 rw[qi,rq]
 exact this.imp λhab e=>by omega
def qJ(g:aj):List ah:=[.d (zL g.inv),.d (.str g.bt.name),.d (zJ g.bt.au),.d (wK g.bt.cA),.d (yF g.ba),.d (int g.bM.az),.d (bk g.bM.aw),.d (aa g.bM.aS),.d (zm g.aM)]
def wX(d:Dc):List ah:=[.d (int (zy d.al 2)),.d (int (zy d.al 3)),.d (int (zy d.al 4))]
theorem CG{g:aj}(H:aH g)(d:Dc){l:List bR}(G:∀ x∈l,x.pick.length<=4)(w:Int):(yL d g l w).pick.length<2^20:=
 rP (zhs H (nJ 4) G) (by omega)
theorem PO{d:Dc}(h:b_ d)(C:Fw d)(I:d.al.length<2^62)(g:aj)(N:aH g)(P:bC g)(l:List bR)(V:l.length<2^40)(S:∀ x∈l,x.pick.length<=4):
  aq prog 30 [zn d,g.d,zu l] (aa (KF d g l)):=by
 have X:=h.cW
 have Y:=YW d I
 have Z:=YU d I
 refine aF func30 ?_
 unfold KF
 simp+decide[f30,zn,Dc.row,int,aj.d,zj,zu]
 refine zg Y ?_
 cases W:yl d with
 |false=>simp+decide[aa]
 |true=>
  obtain⟨t,et,A⟩:=Qo W;have hO:=Ic h.w C t A;rw[show zH (qP d t)=qW d by unfold qW;rw[et];rfl,<-et] at hO
  obtain⟨Q,B⟩:=KG h.w W;simp+decide[int];refine zg Z ?_
  simp+decide[ud,int];refine zg hO ?_
  generalize qW d=ws at Q B ⊢;simp+decide[int,aa];refine xP (λk:Nat=>{n:=59,next:=5,af:=[(2,.d (zu l)),(3,.bp 0 0),(4,.bp 1 0),(7,.bp 3 0),(8,.ar 4),(20,.d (aa ws)),(21,.d (int ws.length)),(22,.d (int k))],own:=[(0,.box 53 (zO d)),(1,.box 36 (qJ g)),(3,.box 112 (wX d)),(4,.aQ 3 1 (Q7 ((ws.take k).filter (vB d g l))))],aA:=[4]}) ws.length ?_ ?_
  .simp+decide[int,aa,zO,qJ,wX,zu]
  intro k hk;refine cy ?_
  by_cases E:k<ws.length
  case neg=>
   obtain rfl:k=ws.length:=by omega
   rw[nH];have T:=oz (vB d g l) ws;have hN:=IA (ws.filter (vB d g l)) (by omega) (Q.sublist oX)
   generalize ws.filter (vB d g l)=F at hN ⊢;simp+decide[int,aa];refine zE.V8 (by rfl) hN ?_
   simp+decide[int,aa]
  have M:=bG E;obtain⟨w,ew,e1⟩:=bN E;have hS:=PN h g N P l V S w;have hK:=YS d w (zy d.al 3) C;have L:=PL d w C I g N P (yL d g l w).pick (CG N d S w);rw[show zH (yT d w (zy d.al 3))=yy d w 3 from rfl] at hK
  have H:=J6 (p:=vB d g l) E;rw[ew] at H;have T:=Py (vB d g l) ws k;have hb:vB d g l w=(decide (0<(yy d w 3).length) && !(decide ((yL d g l w).kind=4)&&uV d g w (yL d g l w).pick)):=rfl
  rw[hb] at H;clear hb;generalize (ws.take k).filter (vB d g l)=F at H T;generalize hF:(ws.take (k+1)).filter (vB d g l)=F' at H;generalize uV d g w (yL d g l w).pick=sb at L H;generalize yL d g l w=st at hS L H;obtain⟨r,kd,q⟩:=st;generalize yy d w 3=K at hK H;simp only at L H
  simp+decide[int,aa,zO,qJ,wX,zu,E,M,ew,e1,aB];refine zg hS ?_
  simp+decide[int,aa,fl.d];refine zE.V8 (by rfl) hK ?_
  by_cases J:0<K.length
  case neg=>
   have G:K.length=0:=by omega
   simp[J] at H;subst H;simp+decide[int,aa,J,G,aB];exact⟨by omega,k+1,E,by omega,by omega,by rw[hF]⟩
  have G:¬K.length=0:=by omega
  by_cases O:kd=4
  case neg=>
   simp[J,O] at H;subst H;simp+decide[int,aa,J,G,O,aB];exact⟨by omega,by unfold maxLen;omega,by omega,k+1,E,by omega,by omega,by rw[hF];simp[int]⟩
  subst O;simp+decide[int,aa,J,G,aB];refine zg L ?_
  cases sb with
  |true=>
   simp[J] at H;subst H;simp+decide[int,aa,aB];exact⟨by omega,k+1,E,by omega,by omega,by rw[hF]⟩
  |false=>
   simp[J] at H;subst H;simp+decide[int,aa,aB];exact⟨by omega,by unfold maxLen;omega,by omega,k+1,E,by omega,by omega,by rw[hF];simp[int]⟩
def CJ(d:Dc)(g:aj)(l:List bR)(n:Nt):Bool:=yB d n.id&&vB d g l n.id
def KH(d:Dc)(g:aj)(l:List bR):List Int:=if yl d=true then (d.ae.filter (CJ d g l)).map (·.id) else []
theorem PP:∀ {a b:List Int},a.Pairwise (· < ·)->b.Pairwise (· < ·)->(∀ x,x∈a↔x∈b)->a=b
 | [],[],_,_,_=>rfl
 | [],y::b,_,_,h=>by have:=(h y).2 nL;cases this
 |x::a,[],_,_,h=>by have:=(h x).1 nL;cases this
 |x::a,y::b,E,K,h=>by
  have H:=pM.1 E;have G:=pM.1 K;have F:x=y:=by
   rcases nE.1 ((h x).1 nL) with e | e
   .exact e
   .rcases nE.1 ((h y).2 nL) with e2 | e2
    .exact e2.symm
    .have:=G.1 x e;have:=H.1 y e2;omega
  subst F;rw[PP H.2 G.2 λz=>?_]
  constructor
  .intro J
   rcases nE.1 ((h z).1 (nG _ J)) with e | e
   .have:=H.1 z J;omega
   .exact e
  .intro J
   rcases nE.1 ((h z).2 (nG _ J)) with e | e
   .have:=G.1 z J;omega
   .exact e
theorem zlo{l:List Int}(H:l.Nodup):(qQ l).Pairwise (· < ·):=by
 have hs:(qQ l).Pairwise λa b=>decide (a<=b)=true:=xz (λa b c G F=>by simp only[nD] at *;omega) (λa b=>by simp only[oS,nD];omega) l
 have E:(qQ l).Nodup:=(VM l).nodup_iff.2 H
 rw[qi] at E
 exact(hs.and E).imp λh=>by have:=w_ h.1;have:=h.2;omega
theorem PQ{d:Dc}(h:b_ d)(g:aj)(l:List bR):KF d g l=KH d g l:=by
 unfold KF KH
 cases G:yl d with
 |false=>rfl
 |true=>
  rw[gt rfl,gt rfl];obtain⟨t,et,F⟩:=Qo G;obtain⟨H,_⟩:=KG h.w G;refine PP (zlo (H.sublist oX)) ?_ λx=>?_
  .rw[rq]
   exact h.w.li.sublist oX
  .rw[(VM _).mem_iff,oA,nS]
   unfold qW zH;rw[et,nS];constructor
   .rintro⟨⟨n,E,rfl⟩,K⟩
    have J:=(gI h.w t F n).1 E;refine⟨n,oA.2 ⟨J.1,?_⟩,rfl⟩
    unfold CJ;rw[K,Bool.and_true];unfold yB;rw[ua h J.1];simp[et,J.2]
   .rintro⟨n,E,rfl⟩
    obtain⟨E,K⟩:=oA.1 E;unfold CJ at K;rw[nI] at K;refine⟨⟨n,(gI h.w t F n).2 ⟨E,?_⟩,rfl⟩,K.2⟩
    have:=K.1
    unfold yB at this;rw[ua h E] at this;simpa[et] using this
theorem zlp{d:Dc}(h:d.iZ)(g:aj)(w:Int)(ps:List aG)(nx:Int):(x8 d g w ps nx).1.iZ:=by
 have H:vd.iZ:=⟨by simp[vd],by simp[vd],by simp[vd]⟩
 unfold x8
 repeat' split
 all_goals first | exact H | skip
 rename_i G
 refine⟨?_,h.al,h.fh⟩
 show(vJ _).length<=320
 rw[VQ,nO,Yj]
 omega
theorem zto(d:Dc)(hs:∀ t∈d.al,t.name.size<=9223372036854775807)(F:∀ n∈d.ae,n.cF.size<=9223372036854775807)(g:aj)(E:bC g)(l:List bR)(K:l.length<2^40)(J:Zt l):
  cu prog 25 [zn d,g.d,zu l] (λv=>∃ b,v = .bool b/\(b=true->u6 d=true/\aH g/\l.length<=8/\uv l=0)):=by
 have L:=znz d hs F
 have M:=zg6 g E
 have O:=Go.V.Fe l (by omega) J
 refine dW func25 ?_
 by_cases Q:l.length<=8
 case neg=>
  have H:¬(l.length:Int)<=8:=by omega
  simp+decide[Tryz.f25,int,zn,Dc.row,aj.d,zu,Q,H]
 have H:(l.length:Int)<=8:=by omega
 simp+decide[Tryz.f25,int,zn,Dc.row,aj.d,zu,Q,H]
 refine zg L ?_
 cases G:u6 d with
 |false=>simp+decide
 |true=>
  simp+decide
  refine zE.some (by rfl) M ?_
  rintro r ⟨b,rfl,T⟩
  cases b with
  |false=>simp+decide
  |true=>
   have T:=T rfl;simp+decide
   refine zg O ?_
   by_cases X:uv l=0
   .simp+decide[int,X]
    exact T
   .simp+decide[int,X]
end Go.V.Doc

/- Contracts and plain laws of this seat: part MG. It needs no conditions. -/
import Derived.Test.YtknekjalbninmaaGreatMF
import Derived.Test.YtknekjalbninmaaGreatW2
import Derived.WalkKit
import Derived.Recover
import Derived.Test.YtknekjalbninmaaGreatW3
import Derived.Test.YtknekjalbninmaaGreatME
import Derived.Test.YtknekjalbninmaaGreatMA
import Derived.Test.YtknekjalbninmaaGreatB1
set_option linter.all false
set_option maxHeartbeats 32000000
set_option maxRecDepth 100000
namespace Go.V.Doc
open Go Go.Proofs Tryz
def sB:ByteArray:=⟨#[98]⟩
def sA:ByteArray:=⟨#[97]⟩
def sP:ByteArray:=⟨#[112]⟩
def sI:ByteArray:=⟨#[105]⟩
def J8:ByteArray:=⟨#[100,111,103]⟩
def J9:ByteArray:=⟨#[80,76]⟩
def KI:ByteArray:=⟨#[98,97,98,105]⟩
def sXX:ByteArray:=⟨#[120,120]⟩
def sG:aj where
 inv:=[⟨sB,2⟩,⟨sA,3⟩,⟨sP,0⟩,⟨sI,11⟩]
 bt:=⟨⟨#[109,97,105,110]⟩,[⟨sB,[1]⟩,⟨sA,[2]⟩,⟨sP,[3]⟩,⟨sI,[4]⟩],[]⟩
 ba:=[⟨[3],[1],[⟨1,1⟩],[⟨1,1⟩],false,false⟩]
 bM:=⟨2,[⟨0,1,1⟩,⟨1,2,1⟩],[1]⟩
 aM:=[⟨1,[1,2],1,[],0,[⟨J8,.empty⟩],[],[]⟩,⟨2,[3,4],2,[],0,[⟨J9,.empty⟩],[],[]⟩]
def sQ:List aG:=[⟨1,0,0⟩,⟨2,0,0⟩]
def sL:List bR:=[⟨⟨5,2⟩,true,sQ⟩]
theorem fO:(yZ sG.bt.au KI).2.2=0:=by decide +kernel
theorem fK:(yZ sG.bt.au KI).1=[1,2,1,4]:=by decide +kernel
theorem PR:jh sG [1,2,1,4] sQ=true:=by decide +kernel
theorem st4:Yk sG ⟨5,2⟩ KI sL=⟨⟨5,2⟩,4,sQ⟩:=by decide +kernel
theorem bS{α:Type}{p:α->Prop}:∀ x∈([]:List α),p x:=λx h=>by cases h
theorem all_cons{α:Type}{p:α->Prop}{a:α}{l:List α}(h:p a)(t:∀ x∈l,p x):∀ x∈a::l,p x:=λx H=>(nE.1 H).elim (λe=>e▸h) (t x)
theorem CL:aH sG where
 ba:=all_cons ⟨⟨⟨by decide +kernel,by decide +kernel,by decide +kernel⟩,by decide +kernel⟩,by decide +kernel⟩ bS
 Xw:=all_cons (all_cons (.inr (by decide +kernel)) bS) bS
 bM:=⟨by decide +kernel,all_cons ⟨⟨by decide +kernel,by decide +kernel⟩,⟨by decide +kernel,by decide +kernel⟩,by decide +kernel,by decide +kernel⟩ (all_cons ⟨⟨by decide +kernel,by decide +kernel⟩,⟨by decide +kernel,by decide +kernel⟩,by decide +kernel,by decide +kernel⟩ bS),by decide +kernel⟩
 aM:=⟨all_cons ⟨⟨by decide +kernel,⟨by decide +kernel,by decide +kernel,by decide +kernel⟩,⟨by decide +kernel,by decide +kernel⟩,bS⟩,.inl (by simp),by decide +kernel,by decide +kernel,bS,all_cons (by decide +kernel) bS⟩
  (all_cons ⟨⟨by decide +kernel,⟨by decide +kernel,by decide +kernel,by decide +kernel⟩,⟨by decide +kernel,by decide +kernel⟩,bS⟩,.inl (by simp),by decide +kernel,by decide +kernel,bS,all_cons (by decide +kernel) bS⟩ bS),
  λk h=>by
   have H:k=0:=by have:sG.aM.length=2:=rfl;omega
   subst H;exact(by decide:(1:Int)<2)⟩
 main:=⟨by decide +kernel,by decide +kernel⟩
 fi:=λu G=>
  have⟨a,b,c,d,e⟩:=(by decide +kernel:∀ u∈sG.bt.au,0<u.bg.size/\u.bg.size<=32/\1<=u.bi.length/\u.bi.length<=3/\xI u.bg=true) u G
  ⟨a,b,c,d,e⟩
 dQ:=⟨by decide +kernel,all_cons ⟨by decide +kernel,by decide +kernel,bS⟩ (all_cons ⟨by decide +kernel,by decide +kernel,bS⟩ bS)⟩
 bi:=by decide +kernel
 au:=by decide +kernel
 cW:=by decide +kernel
 az:=by decide +kernel
 aw:=by decide +kernel
 aS:=by decide +kernel
theorem CM:bC sG where
 inv:=⟨by decide +kernel,all_cons (by decide +kernel) (all_cons (by decide +kernel) (all_cons (by decide +kernel) (all_cons (by decide +kernel) bS)))⟩
 bt:=⟨by decide +kernel,all_cons ⟨by decide +kernel,by decide +kernel⟩ (all_cons ⟨by decide +kernel,by decide +kernel⟩ (all_cons ⟨by decide +kernel,by decide +kernel⟩ (all_cons ⟨by decide +kernel,by decide +kernel⟩ bS))),bS,by decide +kernel⟩
 ba:=⟨by decide +kernel,all_cons ⟨by decide +kernel,by decide +kernel⟩ bS⟩
 aw:=by decide +kernel
 aS:=by decide +kernel
 aM:=⟨by decide +kernel,all_cons ⟨by decide +kernel,⟨by decide +kernel,bS⟩,⟨by decide +kernel,all_cons ⟨by decide +kernel,by decide +kernel⟩ bS⟩,by decide +kernel,by decide +kernel⟩ (all_cons ⟨by decide +kernel,⟨by decide +kernel,bS⟩,⟨by decide +kernel,all_cons ⟨by decide +kernel,by decide +kernel⟩ bS⟩,by decide +kernel,by decide +kernel⟩ bS)⟩
def sD:Dc where
 id:=5
 name:=⟨#[116]⟩
 len:=1000
 iG:=1
 fh:=[1]
 al:=[⟨⟨#[116,101,120,116]⟩,0,1,-1⟩,⟨⟨#[119,111,114,100]⟩,2,2,0⟩,⟨⟨#[109,111,114,112,104]⟩,3,3,1⟩,⟨⟨#[103,108,111,115,115]⟩,4,4,2⟩]
 ae:=[⟨1,0,0,0,900,0,⟨#[98,97,98,105,32,120,120]⟩⟩,⟨2,1,1,0,400,0,KI⟩,⟨3,1,1,400,900,0,sXX⟩]
theorem zpn:u6 sD=true:=by decide +kernel
theorem ztp:b_ sD:=(FT zpn).2.2.2
def sX:Dc:={sD with ae:=sD.ae++[⟨100,2,2,0,0,0,⟨#[98,97]⟩⟩,⟨101,3,100,0,0,0,J8⟩,⟨102,2,2,0,0,1,⟨#[112,105]⟩⟩,⟨103,3,102,0,0,0,J9⟩]}
theorem zpo:u6 sX=true:=by decide +kernel
theorem KJ:b_ sX:=(FT zpo).2.2.2
end Go.V.Doc
namespace Go.V.Doc
open Go Go.Proofs Go.RowKit Tryz
theorem zlq:A8 prog 70 2:=by
 refine⟨mY,λvs w F=>?_⟩
 obtain⟨p,q,rfl⟩:∃ p q,vs=[p,q]:=by
  match vs,F with
  | [p,q],_=>exact⟨p,q,rfl⟩
 have H:∀ w,(Instr.typeAssert Value.nilIface 20 127 true).run prog w = .ok (.tuple #[.agg #[.int .i64 0],.bool false]) w:=λw=>by kernel_rfl
 refine callsD_of_wpS func70 rfl λc₀ cs E=>?_
 apply wpS_seq
 apply wpS_region
 simp[wpOpsS,go_sem,recoverD,E,ntmps70,Exit.thenS,H]
 apply wpS_seq
 apply wpS_region
 simp[wpOpsS,go_sem,Exit.thenS]
 refine wpS_cond (t:=false) (by simp[Act.eval,Array.replicate]) ?_
 simp only[ou,oU]
 refine wpS_of_wp (wp_skip ?_)
 have G:=kP w (Obj.cells #[Value.int IntKind.i64 0] 127)
 cases c₀
 simp_all[bodyPostS,results,results70]
theorem PS:aq prog 71 [int 0] (.bE []):=by
 refine aF func71 ?_
 simp+decide[f71,int]
theorem zlr{d:Dc}(H:zy d.al 2=1)(k0:(zv d 0).kind=0)(k1:¬(zv d 1).kind=0)(p1:(zv d 1).aE.toNat=0):qW d=zH ((yT d 0 0).flatMap λp=>yT d p.id 1):=by
 have e0:qP d 0=yT d 0 0:=by rw[qP,gt (show(zv d ((0:Nat):Int)).kind=0 from k0)];rfl
 have e1:qP d 1=(yT d 0 0).flatMap λp=>yT d p.id 1:=by
  have p1':(zv d ((1:Nat):Int)).aE.toNat=0:=p1
  rw[qP,ge (show ¬(zv d ((1:Nat):Int)).kind=0 from k1),si (by omega),p1',e0];rfl
 unfold qW
 rw[H]
 show zH (qP d 1)=_
 rw[e1]
theorem zpp:qW sD=[2,3]:=by rw[zlr (by decide +kernel) (by decide +kernel) (by decide +kernel) (by decide +kernel)];decide +kernel
theorem PT:yl sD=true:=by decide +kernel
theorem ze0:x8 sD sG 2 sQ 100=(sX,0):=by kernel_rfl
theorem PU:yL sD sG sL 2=⟨⟨5,2⟩,4,sQ⟩:=by decide +kernel
theorem ztq:¬(yL sX sG sL 3).kind=4:=by decide +kernel
theorem zts:uV sD sG 2 sQ=false:=by decide +kernel
theorem zuv:yy sX 3 3=[]:=by decide +kernel
theorem zpq:wW sX 2=([⟨#[98,97]⟩,⟨#[112,105]⟩],[J8,J9]):=by decide +kernel
theorem zpr:KH sX sG sL=[]:=by decide +kernel
theorem ztt:KH sX sG []=[2]:=by decide +kernel
end Go.V.Doc
namespace Go.V.Doc
open Go Go.Proofs Go.RowKit Tryz
def wY(g:aj)(l:List bR):List Int->Dc->Int->Dc×Int
 | [],d,_=>(d,0)
 |w::ws,d,nx=>
  if ¬(yL d g l w).kind=4 then wY g l ws (if 0<(yy d w 3).length then xk d w else d) nx
  else if uV d g w (yL d g l w).pick=true then wY g l ws d nx
  else if ¬(x8 d g w (yL d g l w).pick nx).2=0 then (vd,(x8 d g w (yL d g l w).pick nx).2)
  else wY g l ws (x8 d g w (yL d g l w).pick nx).1 (nx+2*(yL d g l w).pick.length)
def yU(d:Dc)(g:aj)(l:List bR)(nx:Int):Dc×Int:=if yl d=true then wY g l (qW d) d nx else (vd,14)
section
variable {d:Dc} {w v nx:Int} {F G:List ByteArray}
theorem PV(h:b_ d)(G:yl d=true){n:Nt}(F:n∈d.ae)(E:n.aZ=zy d.al 2):n∈zK d w:=by
 refine Zr.2 ⟨F,λK=>?_⟩
 obtain⟨c,J,L,_⟩:=(Y7 h F).1 K
 have H:=WQ h F J
 have M:=(Cb h G).m
 obtain⟨t,et⟩:∃ t:Nat,zy d.al 3=t:=⟨(zy d.al 3).toNat,by omega⟩
 rw[et] at M
 have O:=h.up (t:=t) (by omega) (by rw[M.1];decide)
 rw[M.2.1] at O
 omega
theorem PW(H:yB d v=true):(zp d.ae v).1∈d.ae/\(zp d.ae v).1.id=v/\(zp d.ae v).1.aZ=zy d.al 2/\zp d.ae v=((zp d.ae v).1,true):=by
 unfold yB at H
 rw[nI,nD] at H
 have G:=u7 H.1
 exact⟨G.1,G.2,H.2,Prod.ext rfl H.1⟩
theorem zhv(h:b_ d)(H:yl d=true)(G:yB d v=true):zp (zK d w) v=zp d.ae v:=by
 obtain⟨F,E,K,J⟩:=PW G
 rw[J]
 have:=Xe (Ql h w) (PV h H F K)
 rw[E] at this;exact this
theorem zls(h:b_ d)(H:yl d=true)(E:yB d v=true)(K:qV (zK d w) nx (2*F.length)=false):zp (jV d w nx F G).ae v=zp d.ae v:=by
 obtain⟨J,L,M,O⟩:=PW E
 rw[O]
 have:=Xe (Cc (G:=G) h K) (Zs.2 (.inl (PV h H J M)))
 rw[L] at this;exact this
end
structure yM(d0 d:Dc)(ws:List Int):Prop where
 m:me d
 ti:d.al=d0.al
 id:d.id=d0.id
 wd:∀ v∈ws,yB d v=true/\zp d.ae v=zp d0.ae v
theorem PX{d x:Dc}{v:Int}(H:x.al=d.al)(G:zp x.ae v=zp d.ae v):yB x v=yB d v:=by unfold yB;rw[H,G]
theorem yM.clear{d0 d:Dc}{ws:List Int}(h:yM d0 d ws)(w:Int):yM d0 (xk d w) ws:=by
 refine⟨h.m.clear w,h.ti,h.id,λv G=>?_⟩
 have F:=zhv (w:=w) h.m.r h.m.y (h.wd v G).1
 have H:zp (xk d w).ae v=zp d.ae v:=F
 exact⟨by rw[@PX d (xk d w) v rfl H];exact(h.wd v G).1,H.trans (h.wd v G).2⟩
theorem yM.fill{d0 d:Dc}{ws:List Int}(h:yM d0 d ws){g:aj}(H:aH g){w:Int}{ps:List aG}{nx:Int}(F:(x8 d g w ps nx).2=0):yM d0 (x8 d g w ps nx).1 ws:=by
 have E:=h.m.fill H F
 obtain⟨_,_,_,_,_,c6,_,c8⟩:=KD F
 rw[c8] at E ⊢
 refine⟨E,h.ti,h.id,λv K=>?_⟩
 have J:=zls (G:=(yA g ps).2.1) h.m.r h.m.y (h.wd v K).1 c6
 exact⟨by rw[@PX d (jV d w nx (yA g ps).1 (yA g ps).2.1) v rfl J];exact(h.wd v K).1,J.trans (h.wd v K).2⟩
theorem zhw{d:Dc}(h:b_ d)(H:yl d=true){v:Int}(G:v∈qW d):yB d v=true:=by
 obtain⟨t,et,F⟩:=Qo H
 unfold qW zH at G
 rw[et] at G
 obtain⟨n,E,rfl⟩:=nS.1 G
 have E:=(gI h.w t F n).1 E
 unfold yB
 rw[ua h E.1,et,E.2];simp
theorem PY{d:Dc}(h:me d):yM d d (qW d):=⟨h,rfl,rfl,λv H=>⟨zhw h.r h.y H,rfl⟩⟩
def Ja(e:Int):Value:=.iface 127 (.agg #[.int .i64 e])
theorem PZ{e:Int}(H:e≠0):Ar prog 71 [int e] (Ja e):=by
 refine⟨c_71,λw E vs G F=>?_⟩
 simp only[zI,R,int] at F
 obtain⟨v,vs',rfl,rfl,rfl⟩:=F
 refine calls_of_wp func71 rfl ?_
 apply wp_seq
 apply wp_region
 simp[wpOps,go_sem]
 refine .inl (.inl (wp_cond (t:=true) ?_ ?_))
 .simp[Act.eval,H]
 rw[gt rfl]
 apply wp_region
 simp[wpOps,go_sem,bodyPost,Ja,Go.V.Below.refl]
theorem R1(e:Int):E5 prog 70 (Ja e) [.bp 0 0,.bp 1 0] [(0,.box 53 zeroCells),(1,.box 43 [.d (int 0)])] [(0,.box 53 zeroCells),(1,.box 43 [.d (int e)])] 2:=by
 refine zqq mixed func70 rfl mY (s:=.bE [.d (.agg [int e]),.d (.bool true)]) (y:=.tuple #[.agg #[.int .i64 e],.bool true]) (by simp[ah.a_,ah.lo]) rfl rfl rfl rfl (by decide) (by decide) (λa w=>rfl) (λa w h=>?_) (by simp[ah.a_,ah.lo]) (λw E β=>by simp[Sm,zi,R,int];exact⟨_,_,rfl,rfl,rfl,rfl⟩) rfl ?_
 .have h:a.tmps[5]?.getD undef=Ja e:=by simpa[Act.eval] using h
  simp[execOp,Act.eval,h,Ja,go_sem];rfl
 .simp+decide[int]
  refine Z8 mixed 3 [0,1] (by rfl) (by rfl) (by rfl) (by rfl) (by simp) ?_
  simp+decide[int]
end Go.V.Doc
namespace Go.V.Doc
open Go Go.Proofs Go.RowKit Tryz
theorem zlt{P:Program}{f:Nat}{args:List D}{r:D}(h:cu P f args (λx=>x=r)):aq P f args r:=by
 refine⟨h.1,λw E vs H G=>(h.2 w E vs H G).mono λe w' F=>?_⟩
 obtain⟨v,x,K,J,rfl,L⟩:=F
 exact⟨v,K,J,L⟩
def uw(g:aj)(l:List bR)(d0:Dc)(ws:List Int)(x:Nat×Dc×Int):St:=
 {n:=86,next:=5,af:=[(2,.d (zu l)),(3,.d (int x.2.2)),(4,.bp 0 0),(5,.bp 1 0),(8,.bp 2 0),(9,.bp 3 0),(10,.bp 4 0),(28,.d (aa ws)),(29,.d (int ws.length)),(30,.d (int x.1))],own:=[(0,.box 53 (zO x.2.1)),(1,.box 36 (qJ g)),(2,.box 53 zeroCells),(3,.box 43 [.d (int 0)]),(4,.box 112 (wX d0))],ai:=4}
structure lS(g:aj)(l:List bR)(d0:Dc)(nx:Int)(ws:List Int)(x:Nat×Dc×Int):Prop where
 k:x.1<=ws.length
 s:yM d0 x.2.1 ws
 go:wY g l (ws.drop x.1) x.2.1 x.2.2=yU d0 g l nx
theorem R2{d:Dc}(h:b_ d)(hw:Fw d)(g:aj)(hL:aH g)(hg:bC g)(l:List bR)(Y:l.length<2^40)(hp:∀ x∈l,x.pick.length<=4)(nx:Int):
  aq prog 28 [zn d,g.d,zu l,int nx] (.bE [zn (yU d g l nx).1,int (yU d g l nx).2]):=by
 have Z:=h.cW
 have A:=uf h
 have O:=YW d (by omega)
 have B:=YU d (by omega)
 refine zlt (zbw mixed func28 rfl c_28 1 (by rfl) (by rfl) ?_)
 simp+decide[Tryz.f28,zn,Dc.row,int,aj.d,zj,zu,JX,E4]
 refine⟨_,_,⟨rfl,rfl⟩,zlq,by simp,?_⟩
 cases hr:yl d with
 |false=>
  rw[hr] at O;refine XJ (XJ (XI (cy ?_)))
  simp+decide[int,zn,Dc.row];refine zg O ?_
  simp+decide[int];refine A5 (b:=true) (by simp) ?_
  rw[gt rfl];refine Au ⟨rfl,_,_,_,_,_,_,_,rfl,rfl,PZ (e:=14) (by decide),⟨by simp,by simp⟩,[2,3],[(0,.box 53 zeroCells),(1,.box 43 [.d (int 0)])],?_,[(0,.box 53 zeroCells),(1,.box 43 [.d (int 14)])],[.bp 0 0,.bp 1 0],?_,?_,R1 14,?_⟩
  .simp;exact⟨rfl,rfl⟩
  .simp[ah.a_,ah.lo]
  .simp
  .simp+decide[yU,hr,int]
   exact⟨rfl,rfl,rfl⟩
 |true=>
  obtain⟨t,et,C⟩:=Qo hr;have hO:=Ic h.w hw t C;rw[show zH (qP d t)=qW d by unfold qW;rw[et];rfl,<-et] at hO
  obtain⟨I,N⟩:=KG h.w hr;have hI:lS g l d nx (qW d) (0,d,nx):=⟨nU _,PY ⟨h,hr,hw⟩,by unfold yU;rw[gt hr];rfl⟩
  rw[hr] at O;refine XJ (XJ (XI (cy ?_)))
  simp+decide[int,zn,Dc.row];refine zg O ?_
  simp+decide[int];refine A5 (b:=false) (by simp) ?_
  rw[ge (by decide)]
  refine XI (cy ?_)
  simp+decide
  refine UO mixed 1 (by rfl) ?_
  simp+decide[int];refine zg B ?_
  simp+decide[ud,int];refine XJ (UO mixed 1 (by rfl) ?_)
  simp+decide[int];refine zg hO ?_
  simp+decide[aa];generalize qW d=ws at hI I N ⊢;refine A4 (zde (uw g l d ws) (lS g l d nx ws) (λx=>ws.length-x.1) (0,d,nx) hI ?_ ?_)
  .simp+decide[uw,int,aa,zO,qJ,wX,zu]
  rintro⟨k,x,n1⟩ ⟨hk,hs,H⟩
  simp only at hk hs H
  have hx:=hs.m.r;have L:=hs.m.w;have W:=uf hx;refine UO mixed 2 (by rfl) ?_
  by_cases G:k<ws.length
  case neg=>
   obtain rfl:k=ws.length:=by omega
   rw[pL] at H;have H:(x,(0:Int))=yU d g l nx:=H
   rw[<-H];simp+decide[uw,int,aa];refine XI (cy ?_)
   simp+decide[int,aa,zO,zn,Dc.row]
  have F:=bG G;obtain⟨w,ew,e1⟩:=bN G;rw[nY G,ew] at H;have P:=hs.wd w (by rw[<-ew];exact nF G)
  have hS:=PN hx g hL hg l Y hp w;have Q:=CG hL x hp w;have hK:=YS x w (zy x.al 3) L;have J:=PL x w L (by omega) g hL hg (yL x g l w).pick Q
  have hF:=ztm hx g hL hg w L (yL x g l w).pick Q n1;have hC:=IX hx w L;rw[show qc x w=(xk x w,0) by unfold qc;rw[ge (by rw[hs.m.y];decide),ge (by rw[P.1];decide)]] at hC
  rw[show zH (yT x w (zy x.al 3))=yy x w 3 from rfl,hs.ti] at hK
  have M:=hs.clear w;have E:=hs.fill hL (w:=w) (ps:=(yL x g l w).pick) (nx:=n1);have V:(x8 x g w (yL x g l w).pick n1).2=0->1<=n1/\n1<=1099511627768:=λhe=>(KD he).2.2.2.2.1
  rw[wY] at H;generalize uV x g w (yL x g l w).pick=sb at J H;generalize x8 x g w (yL x g l w).pick n1=fe at hF H E V;obtain⟨y,e⟩:=fe;generalize yL x g l w=st at hS J H Q hF;obtain⟨r,kd,q⟩:=st;generalize S:yy x w 3=K at hK H;have H0:K.length<20:=by rw[<-S];exact XZ x w 3 L
  generalize xk x w=z at hC H M;simp only at J H hF E Q V
  simp+decide[uw,int,aa,zO,qJ,wX,zu,G,F,ew,e1,aB];by_cases X:kd=4
  case neg=>
   rw[gt X] at H;refine XI (cy ?_)
   simp+decide[uw,int,aa,zO,qJ,wX,zu,G,F,ew,e1,aB];refine zg hS ?_
   simp+decide[int,aa,fl.d,X];refine zE.V8 (by rfl) hK ?_
   by_cases T:0<K.length
   case neg=>
    rw[ge T] at H;simp+decide[int,aa,T,aB];refine⟨by omega,k+1,x,n1,⟨G,hs,H⟩,by omega,?_⟩
    simp+decide[uw,int,aa,zO,qJ,wX,zu]
   rw[gt T] at H;simp+decide[int,aa,T,aB];refine zg hC ?_
   simp+decide[int,aa,zn,Dc.row];refine zg PS ?_
   simp+decide[aB];refine⟨by omega,k+1,z,n1,⟨G,M,H⟩,by omega,?_⟩
   simp+decide[uw,int,aa,zO,qJ,wX,zu]
  subst X;rw[ge (by decide)] at H
  cases sb with
  |true=>
   rw[gt rfl] at H;refine XI (cy ?_)
   simp+decide[uw,int,aa,zO,qJ,wX,zu,G,F,ew,e1,aB];refine zg hS ?_
   simp+decide[int,aa,fl.d];refine zg J ?_
   simp+decide[int,aa,aB];refine⟨by omega,k+1,x,n1,⟨G,hs,H⟩,by omega,?_⟩
   simp+decide[uw,int,aa,zO,qJ,wX,zu]
  |false=>
   rw[ge (by decide)] at H
   by_cases he:e=0
   case pos=>
    rw[ge (by rw[he];decide)] at H
    refine XI (cy ?_)
    simp+decide[uw,int,aa,zO,qJ,wX,zu,G,F,ew,e1,aB];refine zg hS ?_
    simp+decide[int,aa,fl.d];refine zg J ?_
    simp+decide[int,aa];refine zg hF ?_
    simp+decide[int,aa,zn,Dc.row,he];refine zg PS ?_
    simp+decide[aB,zh];obtain⟨H1,H2⟩:=V he;refine⟨by omega,by omega,by omega,k+1,y,n1+2*q.length,⟨G,E he,H⟩,by omega,?_⟩
    simp+decide[uw,int,aa,zO,qJ,wX,zu]
   rw[gt he] at H;refine XJ (A4 (UO mixed 5 (by rfl) ?_))
   simp+decide[uw,int,aa,zO,qJ,wX,zu,G,F,ew,e1,aB];refine zg hS ?_
   simp+decide[int,aa,fl.d];refine zg J ?_
   simp+decide[int,aa];refine zg hF ?_
   simp+decide[int,aa,zn,Dc.row];refine XJ (Au ⟨rfl,?_⟩)
   simp+decide[int,-Vd];refine⟨rfl,_,_,_,_,_,_,_,rfl,rfl,PZ he,⟨by simp,by simp⟩,[2,3],[(0,.box 53 zeroCells),(1,.box 43 [.d (int 0)])],?_,[(0,.box 53 zeroCells),(1,.box 43 [.d (int e)])],[.bp 0 0,.bp 1 0],?_,?_,R1 e,?_⟩
   .simp;exact⟨rfl,rfl⟩
   .simp[ah.a_,ah.lo]
   .simp
   .rw[<-H]
    simp+decide[int];exact⟨rfl,rfl⟩
end Go.V.Doc
namespace Go.V.Doc
open Go Go.Proofs Go.RowKit Tryz
section
variable {d:Dc} {w v nx:Int} {F G:List ByteArray}
end
end Go.V.Doc
namespace Go.V.Doc
open Go Go.Proofs Go.RowKit Tryz
section
variable {d:Dc} {w nx:Int} {F G:List ByteArray}
end
end Go.V.Doc
namespace Go.V.Doc
open Go Go.Proofs Go.RowKit Tryz
theorem zps{d x:Dc}{g:aj}{l:List bR}{v:Int}(hi:x.id=d.id)(H:zp x.ae v=zp d.ae v):yL x g l v=yL d g l v:=by
 unfold yL vz;rw[hi,H]
end Go.V.Doc
namespace Go.V.Doc
open Go Go.Proofs Tryz
theorem zhx{d:Dc}{w:Int}(h:yy d w 3=[]):xk d w=d:=by
 have e:d.ae.filter (λ_=>true)=d.ae:=tQ.2 λ_ _=>rfl
 unfold xk zK X0 YZ
 rw[h]
 simp[e]
def Xf(g:aj)(l:List bR)(d0:Dc)(ws:List Int)(x:Nat×Dc×Int):St:=
 {n:=85,next:=4,af:=[(2,.d (zu l)),(3,.d (int x.2.2)),(4,.bp 0 0),(5,.bp 1 0),(8,.bp 2 0),(9,.d (int 0)),(10,.d (aa ws)),(11,.bp 3 0),(12,.d (int x.1))],own:=[(0,.box 53 (zO d0)),(1,.box 36 (qJ g)),(2,.box 53 zeroCells),(3,.box 53 (zO x.2.1))]}
theorem zpt{d:Dc}(h:b_ d)(W:Fw d)(g:aj)(hL:aH g)(hg:bC g)(l:List bR)(Q:l.length<2^40)(hf:Zt l)(hp:∀ x∈l,x.pick.length<=4)(nx:Int):
  aq prog 29 [zn d,g.d,zu l,int nx] (.bE [zn (yU d g l nx).1,int (yU d g l nx).2]):=by
 have T:=h.cW
 have V:=uf h
 have X:=VE d (by omega)
 have Y:=gJ d 2 (by omega)
 refine aF func29 ?_
 simp+decide[Tryz.f29,zn,Dc.row,int,aj.d,zj,zu]
 refine zg X ?_
 cases hr:yl d with
 |false=>
  simp+decide[yU,hr,int];exact⟨rfl,rfl,rfl⟩
 |true=>
  obtain⟨t,et,Z⟩:=Qo hr;have hO:=VC h.w t;rw[Ib h.w Z,show zH (qP d t)=qW d by unfold qW;rw[et];rfl,<-et] at hO
  obtain⟨A,B⟩:=KG h.w hr;have hI:lS g l d nx (qW d) (0,d,nx):=⟨nU _,PY ⟨h,hr,W⟩,by unfold yU;rw[gt hr];rfl⟩
  simp+decide[int];refine bw Y ?_
  simp+decide[int];refine bw hO ?_
  simp+decide[int,aa];generalize qW d=ws at hI A B ⊢;refine qg (Xf g l d ws) (lS g l d nx ws) (λx=>ws.length-x.1) (0,d,nx) hI ?_ ?_
  .simp+decide[Xf,int,aa,zO,qJ,zu]
  rintro⟨k,x,n1⟩ ⟨hk,hs,H⟩
  simp only at hk hs H
  have hx:=hs.m.r;have C:=hs.m.w;have N:=uf hx;refine cy ?_
  by_cases G:k<ws.length
  case neg=>
   obtain rfl:k=ws.length:=by omega
   rw[pL] at H;have H:(x,(0:Int))=yU d g l nx:=H
   rw[<-H];simp+decide[Xf,int,aa,zO,zn,Dc.row]
  have F:=bG G;obtain⟨w,ew,e1⟩:=bN G;rw[nY G,ew] at H;have O:=hs.wd w (by rw[<-ew];exact nF G)
  have hS:=zpm h g hL hg l Q hf hp w;rw[<-zps (g:=g) (l:=l) hs.id O.2] at hS;have J:=CG hL x hp w;have hR:=zhu hx w C (by omega) g hL hg (yL x g l w) J
  have hF:=zlb hx g hL hg w (yL x g l w).pick J n1;have hC:=D1 hx w;rw[show qc x w=(xk x w,0) by unfold qc;rw[ge (by rw[hs.m.y];decide),ge (by rw[O.1];decide)]] at hC
  have K:=hs.clear w;have E:=hs.fill hL (w:=w) (ps:=(yL x g l w).pick) (nx:=n1);have L:(x8 x g w (yL x g l w).pick n1).2=0->1<=n1/\n1<=1099511627768:=λhe=>(KD he).2.2.2.2.1
  have I:¬0<(yy x w 3).length->xk x w=x:=λhn=>zhx (nZ (by omega))
  rw[wY] at H;generalize uV x g w (yL x g l w).pick=sb at hR H;generalize x8 x g w (yL x g l w).pick n1=fe at hF H E L;obtain⟨y,e⟩:=fe;generalize yL x g l w=st at hS hR H J hF;obtain⟨r,kd,q⟩:=st;have H:(if ¬kd=4 then wY g l (ws.drop (k+1)) (xk x w) n1 else if sb=true then wY g l (ws.drop (k+1)) x n1 else if ¬e=0 then (vd,e) else wY g l (ws.drop (k+1)) y (n1+2*q.length))=yU d g l nx:=by
   rw[<-H];by_cases h0:0<(yy x w 3).length
   .rw[gt h0]
   .rw[ge h0,I h0]
  generalize xk x w=z at hC H K;simp only at hS hR hF E J L
  simp+decide[Xf,int,aa,zO,qJ,zu,G,F];refine kh 10 [] ?_
  simp+decide[int,aa,zO,qJ,zu,G,F,ew,e1];refine bw hS ?_
  simp+decide[int,aa,fl.d];refine⟨by rfl,?_⟩
  by_cases M:kd=4
  case neg=>
   rw[gt M] at H;simp+decide[int,M];refine Z8 mixed 9 [3] (by rfl) (by rfl) (by rfl) (by rfl) (by simp) ?_
   simp+decide[int,aa,zO,qJ,zu,G,F,ew,e1];refine bw hC ?_
   simp+decide[int,zn,Dc.row,aB];refine⟨by omega,k+1,z,n1,⟨G,K,H⟩,by omega,?_⟩
   simp+decide[Xf,int,aa,zO,qJ,zu]
  subst M;rw[ge (by decide)] at H
  simp+decide[int,aa,zO,qJ,zu,G,F,ew,e1];refine bw hR ?_
  cases sb with
  |true=>
   rw[gt rfl] at H;simp+decide[int,aB];refine⟨by omega,k+1,x,n1,⟨G,hs,H⟩,by omega,?_⟩
   simp+decide[Xf,int,aa,zO,qJ,zu]
  |false=>
   rw[ge (by decide)] at H
   simp+decide
   refine kh 15 [] ?_
   simp+decide[int,aa,zO,qJ,zu,G,F,ew,e1];refine bw hF ?_
   simp+decide[int,zn,Dc.row];refine⟨by rfl,?_⟩
   by_cases he:e=0
   case neg=>
    rw[gt he] at H;rw[<-H];simp+decide[int,he];exact⟨rfl,rfl⟩
   rw[ge (by rw[he];decide)] at H
   obtain⟨P,S⟩:=L he;simp+decide[int,he,zn,Dc.row,aB,zh];refine⟨by omega,by omega,by omega,k+1,y,n1+2*q.length,⟨G,E he,H⟩,by omega,?_⟩
   simp+decide[Xf,int,aa,zO,qJ,zu]
theorem KL{g:aj}{l:List bR}:∀ {ws:List Int} {d:Dc} {nx:Int},d.iZ->(wY g l ws d nx).1.iZ
 | [],d,nx,h=>h
 |w::ws,d,nx,h=>by
  rw[wY];split
  .refine KL ?_
   split
   .exact⟨oC (oz _ _) h.ae,h.al,h.fh⟩
   .exact h
  .split
   .exact KL h
   .split
    .exact⟨by simp[vd],by simp[vd],by simp[vd]⟩
    .exact KL (zlp h g w _ nx)
theorem zpu{g:aj}{l:List bR}{d:Dc}{nx:Int}(h:d.iZ):(yU d g l nx).1.iZ:=by
 unfold yU
 split
 .exact KL h
 .exact⟨by simp[vd],by simp[vd],by simp[vd]⟩
theorem zpv(F:aq prog 13 [] (.bool true))(d:Dc)(hs:∀ t∈d.al,t.name.size<=9223372036854775807)(E:∀ n∈d.ae,n.cF.size<=9223372036854775807)(g:aj)(K:bC g)(l:List bR)(J:l.length<2^40)(L:Zt l)(n1:Int):
  aq prog 7 [zn d,g.d,zu l,int n1] (.bool true):=by
 refine aF func7 ?_
 simp+decide[f7,int,zu,zn,Dc.row,aj.d]
 refine zE.some (by rfl) (zto d hs E g K l J L) ?_
 rintro r ⟨b,rfl,M⟩
 cases b with
 |false=>
  simp+decide
  refine zg F ?_
  simp+decide
 |true=>
  obtain⟨H,O,_,G⟩:=M rfl;obtain⟨Q,T,V,X⟩:=FT H;have Y:∀ x∈l,x.pick.length<=4:=λx E=>(((zhp l).1 G).1 x E).le
  have Z:=R2 X (XX (by omega)) g O K l J Y n1
  have A:=zpt X (XX (by omega)) g O K l J L Y n1
  have B:=zgu (yU d g l n1).1 (yU d g l n1).1 (zpu ⟨by omega,by omega,by omega⟩)
  rw[pI rfl] at B;generalize yU d g l n1=z at Z A B;obtain⟨x,e⟩:=z;simp only at Z A B
  simp+decide
  refine zg Z ?_
  simp+decide[int,zn,Dc.row];refine zg A ?_
  simp+decide[int,zn,Dc.row];refine zg B ?_
  simp+decide[int];refine zg F ?_
  simp+decide
end Go.V.Doc
namespace Go.V.Doc
open Go Go.Proofs Go.RowKit Tryz
end Go.V.Doc
namespace Go.V.Doc
open Go Go.Proofs Tryz
abbrev R7:List Sh:=[.str,.int .i64,.int .i64,.int .i64]
abbrev R9:List Sh:=[.int .i64,.int .i64,.int .i64,.int .i64,.int .i64,.int .i64,.str]
abbrev CN:List Sh:=[.int .i64,.str,.int .i64,.int .i64,.sl [.int .i64],.sl R7,.sl R9]
def cD.ok(t:cD):Prop:=t.name.size<=maxLen/\vN t.kind/\vN t.bV/\vN t.aE
structure Nt.ok(n:Nt):Prop where
 id:vN n.id
 aZ:vN n.aZ
 aE:vN n.aE
 fr:vN n.fr
 t_o:vN n.t_o
 cc:vN n.cc
 cF:n.cF.size<=maxLen
structure Dc.ok(d:Dc):Prop where
 id:vN d.id
 name:d.name.size<=maxLen
 len:vN d.len
 iG:vN d.iG
 fh:O1 d.fh
 al:d.al.length<=maxLen/\∀ t∈d.al,t.ok
 ae:d.ae.length<=maxLen/\∀ n∈d.ae,n.ok
theorem ze1{r:List D}(h:y9 r R7):∃ t:cD,r=t.row/\t.ok:=by
 obtain⟨_,_,rfl,g1,r1⟩:=h.zV
 obtain⟨_,_,rfl,g2,r2⟩:=r1.zV
 obtain⟨_,_,rfl,g3,r3⟩:=r2.zV
 obtain⟨_,_,rfl,g4,r4⟩:=r3.zV
 obtain rfl:=r4.jG
 obtain⟨a,rfl,wa⟩:=g1.ZO
 obtain⟨b,rfl,wb⟩:=g2.xO
 obtain⟨c,rfl,wc⟩:=g3.xO
 obtain⟨e,rfl,we⟩:=g4.xO
 exact⟨⟨a,b,c,e⟩,rfl,wa,wb,wc,we⟩
theorem ze2{r:List D}(h:y9 r R9):∃ n:Nt,r=n.row/\n.ok:=by
 obtain⟨_,_,rfl,g1,r1⟩:=h.zV
 obtain⟨_,_,rfl,g2,r2⟩:=r1.zV
 obtain⟨_,_,rfl,g3,r3⟩:=r2.zV
 obtain⟨_,_,rfl,g4,r4⟩:=r3.zV
 obtain⟨_,_,rfl,g5,r5⟩:=r4.zV
 obtain⟨_,_,rfl,g6,r6⟩:=r5.zV
 obtain⟨_,_,rfl,g7,r7⟩:=r6.zV
 obtain rfl:=r7.jG
 obtain⟨a,rfl,wa⟩:=g1.xO
 obtain⟨b,rfl,wb⟩:=g2.xO
 obtain⟨c,rfl,wc⟩:=g3.xO
 obtain⟨e,rfl,we⟩:=g4.xO
 obtain⟨f,rfl,wf⟩:=g5.xO
 obtain⟨g,rfl,wg⟩:=g6.xO
 obtain⟨s,rfl,ws⟩:=g7.ZO
 exact⟨⟨a,b,c,e,f,g,s⟩,rfl,wa,wb,wc,we,wf,wg,ws⟩
theorem zhy{l:List D}(h:y9 l CN):∃ d:Dc,D.agg l=zn d/\d.ok:=by
 obtain⟨_,_,rfl,g1,r1⟩:=h.zV
 obtain⟨_,_,rfl,g2,r2⟩:=r1.zV
 obtain⟨_,_,rfl,g3,r3⟩:=r2.zV
 obtain⟨_,_,rfl,g4,r4⟩:=r3.zV
 obtain⟨_,_,rfl,g5,r5⟩:=r4.zV
 obtain⟨_,_,rfl,g6,r6⟩:=r5.zV
 obtain⟨_,_,rfl,g7,r7⟩:=r6.zV
 obtain rfl:=r7.jG
 obtain⟨a,rfl,wa⟩:=g1.xO
 obtain⟨b,rfl,wb⟩:=g2.ZO
 obtain⟨c,rfl,wc⟩:=g3.xO
 obtain⟨e,rfl,we⟩:=g4.xO
 obtain⟨f,rfl,wf⟩:=zej g5
 obtain⟨ts,rfl,wt1,wt2⟩:=yP.XM (row:=cD.row) (cI:=cD.ok) (λr H=>ze1 H) g6
 obtain⟨ns,rfl,wn1,wn2⟩:=yP.XM (row:=Nt.row) (cI:=Nt.ok) (λr H=>ze2 H) g7
 exact⟨⟨a,b,c,e,f,ts,ns⟩,rfl,wa,wb,wc,we,wf,⟨wt1,wt2⟩,wn1,wn2⟩
theorem ze3{l:List D}(h:y9 l CN):∃ d:Dc,D.agg l=zn d:=by
 obtain⟨d,e,_⟩:=zhy h
 exact⟨d,e⟩
theorem Rb{d:Dc}(h:jK 1048576 (zn d)):(∀ t∈d.al,t.name.size<=9223372036854775807)/\(∀ n∈d.ae,n.cF.size<=9223372036854775807):=by
 simp only[zn,Dc.row,jK,cG,gO,aa,int,om,tW] at h
 obtain⟨_,_,_,_,_,⟨t1,t2⟩,n1,n2⟩:=h
 refine⟨λt ht=>?_,λn hn=>?_⟩
 .have:=um t2 t ht
  simp only[cD.row,cG,gO,int] at this;omega
 .have:=um n2 n hn
  simp only[Nt.row,cG,gO,int] at this;omega
end Go.V.Doc
namespace Go.V
open Go Go.Proofs Tryz
def Rf.ok(r:Rf):Prop:=vN r.cw/\vN r.bT
def bR.ok(d:bR):Prop:=d.cd.ok/\O3 d.pick
abbrev KN:List Sh:=[.int .i64,.int .i64,.bool,.sl O2]
theorem zbj{r:List D}(h:y9 r KN):∃ d:bR,r=d.row/\d.ok:=by
 obtain⟨_,_,rfl,g1,r1⟩:=h.zV
 obtain⟨_,_,rfl,g2,r2⟩:=r1.zV
 obtain⟨_,_,rfl,g3,r3⟩:=r2.zV
 obtain⟨_,_,rfl,g4,r4⟩:=r3.zV
 obtain rfl:=r4.jG
 obtain⟨a,rfl,wa⟩:=g1.xO
 obtain⟨b,rfl,wb⟩:=g2.xO
 obtain⟨c,rfl⟩:=g3.G2
 obtain⟨l,rfl,wl⟩:=zcf g4
 exact⟨⟨⟨a,b⟩,c,l⟩,rfl,⟨wa,wb⟩,wl⟩
theorem ze4{d:D}(h:yP d (.sl KN)):∃ l,d=zu l/\l.length<=maxLen/\∀ x∈l,x.ok:=by
 obtain⟨xs,rfl,H,G⟩:=yP.XM (row:=bR.row) (cI:=bR.ok) (λr F=>zbj F) h
 exact⟨xs,rfl,H,G⟩
end Go.V
namespace Go.V.Doc
open Go Go.Proofs Tryz
theorem zlu:aq prog 40 [] (.bE [zn sD,sG.d,zu sL]):=by
 refine aF func40 ?_
 simp+decide[f40]
 refine ZI [5,6,8,13,17,18,19,24,25] ?_
 simp+decide
 refine Z8 mixed 6 [0,1] (by rfl) (by rfl) (by rfl) (by rfl) (by simp) ?_
 simp+decide
 exact⟨rfl,rfl,rfl⟩
theorem zhz(H:aq prog 28 [zn sD,sG.d,zu sL,int 100] (.bE [zn sX,int 0])):aq prog 13 [] (.bool true):=by
 refine aF func13 ?_
 have E:=PH sX 2 (XX (by decide +kernel)) (by decide +kernel)
 rw[zpq] at E
 have K:=PO KJ (XX (by decide +kernel)) (by decide +kernel) sG CL CM [] (by decide +kernel) (by decide +kernel)
 rw[PQ KJ,ztt] at K
 have J:=PO KJ (XX (by decide +kernel)) (by decide +kernel) sG CL CM sL (by decide +kernel) (by decide +kernel)
 rw[PQ KJ,zpr] at J
 have L:=YW sD (by decide +kernel)
 rw[PT] at L
 have G:=KE [⟨#[98,97]⟩,⟨#[112,105]⟩] [⟨#[98,97]⟩,⟨#[112,105]⟩] (by simp) (by simp)
 have F:=KE [J8,J9] [J8,J9] (by simp) (by simp)
 rw[pI rfl] at G F
 simp+decide[f13]
 refine zg zlu ?_
 simp+decide[zn,Dc.row,aj.d,zu,int]
 refine zg H ?_
 simp+decide[zn,Dc.row,int]
 refine zg E ?_
 simp+decide[yC]
 refine zg K ?_
 simp+decide[aa]
 refine zg L ?_
 simp+decide
 have M:sX.ae.length=7:=by decide +kernel
 simp+decide[zq,M]
 refine zg G ?_
 simp+decide
 refine zg F ?_
 simp+decide
 refine zg J ?_
 simp+decide[aa]
theorem zcp{d:D}(h:yP d (.sl KN)):∃ l,d=zu l:=by
 obtain⟨l,e,_⟩:=ze4 h
 exact⟨l,e⟩
theorem Re{l:List bR}(h:jK 1048576 (zu l)):l.length<2^40/\Zt l:=by
 simp only[zu,jK,gO,om] at h
 refine⟨by omega,λx H=>?_⟩
 have:=um h.2 x H
 simp only[bR.row,cG,gO,int,zh,om] at this
 unfold bR.iZ
 omega
theorem ze5:yU sD sG sL 100=(sX,0):=by
 have H:(yL sD sG sL 2).kind=4:=by rw[PU]
 have G:(yL sD sG sL 2).pick=sQ:=by rw[PU]
 unfold yU
 rw[gt PT,zpp,wY,ge (λn=>n H),G,ge (by rw[zts];decide),ze0,ge (λn=>n rfl),wY,gt ztq,zuv]
 rfl
theorem zlv:aq prog 13 [] (.bool true):=zhz (by
 have:=R2 ztp (XX (by decide +kernel)) sG CL CM sL (by decide +kernel) (by decide +kernel) 100
 rwa [ze5] at this)
theorem zlw(d:Dc)(c0:jK 1048576 (zn d))(g:aj)(c1:jK 1048576 g.d)(l:List bR)(c2:jK 1048576 (zu l))(nx:Int)(c3:jK 1048576 (int nx)):
  aq prog 7 [zn d,g.d,zu l,int nx] (.bool true):=
 zpv zlv d (Rb c0).1 (Rb c0).2 g (zkv c1) l (Re c2).1 (Re c2).2 nx
end Go.V.Doc

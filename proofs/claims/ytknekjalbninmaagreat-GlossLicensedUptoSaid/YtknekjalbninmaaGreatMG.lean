/- Contracts and plain laws of this seat: part MG. It needs no conditions. -/
import Derived.Test.YtknekjalbninmaaGreatMF
import Derived.Test.YtknekjalbninmaaGreatW2
import Derived.WalkKit
import Derived.Recover
import Derived.Test.YtknekjalbninmaaGreatW3
import Derived.Test.YtknekjalbninmaaGreatME
import Derived.Test.YtknekjalbninmaaGreatMA
import Derived.Test.YtknekjalbninmaaGreatB1
set_option maxHeartbeats 32000000
set_option linter.unusedVariables false
set_option linter.unusedSimpArgs false
set_option linter.unusedSectionVars false
set_option maxRecDepth 100000
namespace Go.V.Doc
open Go Go.Proofs
def sB:ByteArray:=⟨#[98]⟩
def sA:ByteArray:=⟨#[97]⟩
def sP:ByteArray:=⟨#[112]⟩
def sI:ByteArray:=⟨#[105]⟩
def V0:ByteArray:=⟨#[100,111,103]⟩
def V2:ByteArray:=⟨#[80,76]⟩
def W8:ByteArray:=⟨#[98,97,98,105]⟩
def sXX:ByteArray:=⟨#[120,120]⟩
def sG:Lang where
 inv:=[⟨sB,2⟩,⟨sA,3⟩,⟨sP,0⟩,⟨sI,11⟩]
 orth:=⟨⟨#[109,97,105,110]⟩,[⟨sB,[1]⟩,⟨sA,[2]⟩,⟨sP,[3]⟩,⟨sI,[4]⟩],[]⟩
 rules:=[⟨[3],[1],[⟨1,1⟩],[⟨1,1⟩],false,false⟩]
 net:=⟨2,[⟨0,1,1⟩,⟨1,2,1⟩],[1]⟩
 lex:=[⟨1,[1,2],1,[],0,[⟨V0,.empty⟩],[],[]⟩,⟨2,[3,4],2,[],0,[⟨V2,.empty⟩],[],[]⟩]
def sQ:List Prt:=[⟨1,0,0⟩,⟨2,0,0⟩]
def sL:List Dec:=[⟨⟨5,2⟩,true,sQ⟩]
theorem st1:(yY sG.orth.units W8).2.2=0:=by decide +kernel
theorem st2:(yY sG.orth.units W8).1=[1,2,1,4]:=by decide +kernel
theorem I8:jq sG [1,2,1,4] sQ=true:=by decide +kernel
theorem st4:ut sG ⟨5,2⟩ W8 sL=⟨⟨5,2⟩,4,sQ⟩:=by decide +kernel
theorem all_nil{α:Type}{p:α->Prop}:∀ x∈([]:List α),p x:=λx h=>by cases h
theorem all_cons{α:Type}{p:α->Prop}{a:α}{l:List α}(h:p a)(t:∀ x∈l,p x):∀ x∈a::l,p x:=λx H=>(List.mem_cons.1 H).elim (λe=>e▸h) (t x)
theorem GE:LightF sG where
 rules:=all_cons ⟨⟨⟨by decide +kernel,by decide +kernel,by decide +kernel⟩,by decide +kernel⟩,by decide +kernel⟩ all_nil
 Yl:=all_cons (all_cons (.inr (by decide +kernel)) all_nil) all_nil
 net:=⟨by decide +kernel,all_cons ⟨⟨by decide +kernel,by decide +kernel⟩,⟨by decide +kernel,by decide +kernel⟩,by decide +kernel,by decide +kernel⟩ (all_cons ⟨⟨by decide +kernel,by decide +kernel⟩,⟨by decide +kernel,by decide +kernel⟩,by decide +kernel,by decide +kernel⟩ all_nil),by decide +kernel⟩
 lex:=⟨all_cons ⟨⟨by decide +kernel,⟨by decide +kernel,by decide +kernel,by decide +kernel⟩,⟨by decide +kernel,by decide +kernel⟩,all_nil⟩,.inl (by simp),by decide +kernel,by decide +kernel,all_nil,all_cons (by decide +kernel) all_nil⟩
  (all_cons ⟨⟨by decide +kernel,⟨by decide +kernel,by decide +kernel,by decide +kernel⟩,⟨by decide +kernel,by decide +kernel⟩,all_nil⟩,.inl (by simp),by decide +kernel,by decide +kernel,all_nil,all_cons (by decide +kernel) all_nil⟩ all_nil),
  λk h=>by
   have H:k=0:=by have:sG.lex.length=2:=rfl;omega
   subst H;exact(by decide:(1:Int)<2)⟩
 main:=⟨by decide +kernel,by decide +kernel⟩
 units1:=λu G=>
  have⟨a,b,c,d,e⟩:=(by decide +kernel:∀ u∈sG.orth.units,0<u.graph.size/\u.graph.size<=32/\1<=u.segs.length/\u.segs.length<=3/\xl u.graph=true) u G
  ⟨a,b,c,d,e⟩
 small:=⟨by decide +kernel,all_cons ⟨by decide +kernel,by decide +kernel,all_nil⟩ (all_cons ⟨by decide +kernel,by decide +kernel,all_nil⟩ all_nil)⟩
 segs:=by decide +kernel
 units:=by decide +kernel
 few:=by decide +kernel
 states:=by decide +kernel
 steps:=by decide +kernel
 final:=by decide +kernel
theorem GF:LangC sG where
 inv:=⟨by decide +kernel,all_cons (by decide +kernel) (all_cons (by decide +kernel) (all_cons (by decide +kernel) (all_cons (by decide +kernel) all_nil)))⟩
 orth:=⟨by decide +kernel,all_cons ⟨by decide +kernel,by decide +kernel⟩ (all_cons ⟨by decide +kernel,by decide +kernel⟩ (all_cons ⟨by decide +kernel,by decide +kernel⟩ (all_cons ⟨by decide +kernel,by decide +kernel⟩ all_nil))),all_nil,by decide +kernel⟩
 rules:=⟨by decide +kernel,all_cons ⟨by decide +kernel,by decide +kernel⟩ all_nil⟩
 steps:=by decide +kernel
 final:=by decide +kernel
 lex:=⟨by decide +kernel,all_cons ⟨by decide +kernel,⟨by decide +kernel,all_nil⟩,⟨by decide +kernel,all_cons ⟨by decide +kernel,by decide +kernel⟩ all_nil⟩,by decide +kernel,by decide +kernel⟩ (all_cons ⟨by decide +kernel,⟨by decide +kernel,all_nil⟩,⟨by decide +kernel,all_cons ⟨by decide +kernel,by decide +kernel⟩ all_nil⟩,by decide +kernel,by decide +kernel⟩ all_nil)⟩
def sD:Dc where
 id:=5
 name:=⟨#[116]⟩
 len:=1000
 day:=1
 spk:=[1]
 tiers:=[⟨⟨#[116,101,120,116]⟩,0,1,-1⟩,⟨⟨#[119,111,114,100]⟩,2,2,0⟩,⟨⟨#[109,111,114,112,104]⟩,3,3,1⟩,⟨⟨#[103,108,111,115,115]⟩,4,4,2⟩]
 notes:=[⟨1,0,0,0,900,0,⟨#[98,97,98,105,32,120,120]⟩⟩,⟨2,1,1,0,400,0,W8⟩,⟨3,1,1,400,900,0,sXX⟩]
theorem zhs:wU sD=true:=by decide +kernel
theorem zkd:Rgt sD:=(UC zhs).2.2.2
def sX:Dc:={sD with notes:=sD.notes++[⟨100,2,2,0,0,0,⟨#[98,97]⟩⟩,⟨101,3,100,0,0,0,V0⟩,⟨102,2,2,0,0,1,⟨#[112,105]⟩⟩,⟨103,3,102,0,0,0,V2⟩]}
theorem zht:wU sX=true:=by decide +kernel
theorem W9:Rgt sX:=(UC zht).2.2.2
end Go.V.Doc
namespace Go.V.Doc
open Go Go.Proofs Go.RowKit
theorem zfy:NF Tryz.prog 70 2:=by
 refine⟨c_70,λvs w F=>?_⟩
 obtain⟨p,q,rfl⟩:∃ p q,vs=[p,q]:=by
  match vs,F with
  | [p,q],_=>exact⟨p,q,rfl⟩
 have H:∀ w,(Instr.typeAssert Value.nilIface 20 127 true).run Tryz.prog w = .ok (.tuple #[.agg #[.int .i64 0],.bool false]) w:=λw=>by kernel_rfl
 refine callsD_of_wpS Tryz.func70 rfl λc₀ cs E=>?_
 apply wpS_seq
 apply wpS_region
 simp[wpOpsS,go_sem,recoverD,E,Tryz.ntmps70,Exit.thenS,H]
 apply wpS_seq
 apply wpS_region
 simp[wpOpsS,go_sem,Exit.thenS]
 refine wpS_cond (t:=false) (by simp[Act.eval,Array.replicate]) ?_
 simp only[Bool.false_eq_true,if_false]
 refine wpS_of_wp (wp_skip ?_)
 have G:=wJ w (Obj.cells #[Value.int IntKind.i64 0] 127)
 cases c₀
 simp_all[bodyPostS,results,Tryz.results70]
theorem I9:zj Tryz.prog 71 [int 0] (.tup []):=by
 refine zn mixed Tryz.func71 rfl c_71 ?_
 simp+decide[Tryz.f71,int]
theorem zfz{d:Dc}(H:zv d.tiers 2=1)(k0:(zu d 0).kind=0)(k1:¬(zu d 1).kind=0)(p1:(zu d 1).par.toNat=0):qi d=y6 ((yf d 0 0).flatMap λp=>yf d p.id 1):=by
 have e0:qZ d 0=yf d 0 0:=by rw[qZ,if_pos (show(zu d ((0:Nat):Int)).kind=0 from k0)];rfl
 have e1:qZ d 1=(yf d 0 0).flatMap λp=>yf d p.id 1:=by
  have p1':(zu d ((1:Nat):Int)).par.toNat=0:=p1
  rw[qZ,if_neg (show ¬(zu d ((1:Nat):Int)).kind=0 from k1),dif_pos (by omega),p1',e0];rfl
 unfold qi
 rw[H]
 show y6 (qZ d 1)=_
 rw[e1]
theorem zhu:qi sD=[2,3]:=by rw[zfz (by decide +kernel) (by decide +kernel) (by decide +kernel) (by decide +kernel)];decide +kernel
theorem Ia:yw sD=true:=by decide +kernel
theorem zc0:xq sD sG 2 sQ 100=(sX,0):=by kernel_rfl
theorem Ib:y9 sD sG sL 2=⟨⟨5,2⟩,4,sQ⟩:=by decide +kernel
theorem zke:¬(y9 sX sG sL 3).kind=4:=by decide +kernel
theorem zkf:wG sD sG 2 sQ=false:=by decide +kernel
theorem zk9:zR sX 3 3=[]:=by decide +kernel
theorem zhv:xb sX 2=([⟨#[98,97]⟩,⟨#[112,105]⟩],[V0,V2]):=by decide +kernel
theorem zhw:W7 sX sG sL=[]:=by decide +kernel
theorem zkg:W7 sX sG []=[2]:=by decide +kernel
end Go.V.Doc
namespace Go.V.Doc
open Go Go.Proofs Go.RowKit
def jB(g:Lang)(l:List Dec):List Int->Dc->Int->Dc×Int
 | [],d,_=>(d,0)
 |w::ws,d,nx=>
  if ¬(y9 d g l w).kind=4 then jB g l ws (if 0<(zR d w 3).length then xm d w else d) nx
  else if wG d g w (y9 d g l w).pick=true then jB g l ws d nx
  else if ¬(xq d g w (y9 d g l w).pick nx).2=0 then (kG,(xq d g w (y9 d g l w).pick nx).2)
  else jB g l ws (xq d g w (y9 d g l w).pick nx).1 (nx+2*(y9 d g l w).pick.length)
def xf(d:Dc)(g:Lang)(l:List Dec)(nx:Int):Dc×Int:=if yw d=true then jB g l (qi d) d nx else (kG,14)
section
variable {d:Dc} {w v nx:Int} {F G:List ByteArray}
theorem Wa(h:Rgt d)(G:yw d=true){n:Nt}(F:n∈d.notes)(E:n.tier=zv d.tiers 2):n∈zQ d w:=by
 refine vM.2 ⟨F,λK=>?_⟩
 obtain⟨c,J,L,_⟩:=(uU h F).1 K
 have H:=Js h F J
 have M:=(Zi h G).m
 obtain⟨t,et⟩:∃ t:Nat,zv d.tiers 3=t:=⟨(zv d.tiers 3).toNat,by omega⟩
 rw[et] at M
 have O:=h.up (t:=t) (by omega) (by rw[M.1];decide)
 rw[M.2.1] at O
 omega
theorem X8(H:yo d v=true):(zp d.notes v).1∈d.notes/\(zp d.notes v).1.id=v/\(zp d.notes v).1.tier=zv d.tiers 2/\zp d.notes v=((zp d.notes v).1,true):=by
 unfold yo at H
 rw[Bool.and_eq_true,decide_eq_true_eq] at H
 have G:=uP H.1
 exact⟨G.1,G.2,H.2,Prod.ext rfl H.1⟩
theorem Wb(h:Rgt d)(H:yw d=true)(G:yo d v=true):zp (zQ d w) v=zp d.notes v:=by
 obtain⟨F,E,K,J⟩:=X8 G
 rw[J]
 have:=kP (X1 h w) (Wa h H F K)
 rw[E] at this;exact this
theorem GG(h:Rgt d)(H:yw d=true)(E:yo d v=true)(K:qE (zQ d w) nx (2*F.length)=false):zp (yQ d w nx F G).notes v=zp d.notes v:=by
 obtain⟨J,L,M,O⟩:=X8 E
 rw[O]
 have:=kP (Y5 (G:=G) h K) (vN.2 (.inl (Wa h H J M)))
 rw[L] at this;exact this
end
structure yF(d0 d:Dc)(ws:List Int):Prop where
 m:Mid d
 ti:d.tiers=d0.tiers
 id:d.id=d0.id
 wd:∀ v∈ws,yo d v=true/\zp d.notes v=zp d0.notes v
theorem Wc{d x:Dc}{v:Int}(H:x.tiers=d.tiers)(G:zp x.notes v=zp d.notes v):yo x v=yo d v:=by unfold yo;rw[H,G]
theorem yF.clear{d0 d:Dc}{ws:List Int}(h:yF d0 d ws)(w:Int):yF d0 (xm d w) ws:=by
 refine⟨h.m.clear w,h.ti,h.id,λv G=>?_⟩
 have F:=Wb (w:=w) h.m.r h.m.y (h.wd v G).1
 have H:zp (xm d w).notes v=zp d.notes v:=F
 exact⟨by rw[@Wc d (xm d w) v rfl H];exact(h.wd v G).1,H.trans (h.wd v G).2⟩
theorem yF.fill{d0 d:Dc}{ws:List Int}(h:yF d0 d ws){g:Lang}(H:LightF g){w:Int}{ps:List Prt}{nx:Int}(F:(xq d g w ps nx).2=0):yF d0 (xq d g w ps nx).1 ws:=by
 have E:=h.m.fill H F
 obtain⟨_,_,_,_,_,c6,_,c8⟩:=QY F
 rw[c8] at E ⊢
 refine⟨E,h.ti,h.id,λv K=>?_⟩
 have J:=GG (G:=(yz g ps).2.1) h.m.r h.m.y (h.wd v K).1 c6
 exact⟨by rw[@Wc d (yQ d w nx (yz g ps).1 (yz g ps).2.1) v rfl J];exact(h.wd v K).1,J.trans (h.wd v K).2⟩
theorem Ic{d:Dc}(h:Rgt d)(H:yw d=true){v:Int}(G:v∈qi d):yo d v=true:=by
 obtain⟨t,et,F⟩:=X7 H
 unfold qi y6 at G
 rw[et] at G
 obtain⟨n,E,rfl⟩:=List.mem_map.1 G
 have E:=(Z4 h.w t F n).1 E
 unfold yo
 rw[ju h E.1,et,E.2];simp
theorem Ie{d:Dc}(h:Mid d):yF d d (qi d):=⟨h,rfl,rfl,λv H=>⟨Ic h.r h.y H,rfl⟩⟩
def V3(e:Int):Value:=.iface 127 (.agg #[.int .i64 e])
theorem If{e:Int}(H:e≠0):NY Tryz.prog 71 [int e] (V3 e):=by
 refine⟨c_71,λw E vs G F=>?_⟩
 simp only[zH,R,int] at F
 obtain⟨v,vs',rfl,rfl,rfl⟩:=F
 refine calls_of_wp Tryz.func71 rfl ?_
 apply wp_seq
 apply wp_region
 simp[wpOps,go_sem]
 refine .inl (.inl (wp_cond (t:=true) ?_ ?_))
 .simp[Act.eval,H]
 rw[if_pos rfl]
 apply wp_region
 simp[wpOps,go_sem,bodyPost,V3,Go.V.Below.refl]
theorem Ig(e:Int):D8 Tryz.prog 70 (V3 e) [.bp 0 0,.bp 1 0] [(0,.box 53 zeroCells),(1,.box 43 [.d (int 0)])] [(0,.box 53 zeroCells),(1,.box 43 [.d (int e)])] 2:=by
 refine ziv mixed Tryz.func70 rfl c_70 (s:=.tup [.d (.agg [int e]),.d (.bool true)]) (y:=.tuple #[.agg #[.int .i64 e],.bool true]) (by simp[Sym.los,Sym.lo]) rfl rfl rfl rfl (by decide) (by decide) (λa w=>rfl) (λa w h=>?_) (by simp[Sym.los,Sym.lo]) (λw E β=>by simp[Sm,zh,R,int];exact⟨_,_,rfl,rfl,rfl,rfl⟩) rfl ?_
 .have h:a.tmps[5]?.getD undef=V3 e:=by simpa[Act.eval] using h
  simp[execOp,Act.eval,h,V3,go_sem];rfl
 .simp+decide[int]
  refine XZ mixed 3 [0,1] (by rfl) (by rfl) (by rfl) (by rfl) (by simp) ?_
  simp+decide[int]
end Go.V.Doc
namespace Go.V.Doc
open Go Go.Proofs Go.RowKit
theorem Ih{d x:Dc}(H:vy d.notes)(G:vy x.notes)(F:x.tiers=d.tiers){v t:Int}(h:∀ n,n.tier=t->n.par=v->(n∈x.notes↔n∈d.notes)):yf x v t=yf d v t:=by
 unfold yf
 rw[show ym x v t=ym d v t by funext n;unfold ym;rw[F]]
 rw[JW (G.sublist List.filter_sublist) (H.sublist List.filter_sublist) λn=>?_]
 simp only[List.mem_filter]
 refine and_congr_left λhk=>?_
 unfold ym at hk
 simp only[Bool.and_eq_true,decide_eq_true_eq] at hk
 exact h n hk.1.1.1 hk.1.1.2
theorem Xa{d:Dc}{v t:Int}{n:Nt}(h:n∈yf d v t):n∈d.notes/\n.tier=t/\n.par=v:=by
 unfold yf at h
 have h:=List.mem_filter.1 ((uQ _).mem_iff.1 h)
 have H:=h.2
 unfold ym at H
 simp only[Bool.and_eq_true,decide_eq_true_eq] at H
 exact⟨h.1,H.1.1.1,H.1.1.2⟩
theorem Ii{d x:Dc}(H:vy d.notes)(G:vy x.notes)(F:x.tiers=d.tiers){v:Int}(E:zp x.notes v=zp d.notes v)
  (K:∀ n,n.tier=zv d.tiers 3->n.par=v->(n∈x.notes↔n∈d.notes))
  (J:∀ m∈yf d v (zv d.tiers 3),∀ n,n.tier=zv d.tiers 4->n.par=m.id->(n∈x.notes↔n∈d.notes)):xb x v=xb d v/\zR x v 3=zR d v 3:=by
 have k3:zR x v 3=zR d v 3:=by unfold zR;rw[F,Ih H G F K]
 refine⟨?_,k3⟩
 have tx:∀ n,n∈x.notes->n∈d.notes->xR x n.id=xR d n.id:=λn a b=>by unfold xR;rw[kP G a,kP H b]
 have L:∀ m∈zR d v 3,∃ n∈yf d v (zv d.tiers 3),n.id=m:=λm L=>by
  unfold zR y6 at L;exact List.mem_map.1 L
 have e1:(zR d v 3).map (xR x)=(zR d v 3).map (xR d):=List.map_congr_left λm h=>by
  obtain⟨n,M,rfl⟩:=L m h;obtain⟨n1,n2,n3⟩:=Xa M;exact tx n ((K n n2 n3).2 n1) n1
 have e2:((zR d v 3).map λm=>kF x (zR x m 4))=(zR d v 3).map λm=>kF d (zR d m 4):=List.map_congr_left λm h=>by
  obtain⟨n,M,rfl⟩:=L m h;have e4:zR x n.id 4=zR d n.id 4:=by unfold zR;rw[F,Ih H G F (J n M)]
  rw[e4];unfold kF;have O:∀ k∈zR d n.id 4,xR x k=xR d k:=λk O=>by
   unfold zR y6 at O;obtain⟨c,Q,rfl⟩:=List.mem_map.1 O;obtain⟨c1,c2,c3⟩:=Xa Q;exact tx c ((J n M c c2 c3).2 c1) c1
  generalize zR d n.id 4=l at O;generalize ByteArray.empty=a;induction l generalizing a with
  |nil=>rfl
  |cons k r ih=>
   rw[List.foldl_cons,List.foldl_cons,O k List.mem_cons_self];exact ih (λk h=>O k (List.mem_cons_of_mem _ h)) _
 unfold xb YI yw
 rw[Wc F E,F,k3,e1,e2]
section
variable {d:Dc} {w v nx:Int} {F G:List ByteArray}
theorem Wd(h:Rgt d){p n:Nt}(F:p∈zQ d w)(E:n∈d.notes)(H:n.par=p.id)(G:n.tier≠zv d.tiers 3\/p.id≠w):n∈zQ d w:=by
 obtain⟨p1,p2⟩:=vM.1 F
 refine vM.2 ⟨E,λK=>?_⟩
 obtain⟨c,J,L,M⟩:=(uU h E).1 K
 rw[(xd h E).1,H,ju h p1] at J
 rcases List.mem_cons.1 J with rfl | J
 .rcases G with e | e
  .exact e L
  .exact e (H.symm.trans M)
 .exact p2 ((uU h p1).2 ⟨c,J,L,M⟩)
theorem zc1(h:Rgt d)(F:yw d=true)(E:yo d v=true)(H:v≠w):xb (xm d w) v=xb d v/\zR (xm d w) v 3=zR d v 3:=by
 obtain⟨q1,q2,q3,q4⟩:=X8 E
 have K:=Wa (w:=w) h F q1 q3
 have J:=Zi h F
 have G:zv d.tiers 4≠zv d.tiers 3:=λe=>by have:=J.g.1;have:=J.m.1;rw[e] at *;omega
 have k3:∀ n,n∈d.notes->n.tier=zv d.tiers 3->n.par=v->n∈zQ d w:=λn a b c=>Wd h K a (c.trans q2.symm) (.inr (by rw[q2];exact H))
 refine Ii (x:=xm d w) h.inc (X1 h w) rfl (Wb h F E) (λn a b=>⟨λL=>(vM.1 L).1,λL=>k3 n L a b⟩) λm M n a b=>⟨λL=>(vM.1 L).1,λL=>?_⟩
 obtain⟨m1,m2,m3⟩:=Xa M
 exact Wd h (k3 m m1 m2 m3) L b (.inl (by rw[a];exact G))
theorem zf0(h:Rgt d):zR (xm d w) w 3=[]:=by
 cases H:zR (xm d w) w 3 with
 |nil=>rfl
 |cons m l=>
  have G:m∈y6 (yf (xm d w) w (zv d.tiers 3)):=by
   have:y6 (yf (xm d w) w (zv d.tiers 3))=m::l:=H
   rw[this];exact List.mem_cons_self
  unfold y6 at G;obtain⟨n,F,_⟩:=List.mem_map.1 G;obtain⟨n1,n2,n3⟩:=Xa F;exact(QX h n1 n2 n3).elim
theorem zed(h:Rgt d)(K:yw d=true)(J:yo d v=true)(E:v≠w)(L:qE (zQ d w) nx (2*F.length)=false):xb (yQ d w nx F G) v=xb d v/\zR (yQ d w nx F G) v 3=zR d v 3:=by
 obtain⟨q1,q2,q3,q4⟩:=X8 J
 have M:=Wa (w:=w) h K q1 q3
 have O:=Zi h K
 have H:zv d.tiers 4≠zv d.tiers 3:=λe=>by have:=O.g.1;have:=O.m.1;rw[e] at *;omega
 have k3:∀ n,n∈d.notes->n.tier=zv d.tiers 3->n.par=v->n∈zQ d w:=λn a b c=>Wd h M a (c.trans q2.symm) (.inr (by rw[q2];exact E))
 refine Ii (x:=yQ d w nx F G) h.inc (Y5 h L) rfl (GG h K J L) (λn a b=>⟨λQ=>?_,λQ=>vN.2 (.inl (k3 n Q a b))⟩) λm T n a b=>⟨λQ=>?_,λQ=>?_⟩
 .rcases vN.1 Q with Q | Q
  .exact(vM.1 Q).1
  .obtain⟨i,hi,rfl | rfl⟩:=jA.1 Q
   .exact absurd b.symm E
   .exact absurd a H
 .rcases vN.1 Q with Q | Q
  .exact(vM.1 Q).1
  .obtain⟨m1,m2,m3⟩:=Xa T
   obtain⟨i,hi,rfl | rfl⟩:=jA.1 Q
   .exact absurd a.symm H
   .exact absurd b.symm (by
     have:=Gp L (k3 m m1 m2 m3) (j:=2*i) (by omega)
     intro e;exact this (by rw[e];push_cast;rfl))
 .obtain⟨m1,m2,m3⟩:=Xa T
  exact vN.2 (.inl (Wd h (k3 m m1 m2 m3) Q b (.inl (by rw[a];exact H))))
end
end Go.V.Doc
namespace Go.V.Doc
open Go Go.Proofs Go.RowKit
theorem zf1{l:List Nt}(h:l.Pairwise λa b=>qm b a=false)(H:∀ a∈l,∀ b∈l,qm a b=false->qm b a=false->a=b):qY l=l:=
 List.Perm.eq_of_pairwise (le:=λa b=>qm b a=false) (λa b m1 m2 r1 r2=>H a ((uQ l).mem_iff.1 m1) b m2 r2 r1) (Be l) h (uQ l)
section
variable {d:Dc} {w nx:Int} {F G:List ByteArray}
theorem Ij(i j:Nat):qm (Y4 d w nx F i) (Y4 d w nx F j)=decide (i<j):=by
 rw[Bool.eq_iff_iff,Ue,decide_eq_true_iff]
 simp
theorem zf2(h:Rgt d)(K:yw d=true)(J:qE (zQ d w) nx (2*F.length)=false):yf (yQ d w nx F G) w (zv d.tiers 3)=(List.range F.length).map (Y4 d w nx F):=by
 have L:=Zi h K
 have H:zv d.tiers 4≠zv d.tiers 3:=λe=>by have:=L.g.1;have:=L.m.1;rw[e] at *;omega
 unfold yf
 have e:(yQ d w nx F G).notes.filter (ym (yQ d w nx F G) w (zv d.tiers 3))=(List.range F.length).map (Y4 d w nx F):=by
  refine JW ((Y5 h J).sublist List.filter_sublist) ?_ λn=>?_
  .unfold vy
   rw[List.pairwise_map];exact List.pairwise_lt_range.imp λ{a b} E=>by show nx+2*(a:Int)<nx+2*b;omega
  .rw[List.mem_filter,vN,List.mem_map]
   constructor
   .rintro⟨M,O⟩
    unfold ym at O;simp only[Bool.and_eq_true,decide_eq_true_eq] at O;obtain⟨⟨⟨a,b⟩,_⟩,_⟩:=O;rcases M with M | M
    .exact(QX h M a b).elim
    .obtain⟨i,hi,rfl | rfl⟩:=jA.1 M
     .exact⟨i,List.mem_range.2 hi,rfl⟩
     .exact absurd a H
   .rintro⟨i,hi,rfl⟩
    refine⟨.inr (jA.2 ⟨i,List.mem_range.1 hi,.inl rfl⟩),?_⟩
    unfold ym;simp only[Bool.and_eq_true,decide_eq_true_eq];exact⟨⟨⟨by simp,by simp⟩,L.m.2.2.1⟩,L.m.2.2.2⟩
 rw[e]
 refine zf1 ?_ ?_
 .rw[List.pairwise_map]
  exact List.pairwise_lt_range.imp λ{a b} E=>by rw[Ij,decide_eq_false (by omega)]
 .intro a Q b T M O
  obtain⟨i,_,rfl⟩:=List.mem_map.1 Q;obtain⟨j,_,rfl⟩:=List.mem_map.1 T;rw[Ij,decide_eq_false_iff_not] at M O;rw[show i=j by omega]
theorem zf3(h:Rgt d)(E:yw d=true)(K:qE (zQ d w) nx (2*F.length)=false){i:Nat}(hi:i<F.length):yf (yQ d w nx F G) (nx+2*i) (zv d.tiers 4)=[X3 d nx G i]:=by
 have J:=Zi h E
 have H:zv d.tiers 4≠zv d.tiers 3:=λe=>by have:=J.g.1;have:=J.m.1;rw[e] at *;omega
 unfold yf
 have e:(yQ d w nx F G).notes.filter (ym (yQ d w nx F G) (nx+2*i) (zv d.tiers 4))=[X3 d nx G i]:=by
  refine JW ((Y5 h K).sublist List.filter_sublist) (by simp[vy]) λn=>?_
  rw[List.mem_filter,vN,List.mem_singleton];constructor
  .rintro⟨L,M⟩
   unfold ym at M;simp only[Bool.and_eq_true,decide_eq_true_eq] at M;obtain⟨⟨⟨a,b⟩,_⟩,_⟩:=M;rcases L with L | L
   .exact(JX h J K hi L a b).elim
   .obtain⟨j,hj,rfl | rfl⟩:=jA.1 L
    .exact absurd a.symm H
    .have b:nx+2*(j:Int)=nx+2*i:=b
     rw[show j=i by omega]
  .rintro rfl
   refine⟨.inr (jA.2 ⟨i,hi,.inr rfl⟩),?_⟩
   unfold ym;simp only[Bool.and_eq_true,decide_eq_true_eq];exact⟨⟨⟨by simp,by simp⟩,J.g.2.2.1⟩,J.g.2.2.2⟩
 rw[e]
 exact List.perm_singleton.1 (uQ _)
theorem zhx(h:Rgt d)(H:yw d=true)(E:yo d w=true)(K:qE (zQ d w) nx (2*F.length)=false)(J:G.length=F.length):xb (yQ d w nx F G) w=(F,G)/\(zR (yQ d w nx F G) w 3).length=F.length:=by
 have tx:∀ n,n∈xg d w nx F G F.length->xR (yQ d w nx F G) n.id=n.text:=λn L=>by
  unfold xR;rw[kP (Y5 h K) (vN.2 (.inr L))]
 have e3:zR (yQ d w nx F G) w 3=(List.range F.length).map λi:Nat=>nx+2*(i:Int):=by
  show y6 (yf (yQ d w nx F G) w (zv d.tiers 3))=_
  rw[zf2 h H K];unfold y6;rw[List.map_map];rfl
 have hs:YI (yQ d w nx F G) w=true:=by
  unfold YI;rw[Bool.and_eq_true];exact⟨by rw[@Wc d (yQ d w nx F G) w rfl (GG h H E K)];exact E,H⟩
 refine⟨?_,by rw[e3];simp⟩
 unfold xb
 rw[if_pos hs,e3]
 refine Prod.ext ?_ ?_
 .refine List.ext_getElem (by simp) λi M O=>?_
  have hi:i<F.length:=O
  simp only[List.getElem_map,List.getElem_range];rw[tx (Y4 d w nx F i) (jA.2 ⟨i,hi,.inl rfl⟩)];simp[hi]
 .refine List.ext_getElem (by simp[J]) λi M O=>?_
  have hi:i<F.length:=by rw[<-J];exact O
  simp only[List.getElem_map,List.getElem_range];have e4:zR (yQ d w nx F G) (nx+2*i) 4=[nx+2*i+1]:=by
   show y6 (yf (yQ d w nx F G) (nx+2*i) (zv d.tiers 4))=_
   rw[zf3 h H K hi];rfl
  rw[e4];show xR (yQ d w nx F G) (X3 d nx G i).id=_
  rw[tx (X3 d nx G i) (jA.2 ⟨i,hi,.inr rfl⟩)];have:i<G.length:=O
  simp[this]
end
end Go.V.Doc
namespace Go.V.Doc
open Go Go.Proofs Go.RowKit
def jf(d:Dc)(g:Lang)(l:List Dec)(v:Int):Prop:=if (y9 d g l v).kind=4 then wG d g v (y9 d g l v).pick=true else zR d v 3=[]
theorem GH{d x:Dc}{g:Lang}{l:List Dec}{v:Int}(hi:x.id=d.id)(H:zp x.notes v=zp d.notes v):y9 x g l v=y9 d g l v:=by
 unfold y9 xR;rw[hi,H]
theorem zf4{d x:Dc}{g:Lang}{l:List Dec}{v:Int}(hi:x.id=d.id)(H:zp x.notes v=zp d.notes v)(h:xb x v=xb d v/\zR x v 3=zR d v 3)(hs:jf d g l v):jf x g l v:=by
 have e:y9 x g l v=y9 d g l v:=GH hi H
 unfold jf wG at hs ⊢
 rw[e,h.1,h.2]
 exact hs
theorem Ik{d x:Dc}{v:Int}(H:x.tiers=d.tiers)(G:vy d.notes)(F:∀ n∈x.notes,n.tier=zv d.tiers 2->n∈d.notes)(E:yo x v=true):yo d v=true:=by
 obtain⟨q1,q2,q3,q4⟩:=X8 E
 rw[H] at q3
 have:=kP G (F _ q1 q3)
 rw[q2] at this
 unfold yo
 rw[this,decide_eq_true q3];rfl
theorem zc2{d:Dc}(H:yw d=true):zv d.tiers 3≠zv d.tiers 2/\zv d.tiers 4≠zv d.tiers 2:=by
 unfold yw at H
 simp only[Bool.and_eq_true,decide_eq_true_eq] at H
 obtain⟨t2,e2,l2,r2⟩:=QW (by decide) H.1
 constructor <;> intro e
 .obtain⟨t3,e3,l3,r3⟩:=QW (by decide) H.2.1
  have:t3=t2:=by omega
  subst this;rw[r2] at r3;cases r3
 .obtain⟨t4,e4,l4,r4⟩:=QW (by decide) H.2.2
  have:t4=t2:=by omega
  subst this;rw[r2] at r4;cases r4
structure AllT(d0 d:Dc)(ws:List Int):Prop where
 s:yF d0 d ws
 b:∀ v,yo d v=true->v∈ws
theorem AllT.clear{d0 d:Dc}{ws:List Int}(h:AllT d0 d ws)(w:Int):AllT d0 (xm d w) ws:=
 ⟨h.s.clear w,λv H=>h.b v (Ik (x:=xm d w) rfl h.s.m.r.inc (λn G _=>(vM.1 G).1) H)⟩
theorem AllT.fill{d0 d:Dc}{ws:List Int}(h:AllT d0 d ws){g:Lang}(H:LightF g){w:Int}{ps:List Prt}{nx:Int}(G:(xq d g w ps nx).2=0):AllT d0 (xq d g w ps nx).1 ws:=by
 refine⟨h.s.fill H G,λv hv=>h.b v ?_⟩
 obtain⟨_,_,_,_,_,c6,_,c8⟩:=QY G
 rw[c8] at hv
 have F:=Zi h.s.m.r h.s.m.y
 obtain⟨u3,u4⟩:=zc2 h.s.m.y
 refine Ik (x:=yQ d w nx (yz g ps).1 (yz g ps).2.1) rfl h.s.m.r.inc (λn E K=>?_) hv
 rcases vN.1 E with E | E
 .exact(vM.1 E).1
 .obtain⟨i,hi,rfl | rfl⟩:=jA.1 E
  .have K:zv d.tiers 3=zv d.tiers 2:=K
   omega
  .have K:zv d.tiers 4=zv d.tiers 2:=K
   omega
theorem Il{d0:Dc}{g:Lang}(T:LightF g){l:List Dec}{ws:List Int}:∀ {vs:List Int} {d:Dc} {nx:Int},AllT d0 d ws->vs.Nodup->(∀ v∈vs,v∈ws)->(∀ v∈ws,v∉vs->jf d g l v)->(jB g l vs d nx).2=0 ->
  AllT d0 (jB g l vs d nx).1 ws/\∀ v∈ws,jf (jB g l vs d nx).1 g l v
 | [],d,nx,h,_,_,hs,_=>⟨h,λv V=>hs v V (by simp)⟩
 |w::vs,d,nx,h,G,H,hs,X=>by
  obtain⟨Q,G⟩:=List.nodup_cons.1 G;have Y:=h.s.wd w (H w List.mem_cons_self);have F:∀ v∈vs,v∈ws:=λv V=>H v (List.mem_cons_of_mem _ V)
  have step:∀ {x:Dc} {n:Int},AllT d0 x ws->x.id=d.id->(∀ v∈ws,v≠w->zp x.notes v=zp d.notes v/\xb x v=xb d v/\zR x v 3=zR d v 3)->jf x g l w->(jB g l vs x n).2=0 ->
    AllT d0 (jB g l vs x n).1 ws/\∀ v∈ws,jf (jB g l vs x n).1 g l v:=λ{x n} Z hi A L B=>
   Il T Z G F (λv V hn=>by
    by_cases e:v=w
    .rw[e];exact L
    .obtain⟨o1,o2⟩:=A v V e
     exact zf4 hi o1 o2 (hs v V (by simp[e,hn]))) B
  rw[jB] at X ⊢;by_cases C:(y9 d g l w).kind=4
  .rw[if_neg (λn=>n C)] at X ⊢
   by_cases I:wG d g w (y9 d g l w).pick=true
   .rw[if_pos I] at X ⊢
    exact step h rfl (λv V _=>⟨rfl,rfl,rfl⟩) (by unfold jf;rw[if_pos C];exact I) X
   .rw[if_neg I] at X ⊢
    by_cases N:(xq d g w (y9 d g l w).pick nx).2=0
    .rw[if_neg (λn=>n N)] at X ⊢
     have Z:=h.fill T N;have M:yo (xq d g w (y9 d g l w).pick nx).1 w=true/\zp (xq d g w (y9 d g l w).pick nx).1.notes w=zp d.notes w:=⟨(Z.s.wd w (H w List.mem_cons_self)).1,(Z.s.wd w (H w List.mem_cons_self)).2.trans Y.2.symm⟩
     have O:∀ v∈ws,zp (xq d g w (y9 d g l w).pick nx).1.notes v=zp d.notes v:=λv V=>(Z.s.wd v V).2.trans (h.s.wd v V).2.symm
     obtain⟨_,_,c3,_,_,c6,_,c8⟩:=QY N;have E:(yz g (y9 d g l w).pick).2.1.length=(yz g (y9 d g l w).pick).1.length:=Gm g _
     refine step Z (Z.s.id.trans h.s.id.symm) (λv V K=>⟨O v V,?_⟩) ?_ X
     .rw[c8]
      exact zed h.s.m.r h.s.m.y (h.s.wd v V).1 K c6
     .have J:y9 (xq d g w (y9 d g l w).pick nx).1 g l w=y9 d g l w:=GH (Z.s.id.trans h.s.id.symm) M.2
      unfold jf;rw[J,if_pos C,c8];unfold wG;rw[(zhx h.s.m.r h.s.m.y Y.1 c6 E).1];simp[c3]
    .rw[if_pos N] at X
     exact absurd X N
  .rw[if_pos C] at X ⊢
   by_cases P:0<(zR d w 3).length
   .rw[if_pos P] at X ⊢
    refine step (h.clear w) rfl (λv V K=>⟨Wb h.s.m.r h.s.m.y (h.s.wd v V).1,zc1 h.s.m.r h.s.m.y (h.s.wd v V).1 K⟩) ?_ X
    have J:y9 (xm d w) g l w=y9 d g l w:=GH rfl (Wb h.s.m.r h.s.m.y Y.1)
    unfold jf;rw[J,if_neg C];exact zf0 h.s.m.r
   .rw[if_neg P] at X ⊢
    exact step h rfl (λv V _=>⟨rfl,rfl,rfl⟩) (by unfold jf;rw[if_neg C];exact List.eq_nil_of_length_eq_zero (by omega)) X
theorem zhy{d:Dc}(h:Rgt d)(H:Fw d){g:Lang}(G:LightF g){l:List Dec}{nx:Int}(F:(xf d g l nx).2=0):Mid (xf d g l nx).1/\(xf d g l nx).1.tiers=d.tiers/\∀ v,yo (xf d g l nx).1 v=true->jf (xf d g l nx).1 g l v:=by
 unfold xf at F ⊢
 by_cases E:yw d=true
 .rw[if_pos E] at F ⊢
  obtain⟨t,et,K⟩:=X7 E;have J:∀ v,yo d v=true->v∈qi d:=λv L=>by
   obtain⟨q1,q2,q3,q4⟩:=X8 L;unfold qi y6;rw[et] at q3 ⊢;exact List.mem_map.2 ⟨_,(Z4 h.w t K _).2 ⟨q1,q3⟩,q2⟩
  obtain⟨r1,r2⟩:=Il G (ws:=qi d) (vs:=qi d) ⟨Ie ⟨h,E,H⟩,J⟩ (W6 h.w E).1 (λv L=>L) (λv L M=>absurd L M) F
  exact⟨r1.s.m,r1.s.ti,λv L=>r2 v (r1.b v L)⟩
 .rw[if_neg E] at F
  cases F
theorem zf5{P:Program}{f:Nat}{args:List D}{r:D}(h:xU P f args (λx=>x=r)):zj P f args r:=by
 refine⟨h.1,λw E vs H G=>(h.2 w E vs H G).mono λe w' F=>?_⟩
 obtain⟨v,x,K,J,rfl,L⟩:=F
 exact⟨v,K,J,L⟩
def k7(g:Lang)(l:List Dec)(d0:Dc)(ws:List Int)(x:Nat×Dc×Int):St:=
 {n:=86,next:=5,slots:=[(2,.d (zB l)),(3,.d (int x.2.2)),(4,.bp 0 0),(5,.bp 1 0),(8,.bp 2 0),(9,.bp 3 0),(10,.bp 4 0),(28,.d (ints ws)),(29,.d (int ws.length)),(30,.d (int x.1))],own:=[(0,.box 53 (yh x.2.1)),(1,.box 36 (vA g)),(2,.box 53 zeroCells),(3,.box 43 [.d (int 0)]),(4,.box 112 (jV d0))],base:=4}
structure AInv(g:Lang)(l:List Dec)(d0:Dc)(nx:Int)(ws:List Int)(x:Nat×Dc×Int):Prop where
 k:x.1<=ws.length
 s:yF d0 x.2.1 ws
 go:jB g l (ws.drop x.1) x.2.1 x.2.2=xf d0 g l nx
theorem Im{d:Dc}(h:Rgt d)(hw:Fw d)(g:Lang)(hL:LightF g)(hg:LangC g)(l:List Dec)(Y:l.length<2^40)(hp:∀ x∈l,x.pick.length<=4)(nx:Int):
  zj Tryz.prog 28 [zw d,g.d,zB l,int nx] (.tup [zw (xf d g l nx).1,int (xf d g l nx).2]):=by
 have Z:=h.few
 have A:=ZS h
 have O:=ZR d (by omega)
 have B:=ZQ d (by omega)
 refine zf5 (zbh mixed Tryz.func28 rfl c_28 1 (by rfl) (by rfl) ?_)
 simp+decide[Tryz.f28,zw,Dc.row,int,Lang.d,zq,zB,VV,D7]
 refine⟨_,_,⟨rfl,rfl⟩,zfy,by simp,?_⟩
 cases hr:yw d with
 |false=>
  rw[hr] at O;refine Yt (Yt (Ys (zL mixed ?_)))
  simp+decide[int,zw,Dc.row];refine zg O ?_
  simp+decide[int];refine NB (b:=true) (by simp) ?_
  rw[if_pos rfl];refine O0 ⟨rfl,_,_,_,_,_,_,_,rfl,rfl,If (e:=14) (by decide),⟨by simp,by simp⟩,[2,3],[(0,.box 53 zeroCells),(1,.box 43 [.d (int 0)])],?_,[(0,.box 53 zeroCells),(1,.box 43 [.d (int 14)])],[.bp 0 0,.bp 1 0],?_,?_,Ig 14,?_⟩
  .simp;exact⟨rfl,rfl⟩
  .simp[Sym.los,Sym.lo]
  .simp
  .simp+decide[xf,hr,int]
   exact⟨rfl,rfl,rfl⟩
 |true=>
  obtain⟨t,et,C⟩:=X7 hr;have hO:=Bm h.w hw t C;rw[show y6 (qZ d t)=qi d by unfold qi;rw[et];rfl,<-et] at hO
  obtain⟨I,N⟩:=W6 h.w hr;have hI:AInv g l d nx (qi d) (0,d,nx):=⟨Nat.zero_le _,Ie ⟨h,hr,hw⟩,by unfold xf;rw[if_pos hr];rfl⟩
  rw[hr] at O;refine Yt (Yt (Ys (zL mixed ?_)))
  simp+decide[int,zw,Dc.row];refine zg O ?_
  simp+decide[int];refine NB (b:=false) (by simp) ?_
  rw[if_neg (by decide)]
  refine Ys (zL mixed ?_)
  simp+decide
  refine Km mixed 1 (by rfl) ?_
  simp+decide[int];refine zg B ?_
  simp+decide[wV,int];refine Yt (Km mixed 1 (by rfl) ?_)
  simp+decide[int];refine zg hO ?_
  simp+decide[ints];generalize qi d=ws at hI I N ⊢;refine NA (zch (k7 g l d ws) (AInv g l d nx ws) (λx=>ws.length-x.1) (0,d,nx) hI ?_ ?_)
  .simp+decide[k7,int,ints,yh,vA,jV,zB]
  rintro⟨k,x,n1⟩ ⟨hk,hs,H⟩
  simp only at hk hs H
  have hx:=hs.m.r;have L:=hs.m.w;have W:=ZS hx;refine Km mixed 2 (by rfl) ?_
  by_cases G:k<ws.length
  case neg=>
   have:k=ws.length:=by omega
   subst this;rw[List.drop_length] at H;have H:(x,(0:Int))=xf d g l nx:=H
   rw[<-H];simp+decide[k7,int,ints];refine Ys (zL mixed ?_)
   simp+decide[int,ints,yh,zw,Dc.row]
  have F:(k:Int)<ws.length:=by omega
  obtain⟨w,ew⟩:∃ w,ws[k]=w:=⟨_,rfl⟩;have e1:ws[k]?=some w:=by rw[List.getElem?_eq_getElem G,ew]
  rw[List.drop_eq_getElem_cons G,ew] at H;have P:=hs.wd w (by rw[<-ew];exact List.getElem_mem G)
  have hS:=I4 hx g hL hg l Y hp w;have Q:=Gx hL x hp w;have hK:=ZN x w (zv x.tiers 3) L;have J:=I3 x w L (by omega) g hL hg (y9 x g l w).pick Q
  have hF:=zkb hx g hL hg w L (y9 x g l w).pick Q n1;have hC:=BW hx w L;rw[show j7 x w=(xm x w,0) by unfold j7;rw[if_neg (by rw[hs.m.y];decide),if_neg (by rw[P.1];decide)]] at hC
  rw[show y6 (yf x w (zv x.tiers 3))=zR x w 3 from rfl,hs.ti] at hK
  have M:=hs.clear w;have E:=hs.fill hL (w:=w) (ps:=(y9 x g l w).pick) (nx:=n1);have V:(xq x g w (y9 x g l w).pick n1).2=0->1<=n1/\n1<=1099511627768:=λhe=>(QY he).2.2.2.2.1
  rw[jB] at H;generalize wG x g w (y9 x g l w).pick=sb at J H;generalize xq x g w (y9 x g l w).pick n1=fe at hF H E V;obtain⟨y,e⟩:=fe;generalize y9 x g l w=st at hS J H Q hF;obtain⟨r,kd,q⟩:=st;generalize S:zR x w 3=K at hK H;have H0:K.length<20:=by rw[<-S];exact Qw x w 3 L
  generalize xm x w=z at hC H M;simp only at J H hF E Q V
  simp+decide[k7,int,ints,yh,vA,jV,zB,G,F,ew,e1,I64];by_cases X:kd=4
  case neg=>
   rw[if_pos X] at H;refine Ys (zL mixed ?_)
   simp+decide[k7,int,ints,yh,vA,jV,zB,G,F,ew,e1,I64];refine zg hS ?_
   simp+decide[int,ints,Stt.d,X];refine zF.XV (by rfl) hK ?_
   by_cases T:0<K.length
   case neg=>
    rw[if_neg T] at H;simp+decide[int,ints,T,I64];refine⟨by omega,k+1,x,n1,⟨G,hs,H⟩,by omega,?_⟩
    simp+decide[k7,int,ints,yh,vA,jV,zB]
   rw[if_pos T] at H;simp+decide[int,ints,T,I64];refine zg hC ?_
   simp+decide[int,ints,zw,Dc.row];refine zg I9 ?_
   simp+decide[I64];refine⟨by omega,k+1,z,n1,⟨G,M,H⟩,by omega,?_⟩
   simp+decide[k7,int,ints,yh,vA,jV,zB]
  subst X;rw[if_neg (by decide)] at H
  cases sb with
  |true=>
   rw[if_pos rfl] at H;refine Ys (zL mixed ?_)
   simp+decide[k7,int,ints,yh,vA,jV,zB,G,F,ew,e1,I64];refine zg hS ?_
   simp+decide[int,ints,Stt.d];refine zg J ?_
   simp+decide[int,ints,I64];refine⟨by omega,k+1,x,n1,⟨G,hs,H⟩,by omega,?_⟩
   simp+decide[k7,int,ints,yh,vA,jV,zB]
  |false=>
   rw[if_neg (by decide)] at H
   by_cases he:e=0
   case pos=>
    rw[if_neg (by rw[he];decide)] at H
    refine Ys (zL mixed ?_)
    simp+decide[k7,int,ints,yh,vA,jV,zB,G,F,ew,e1,I64];refine zg hS ?_
    simp+decide[int,ints,Stt.d];refine zg J ?_
    simp+decide[int,ints];refine zg hF ?_
    simp+decide[int,ints,zw,Dc.row,he];refine zg I9 ?_
    simp+decide[I64,zl];obtain⟨H1,Hc⟩:=V he;refine⟨by omega,by omega,by omega,k+1,y,n1+2*q.length,⟨G,E he,H⟩,by omega,?_⟩
    simp+decide[k7,int,ints,yh,vA,jV,zB]
   rw[if_pos he] at H;refine Yt (NA (Km mixed 5 (by rfl) ?_))
   simp+decide[k7,int,ints,yh,vA,jV,zB,G,F,ew,e1,I64];refine zg hS ?_
   simp+decide[int,ints,Stt.d];refine zg J ?_
   simp+decide[int,ints];refine zg hF ?_
   simp+decide[int,ints,zw,Dc.row];refine Yt (O0 ⟨rfl,?_⟩)
   simp+decide[int,-Q5];refine⟨rfl,_,_,_,_,_,_,_,rfl,rfl,If he,⟨by simp,by simp⟩,[2,3],[(0,.box 53 zeroCells),(1,.box 43 [.d (int 0)])],?_,[(0,.box 53 zeroCells),(1,.box 43 [.d (int e)])],[.bp 0 0,.bp 1 0],?_,?_,Ig e,?_⟩
   .simp;exact⟨rfl,rfl⟩
   .simp[Sym.los,Sym.lo]
   .simp
   .rw[<-H]
    simp+decide[int];exact⟨rfl,rfl⟩
end Go.V.Doc
namespace Go.V.Doc
open Go Go.Proofs
theorem zee{g:Lang}{r:Rf}{s:ByteArray}{l:List Dec}(h:(ut g r s l).kind=4):
  (qh l r).2=true/\(yY g.orth.units s).2.2=0/\jq g (yY g.orth.units s).1 (ut g r s l).pick=true/\(qh l r).1=(ut g r s l).pick:=by
 unfold ut at h ⊢
 split at h
 .rename_i H
  split at h
  .rename_i h2
   rw[if_pos H,if_pos h2];exact⟨H,h2.1,h2.2,rfl⟩
  .cases h
 .split at h
  .cases h
  split at h
  .cases h
  split at h <;> cases h
theorem zf6{d:Dc}(h:Rgt d)(hs:∀ t∈d.tiers,t.name.size<=9223372036854775807):zj Tryz.prog 32 [zw d] (int 0):=by
 have H:=Bd.2 h
 rw[Uu] at H
 have G:=ZS h
 have F:=h.few
 have:=Jm d (by omega) (by omega) hs λn E=>by
  have:=note_text h n.id
  rw[ju h E] at this;have:n.text.size<=1024:=this
  omega
 rwa [H] at this
theorem zf7{d:Dc}{g:Lang}{l:List Dec}(h:Rgt d)(hs:∀ v,yo d v=true->jf d g l v):X6 d g l=[]:=by
 unfold X6
 split
 .rename_i G
  have:(qi d).filter (qD d g l)=[]:=List.filter_eq_nil_iff.2 λv F E=>by
   have H:=hs v (Ic h G F);unfold jf at H;unfold qD at E;split at H
   .rename_i K
    simp[I5,K,H] at E
   .simp[H] at E
  rw[this];exact List.Perm.eq_nil (YM [])
 .rfl
theorem zbr(hA:zj Tryz.prog 13 [] (.bool true))(d:Dc)(hs:∀ t∈d.tiers,t.name.size<=9223372036854775807)(hx:∀ n∈d.notes,n.text.size<=9223372036854775807)(g:Lang)(hg:LangC g)(l:List Dec)(hl:l.length<2^40)(hf:JY l)(n1:Int):
  zj Tryz.prog 9 [zw d,g.d,zB l,int n1] (.bool true):=by
 refine zn mixed Tryz.func9 rfl c_9 ?_
 simp+decide[Tryz.f9,int,zB,zw,Dc.row,Lang.d]
 refine zF.some (by rfl) (zkc d hs hx g hg l hl hf) ?_
 rintro r ⟨b,rfl,hb⟩
 cases b with
 |false=>
  simp+decide
  refine zg hA ?_
  simp+decide
 |true=>
  obtain⟨C,hL,_,I⟩:=hb rfl;obtain⟨h1,h2,h3,hr⟩:=UC C;have hp:∀ x∈l,x.pick.length<=4:=λx hx=>(((zd9 l).1 I).1 x hx).le
  have hX:=Im hr (YH (by omega)) g hL hg l hl hp n1
  simp+decide
  refine zg hX ?_
  simp+decide[int,zw,Dc.row];by_cases he:(xf d g l n1).2=0
  case neg=>
   simp+decide[he];refine zg hA ?_
   simp+decide
  obtain⟨hm,Z,H⟩:=zhy hr (YH (by omega)) hL he
  generalize (xf d g l n1).1=x at hm Z H ⊢;have hC:=zf6 hm.r (by rw[Z];exact hs)
  have Hi:=ZS hm.r;have N:=hm.r.few;have hW:=Gy hm.r hm.w (by omega) g hL hg l hl hp
  rw[zf7 hm.r H] at hW;simp+decide[he];refine zg hC ?_
  simp+decide[int,zw,Dc.row];refine zg hW ?_
  simp+decide[int,ints,zw,Dc.row];refine yU mixed (λk:Nat=>{n:=138,next:=3,slots:=[(2,.d (zB l)),(4,.bp 0 0),(5,.bp 1 0),(9,.bp 2 0),(11,.d (int k))],own:=[(0,.box 53 (yh d)),(1,.box 36 (vA g)),(2,.box 53 (yh x))]})
   (λk=>k<=x.notes.length) (λk=>x.notes.length-k) 0 (Nat.zero_le _) ?_ ?_
  .simp+decide[int,ints,yh,vA,zB]
  intro k hk;refine zL mixed ?_
  by_cases G:k<x.notes.length
  case neg=>
   have:k=x.notes.length:=by omega
   subst this;simp+decide[int,ints,yh,zy];refine zg hA ?_
   simp+decide
  have F:(k:Int)<x.notes.length:=by omega
  obtain⟨n,en⟩:∃ n,x.notes[k]=n:=⟨_,rfl⟩;have e1:x.notes[k]?=some n:=by rw[List.getElem?_eq_getElem G,en]
  have hn:n∈x.notes:=by rw[<-en];exact List.getElem_mem G
  obtain⟨t,K,et⟩:=hm.r.UD hn;have et1:x.tiers[t]?=some x.tiers[t]:=List.getElem?_eq_getElem K
  obtain⟨T,eT⟩:∃ T,x.tiers[t]=T:=⟨_,rfl⟩;rw[eT] at et1;have E:(t:Int)<x.tiers.length:=by omega
  have P:T.role≠2\/yo x n.id=true:=by
   by_cases h2:T.role=2
   .refine .inr ?_
    unfold yo;rw[ju hm.r hn,et,HE hm.r K (by decide) (by rw[eT];exact h2)]
    simp
   .exact .inl h2
  by_cases M:T.role=2
  case neg=>
   simp+decide[int,ints,yh,vA,zy,zK,G,F,K,E,e1,en,Nt.row,Tir.row,et,et1,eT,M,I64];exact⟨by omega,k+1,G,by omega,by omega⟩
  have W:=P.resolve_left (λh=>h M)
  have H:=H n.id W;have H0:=Gw x n.id hm.w (by omega)
  simp+decide[int,ints,yh,vA,zy,zK,G,F,K,E,e1,en,Nt.row,Tir.row,et,et1,eT,M,I64];refine zg H0 ?_
  have Hs:=I1 x n.id hm.w;by_cases h0:(xb x n.id).1.length=0
  case pos=>
   simp+decide[int,xa,h0,I64];exact⟨by omega,k+1,G,by omega,by omega⟩
  have A:¬((xb x n.id).1.length:Int)=0:=by omega
  have B:(y9 x g l n.id).kind=4:=by
   by_cases h4:(y9 x g l n.id).kind=4
   .exact h4
   .unfold jf at H
    rw[if_neg h4] at H;exact absurd (by unfold xb;split <;> simp[H]) h0
  unfold jf at H;rw[if_pos B] at H;have O:=Gx hL x hp n.id;have J:=Gk g hL hg (y9 x g l n.id).pick O;obtain⟨q1,q2,q3,q4⟩:=zee B;have H1:xR x n.id=n.text:=by unfold xR;rw[ju hm.r hn]
  have Hc:n.text.size<=1024:=by have:=note_text hm.r n.id;rwa [ju hm.r hn] at this
  unfold wG at H;have q3:jq g (yY g.orth.units (xR x n.id)).1 (y9 x g l n.id).pick=true:=q3
  have q4:(qh l ⟨x.id,n.id⟩).1=(y9 x g l n.id).pick:=q4
  generalize (y9 x g l n.id).pick=pk at q3 q4 H O J;rw[H1] at q2 q3;have L:=zbm l ⟨x.id,n.id⟩ (by omega)
  rw[q1,q4] at L;have Q:=zff g.orth hg.orth hL.graphs n.text Hc;have Go:=JU g.orth.units n.text;have V:=Pw g (hL.Z9 hg) (yY g.orth.units n.text).1 (by omega) pk O
  rw[q3] at V;rw[q2] at Q;obtain⟨l1,l2,l3⟩:=of_decide_eq_true H;rw[l1,l2,l3] at J;have X:=W5 (xb x n.id).1 (xb x n.id).1 (by omega) (by omega)
  have Y:=W5 (xb x n.id).2 (xb x n.id).2 (by omega) (by omega)
  rw[decide_eq_true rfl] at X Y;have L:zj Tryz.prog 33 [zB l,uI ⟨x.id,n.id⟩] (.tup [zM pk,.bool true]):=L
  generalize xb x n.id=S at X Y J h0 A;generalize yY g.orth.units n.text=R at Q V;simp+decide[int,xa,h0,A,I64];refine zg L ?_
  simp+decide[int,zM,zl];refine zg Q ?_
  simp+decide[int,ints];refine zg J ?_
  simp+decide[int,xY];refine zg V ?_
  simp+decide[int];refine zg X ?_
  simp+decide[int];refine zg Y ?_
  simp+decide[int,I64];exact⟨by omega,k+1,G,by omega,by omega⟩
abbrev Io:List Sh:=[.str,.int .i64,.int .i64,.int .i64]
abbrev Ip:List Sh:=[.int .i64,.int .i64,.int .i64,.int .i64,.int .i64,.int .i64,.str]
abbrev GI:List Sh:=[.int .i64,.str,.int .i64,.int .i64,.sl [.int .i64],.sl Io,.sl Ip]
def Tir.ok(t:Tir):Prop:=t.name.size<=maxLen/\vi t.kind/\vi t.role/\vi t.par
structure Nt.ok(n:Nt):Prop where
 id:vi n.id
 tier:vi n.tier
 par:vi n.par
 fr:vi n.fr
 tO:vi n.tO
 rank:vi n.rank
 text:n.text.size<=maxLen
structure Dc.ok(d:Dc):Prop where
 id:vi d.id
 name:d.name.size<=maxLen
 len:vi d.len
 day:vi d.day
 spk:Hl d.spk
 tiers:d.tiers.length<=maxLen/\∀ t∈d.tiers,t.ok
 notes:d.notes.length<=maxLen/\∀ n∈d.notes,n.ok
theorem zc3{r:List D}(h:y5 r Io):∃ t:Tir,r=t.row/\t.ok:=by
 obtain⟨_,_,rfl,g1,r1⟩:=h.zW
 obtain⟨_,_,rfl,g2,r2⟩:=r1.zW
 obtain⟨_,_,rfl,g3,r3⟩:=r2.zW
 obtain⟨_,_,rfl,g4,r4⟩:=r3.zW
 obtain rfl:=r4.vY
 obtain⟨a,rfl,wa⟩:=g1.gG
 obtain⟨b,rfl,wb⟩:=g2.xu
 obtain⟨c,rfl,wc⟩:=g3.xu
 obtain⟨e,rfl,we⟩:=g4.xu
 exact⟨⟨a,b,c,e⟩,rfl,wa,wb,wc,we⟩
theorem zc4{r:List D}(h:y5 r Ip):∃ n:Nt,r=n.row/\n.ok:=by
 obtain⟨_,_,rfl,g1,r1⟩:=h.zW
 obtain⟨_,_,rfl,g2,r2⟩:=r1.zW
 obtain⟨_,_,rfl,g3,r3⟩:=r2.zW
 obtain⟨_,_,rfl,g4,r4⟩:=r3.zW
 obtain⟨_,_,rfl,g5,r5⟩:=r4.zW
 obtain⟨_,_,rfl,g6,r6⟩:=r5.zW
 obtain⟨_,_,rfl,g7,r7⟩:=r6.zW
 obtain rfl:=r7.vY
 obtain⟨a,rfl,wa⟩:=g1.xu
 obtain⟨b,rfl,wb⟩:=g2.xu
 obtain⟨c,rfl,wc⟩:=g3.xu
 obtain⟨e,rfl,we⟩:=g4.xu
 obtain⟨f,rfl,wf⟩:=g5.xu
 obtain⟨g,rfl,wg⟩:=g6.xu
 obtain⟨s,rfl,ws⟩:=g7.gG
 exact⟨⟨a,b,c,e,f,g,s⟩,rfl,wa,wb,wc,we,wf,wg,ws⟩
theorem zef{l:List D}(h:y5 l GI):∃ d:Dc,D.agg l=zw d/\d.ok:=by
 obtain⟨_,_,rfl,g1,r1⟩:=h.zW
 obtain⟨_,_,rfl,g2,r2⟩:=r1.zW
 obtain⟨_,_,rfl,g3,r3⟩:=r2.zW
 obtain⟨_,_,rfl,g4,r4⟩:=r3.zW
 obtain⟨_,_,rfl,g5,r5⟩:=r4.zW
 obtain⟨_,_,rfl,g6,r6⟩:=r5.zW
 obtain⟨_,_,rfl,g7,r7⟩:=r6.zW
 obtain rfl:=r7.vY
 obtain⟨a,rfl,wa⟩:=g1.xu
 obtain⟨b,rfl,wb⟩:=g2.gG
 obtain⟨c,rfl,wc⟩:=g3.xu
 obtain⟨e,rfl,we⟩:=g4.xu
 obtain⟨f,rfl,wf⟩:=zcp g5
 obtain⟨ts,rfl,wt1,wt2⟩:=yI.Yy (row:=Tir.row) (good:=Tir.ok) (λr H=>zc3 H) g6
 obtain⟨ns,rfl,wn1,wn2⟩:=yI.Yy (row:=Nt.row) (good:=Nt.ok) (λr H=>zc4 H) g7
 exact⟨⟨a,b,c,e,f,ts,ns⟩,rfl,wa,wb,wc,we,wf,⟨wt1,wt2⟩,wn1,wn2⟩
theorem zc5{l:List D}(h:y5 l GI):∃ d:Dc,D.agg l=zw d:=by
 obtain⟨d,e,_⟩:=zef h
 exact⟨d,e⟩
theorem Iq{d:Dc}(h:j4 1048576 (zw d)):(∀ t∈d.tiers,t.name.size<=9223372036854775807)/\(∀ n∈d.notes,n.text.size<=9223372036854775807):=by
 simp only[zw,Dc.row,j4,Caps,Cap,ints,int,List.length_map,and_true] at h
 obtain⟨_,_,_,_,_,⟨t1,t2⟩,n1,n2⟩:=h
 refine⟨λt ht=>?_,λn hn=>?_⟩
 .have:=wZ t2 t ht
  simp only[Tir.row,Caps,Cap,int] at this;omega
 .have:=wZ n2 n hn
  simp only[Nt.row,Caps,Cap,int] at this;omega
end Go.V.Doc
namespace Go.V
open Go Go.Proofs
def Rf.ok(r:Rf):Prop:=vi r.rcd/\vi r.note
def Dec.ok(d:Dec):Prop:=d.ref.ok/\Hn d.pick
abbrev Wg:List Sh:=[.int .i64,.int .i64,.bool,.sl Hm]
theorem za3{r:List D}(h:y5 r Wg):∃ d:Dec,r=d.row/\d.ok:=by
 obtain⟨_,_,rfl,g1,r1⟩:=h.zW
 obtain⟨_,_,rfl,g2,r2⟩:=r1.zW
 obtain⟨_,_,rfl,g3,r3⟩:=r2.zW
 obtain⟨_,_,rfl,g4,r4⟩:=r3.zW
 obtain rfl:=r4.vY
 obtain⟨a,rfl,wa⟩:=g1.xu
 obtain⟨b,rfl,wb⟩:=g2.xu
 obtain⟨c,rfl⟩:=g3.Kz
 obtain⟨l,rfl,wl⟩:=zbi g4
 exact⟨⟨⟨a,b⟩,c,l⟩,rfl,⟨wa,wb⟩,wl⟩
theorem zc6{d:D}(h:yI d (.sl Wg)):∃ l,d=zB l/\l.length<=maxLen/\∀ x∈l,x.ok:=by
 obtain⟨xs,rfl,H,G⟩:=yI.Yy (row:=Dec.row) (good:=Dec.ok) (λr F=>za3 F) h
 exact⟨xs,rfl,H,G⟩
end Go.V
namespace Go.V.Doc
open Go Go.Proofs
theorem zf8:zj Tryz.prog 40 [] (.tup [zw sD,sG.d,zB sL]):=by
 refine zn mixed Tryz.func40 rfl c_40 ?_
 simp+decide[Tryz.f40]
 refine VL [5,6,8,13,17,18,19,24,25] ?_
 simp+decide
 refine XZ mixed 6 [0,1] (by rfl) (by rfl) (by rfl) (by rfl) (by simp) ?_
 simp+decide
 exact⟨rfl,rfl,rfl⟩
theorem zeg(H:zj Tryz.prog 28 [zw sD,sG.d,zB sL,int 100] (.tup [zw sX,int 0])):zj Tryz.prog 13 [] (.bool true):=by
 refine zn mixed Tryz.func13 rfl c_13 ?_
 have E:=Gw sX 2 (YH (by decide +kernel)) (by decide +kernel)
 rw[zhv] at E
 have K:=Gy W9 (YH (by decide +kernel)) (by decide +kernel) sG GE GF [] (by decide +kernel) (by decide +kernel)
 rw[I7 W9,zkg] at K
 have J:=Gy W9 (YH (by decide +kernel)) (by decide +kernel) sG GE GF sL (by decide +kernel) (by decide +kernel)
 rw[I7 W9,zhw] at J
 have L:=ZR sD (by decide +kernel)
 rw[Ia] at L
 have G:=W5 [⟨#[98,97]⟩,⟨#[112,105]⟩] [⟨#[98,97]⟩,⟨#[112,105]⟩] (by simp) (by simp)
 have F:=W5 [V0,V2] [V0,V2] (by simp) (by simp)
 rw[decide_eq_true rfl] at G F
 simp+decide[Tryz.f13]
 refine zg zf8 ?_
 simp+decide[zw,Dc.row,Lang.d,zB,int]
 refine zg H ?_
 simp+decide[zw,Dc.row,int]
 refine zg E ?_
 simp+decide[xa]
 refine zg K ?_
 simp+decide[ints]
 refine zg L ?_
 simp+decide
 have M:sX.notes.length=7:=by decide +kernel
 simp+decide[zy,M]
 refine zg G ?_
 simp+decide
 refine zg F ?_
 simp+decide
 refine zg J ?_
 simp+decide[ints]
theorem zbs{d:D}(h:yI d (.sl Wg)):∃ l,d=zB l:=by
 obtain⟨l,e,_⟩:=zc6 h
 exact⟨l,e⟩
theorem Ir{l:List Dec}(h:j4 1048576 (zB l)):l.length<2^40/\JY l:=by
 simp only[zB,j4,Cap,List.length_map] at h
 refine⟨by omega,λx H=>?_⟩
 have:=wZ h.2 x H
 simp only[Dec.row,Caps,Cap,int,zl,List.length_map] at this
 unfold Dec.fit
 omega
theorem zc7:xf sD sG sL 100=(sX,0):=by
 have H:(y9 sD sG sL 2).kind=4:=by rw[Ib]
 have G:(y9 sD sG sL 2).pick=sQ:=by rw[Ib]
 unfold xf
 rw[if_pos Ia,zhu,jB,if_neg (λn=>n H),G,if_neg (by rw[zkf];decide),zc0,if_neg (λn=>n rfl),jB,if_pos zke,zk9]
 rfl
theorem zf9:zj Tryz.prog 13 [] (.bool true):=zeg (by
 have:=Im zkd (YH (by decide +kernel)) sG GE GF sL (by decide +kernel) (by decide +kernel) 100
 rwa [zc7] at this)
theorem za4(d:Dc)(c0:j4 1048576 (zw d))(g:Lang)(c1:j4 1048576 g.d)(l:List Dec)(c2:j4 1048576 (zB l))(nx:Int)(c3:j4 1048576 (int nx)):
  zj Tryz.prog 9 [zw d,g.d,zB l,int nx] (.bool true):=
 zbr zf9 d (Iq c0).1 (Iq c0).2 g (zfe c1) l (Ir c2).1 (Ir c2).2 nx
end Go.V.Doc

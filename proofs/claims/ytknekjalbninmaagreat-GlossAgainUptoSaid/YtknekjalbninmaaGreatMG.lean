/- Contracts and plain laws of this seat: part MG. It needs no conditions. -/
import Derived.Test.YtknekjalbninmaaGreatMF
import Derived.Test.YtknekjalbninmaaGreatW2
import Derived.WalkKit
import Derived.Recover
import Derived.Test.YtknekjalbninmaaGreatW3
import Derived.Test.YtknekjalbninmaaGreatME
import Derived.Test.YtknekjalbninmaaGreatMA
import Derived.Test.YtknekjalbninmaaGreatB1
import Derived.Test.YtknekjalbninmaaGreatTab
import Derived.OpenShut
set_option maxHeartbeats 32000000
set_option linter.unusedVariables false
set_option linter.unusedSimpArgs false
set_option linter.unusedSectionVars false
set_option maxRecDepth 100000
namespace Go.V.Doc
open Go Go.Proofs
def sB:ByteArray:=⟨#[98]⟩
def sA:ByteArray:=⟨#[97]⟩
def sP:ByteArray:=⟨#[112]⟩
def sI:ByteArray:=⟨#[105]⟩
def Vh:ByteArray:=⟨#[100,111,103]⟩
def Vi:ByteArray:=⟨#[80,76]⟩
def Wi:ByteArray:=⟨#[98,97,98,105]⟩
def sXX:ByteArray:=⟨#[120,120]⟩
def sG:Lang where
 inv:=[⟨sB,2⟩,⟨sA,3⟩,⟨sP,0⟩,⟨sI,11⟩]
 orth:=⟨⟨#[109,97,105,110]⟩,[⟨sB,[1]⟩,⟨sA,[2]⟩,⟨sP,[3]⟩,⟨sI,[4]⟩],[]⟩
 rules:=[⟨[3],[1],[⟨1,1⟩],[⟨1,1⟩],false,false⟩]
 net:=⟨2,[⟨0,1,1⟩,⟨1,2,1⟩],[1]⟩
 lex:=[⟨1,[1,2],1,[],0,[⟨Vh,.empty⟩],[],[]⟩,⟨2,[3,4],2,[],0,[⟨Vi,.empty⟩],[],[]⟩]
def sQ:List Prt:=[⟨1,0,0⟩,⟨2,0,0⟩]
def sL:List Dec:=[⟨⟨5,2⟩,true,sQ⟩]
theorem st1:(qg sG.orth.units Wi).2.2=0:=by decide +kernel
theorem st2:(qg sG.orth.units Wi).1=[1,2,1,4]:=by decide +kernel
theorem MQ:kH sG [1,2,1,4] sQ=true:=by decide +kernel
theorem st4:Xk sG ⟨5,2⟩ Wi sL=⟨⟨5,2⟩,4,sQ⟩:=by decide +kernel
theorem all_nil{α:Type}{p:α->Prop}:∀ x∈([]:List α),p x:=λx h=>by cases h
theorem all_cons{α:Type}{p:α->Prop}{a:α}{l:List α}(h:p a)(t:∀ x∈l,p x):∀ x∈a::l,p x:=λx H=>(List.mem_cons.1 H).elim (λe=>e▸h) (t x)
theorem Fe:LightF sG where
 rules:=all_cons ⟨⟨⟨by decide +kernel,by decide +kernel,by decide +kernel⟩,by decide +kernel⟩,by decide +kernel⟩ all_nil
 Yz:=all_cons (all_cons (.inr (by decide +kernel)) all_nil) all_nil
 net:=⟨by decide +kernel,all_cons ⟨⟨by decide +kernel,by decide +kernel⟩,⟨by decide +kernel,by decide +kernel⟩,by decide +kernel,by decide +kernel⟩ (all_cons ⟨⟨by decide +kernel,by decide +kernel⟩,⟨by decide +kernel,by decide +kernel⟩,by decide +kernel,by decide +kernel⟩ all_nil),by decide +kernel⟩
 lex:=⟨all_cons ⟨⟨by decide +kernel,⟨by decide +kernel,by decide +kernel,by decide +kernel⟩,⟨by decide +kernel,by decide +kernel⟩,all_nil⟩,.inl (by simp),by decide +kernel,by decide +kernel,all_nil,all_cons (by decide +kernel) all_nil⟩
  (all_cons ⟨⟨by decide +kernel,⟨by decide +kernel,by decide +kernel,by decide +kernel⟩,⟨by decide +kernel,by decide +kernel⟩,all_nil⟩,.inl (by simp),by decide +kernel,by decide +kernel,all_nil,all_cons (by decide +kernel) all_nil⟩ all_nil),
  λk h=>by
   have H:k=0:=by have:sG.lex.length=2:=rfl;omega
   subst H;exact(by decide:(1:Int)<2)⟩
 main:=⟨by decide +kernel,by decide +kernel⟩
 units1:=λu G=>
  have⟨a,b,c,d,e⟩:=(by decide +kernel:∀ u∈sG.orth.units,0<u.graph.size/\u.graph.size<=32/\1<=u.segs.length/\u.segs.length<=3/\xp u.graph=true) u G
  ⟨a,b,c,d,e⟩
 small:=⟨by decide +kernel,all_cons ⟨by decide +kernel,by decide +kernel,all_nil⟩ (all_cons ⟨by decide +kernel,by decide +kernel,all_nil⟩ all_nil)⟩
 segs:=by decide +kernel
 units:=by decide +kernel
 few:=by decide +kernel
 states:=by decide +kernel
 steps:=by decide +kernel
 final:=by decide +kernel
theorem Ff:LangC sG where
 inv:=⟨by decide +kernel,all_cons (by decide +kernel) (all_cons (by decide +kernel) (all_cons (by decide +kernel) (all_cons (by decide +kernel) all_nil)))⟩
 orth:=⟨by decide +kernel,all_cons ⟨by decide +kernel,by decide +kernel⟩ (all_cons ⟨by decide +kernel,by decide +kernel⟩ (all_cons ⟨by decide +kernel,by decide +kernel⟩ (all_cons ⟨by decide +kernel,by decide +kernel⟩ all_nil))),all_nil,by decide +kernel⟩
 rules:=⟨by decide +kernel,all_cons ⟨by decide +kernel,by decide +kernel⟩ all_nil⟩
 steps:=by decide +kernel
 final:=by decide +kernel
 lex:=⟨by decide +kernel,all_cons ⟨by decide +kernel,⟨by decide +kernel,all_nil⟩,⟨by decide +kernel,all_cons ⟨by decide +kernel,by decide +kernel⟩ all_nil⟩,by decide +kernel,by decide +kernel⟩ (all_cons ⟨by decide +kernel,⟨by decide +kernel,all_nil⟩,⟨by decide +kernel,all_cons ⟨by decide +kernel,by decide +kernel⟩ all_nil⟩,by decide +kernel,by decide +kernel⟩ all_nil)⟩
def sD:Dc where
 id:=5
 name:=⟨#[116]⟩
 len:=1000
 day:=1
 spk:=[1]
 tiers:=[⟨⟨#[116,101,120,116]⟩,0,1,-1⟩,⟨⟨#[119,111,114,100]⟩,2,2,0⟩,⟨⟨#[109,111,114,112,104]⟩,3,3,1⟩,⟨⟨#[103,108,111,115,115]⟩,4,4,2⟩]
 notes:=[⟨1,0,0,0,900,0,⟨#[98,97,98,105,32,120,120]⟩⟩,⟨2,1,1,0,400,0,Wi⟩,⟨3,1,1,400,900,0,sXX⟩]
theorem zkp:wE sD=true:=by decide +kernel
theorem znr:Rgt sD:=(G3 zkp).2.2.2
def sX:Dc:={sD with notes:=sD.notes++[⟨100,2,2,0,0,0,⟨#[98,97]⟩⟩,⟨101,3,100,0,0,0,Vh⟩,⟨102,2,2,0,0,1,⟨#[112,105]⟩⟩,⟨103,3,102,0,0,0,Vi⟩]}
theorem zkq:wE sX=true:=by decide +kernel
theorem Wj:Rgt sX:=(G3 zkq).2.2.2
end Go.V.Doc
namespace Go.V.Doc
open Go Go.Proofs Go.RowKit
theorem zh3:PP Tryz.prog 70 2:=by
 refine⟨c_70,λvs w F=>?_⟩
 obtain⟨p,q,rfl⟩:∃ p q,vs=[p,q]:=by
  match vs,F with
  | [p,q],_=>exact⟨p,q,rfl⟩
 have H:∀ w,(Instr.typeAssert Value.nilIface 20 127 true).run Tryz.prog w = .ok (.tuple #[.agg #[.int .i64 0],.bool false]) w:=λw=>by kernel_rfl
 refine callsD_of_wpS Tryz.func70 rfl λc₀ cs E=>?_
 apply wpS_seq
 apply wpS_region
 simp[wpOpsS,go_sem,recoverD,E,Tryz.ntmps70,Exit.thenS,H]
 apply wpS_seq
 apply wpS_region
 simp[wpOpsS,go_sem,Exit.thenS]
 refine wpS_cond (t:=false) (by simp[Act.eval,Array.replicate]) ?_
 simp only[Bool.false_eq_true,if_false]
 refine wpS_of_wp (wp_skip ?_)
 have G:=wP w (Obj.cells #[Value.int IntKind.i64 0] 127)
 cases c₀
 simp_all[bodyPostS,results,Tryz.results70]
theorem MR:zl Tryz.prog 71 [int 0] (.tup []):=by
 refine zp mixed Tryz.func71 rfl c_71 ?_
 simp+decide[Tryz.f71,int]
theorem zh4{d:Dc}(H:zw d.tiers 2=1)(k0:(zr d 0).kind=0)(k1:¬(zr d 1).kind=0)(p1:(zr d 1).par.toNat=0):qu d=yc ((yk d 0 0).flatMap λp=>yk d p.id 1):=by
 have e0:v7 d 0=yk d 0 0:=by rw[v7,if_pos (show(zr d ((0:Nat):Int)).kind=0 from k0)];rfl
 have e1:v7 d 1=(yk d 0 0).flatMap λp=>yk d p.id 1:=by
  have p1':(zr d ((1:Nat):Int)).par.toNat=0:=p1
  rw[v7,if_neg (show ¬(zr d ((1:Nat):Int)).kind=0 from k1),dif_pos (by omega),p1',e0];rfl
 unfold qu
 rw[H]
 show yc (v7 d 1)=_
 rw[e1]
theorem zkr:qu sD=[2,3]:=by rw[zh4 (by decide +kernel) (by decide +kernel) (by decide +kernel) (by decide +kernel)];decide +kernel
theorem MS:yw sD=true:=by decide +kernel
theorem zdn:xy sD sG 2 sQ 100=(sX,0):=by kernel_rfl
theorem MU:yn sD sG sL 2=⟨⟨5,2⟩,4,sQ⟩:=by decide +kernel
theorem zns:¬(yn sX sG sL 3).kind=4:=by decide +kernel
theorem znt:ki sD sG 2 sQ=false:=by decide +kernel
theorem zor:zN sX 3 3=[]:=by decide +kernel
theorem zks:qt sX 2=([⟨#[98,97]⟩,⟨#[112,105]⟩],[Vh,Vi]):=by decide +kernel
theorem zkt:Wh sX sG sL=[]:=by decide +kernel
theorem znu:Wh sX sG []=[2]:=by decide +kernel
end Go.V.Doc
namespace Go.V.Doc
open Go Go.Proofs Go.RowKit
def vg(g:Lang)(l:List Dec):List Int->Dc->Int->Dc×Int
 | [],d,_=>(d,0)
 |w::ws,d,nx=>
  if ¬(yn d g l w).kind=4 then vg g l ws (if 0<(zN d w 3).length then xr d w else d) nx
  else if ki d g w (yn d g l w).pick=true then vg g l ws d nx
  else if ¬(xy d g w (yn d g l w).pick nx).2=0 then (kN,(xy d g w (yn d g l w).pick nx).2)
  else vg g l ws (xy d g w (yn d g l w).pick nx).1 (nx+2*(yn d g l w).pick.length)
def yD(d:Dc)(g:Lang)(l:List Dec)(nx:Int):Dc×Int:=if yw d=true then vg g l (qu d) d nx else (kN,14)
section
variable {d:Dc} {w v nx:Int} {F G:List ByteArray}
theorem Wl(h:Rgt d)(G:yw d=true){n:Nt}(F:n∈d.notes)(E:n.tier=zw d.tiers 2):n∈zM d w:=by
 refine vR.2 ⟨F,λK=>?_⟩
 obtain⟨c,J,L,_⟩:=(gk h F).1 K
 have H:=JB h F J
 have M:=(Zs h G).m
 obtain⟨t,et⟩:∃ t:Nat,zw d.tiers 3=t:=⟨(zw d.tiers 3).toNat,by omega⟩
 rw[et] at M
 have O:=h.up (t:=t) (by omega) (by rw[M.1];decide)
 rw[M.2.1] at O
 omega
theorem Xm(H:yy d v=true):(zn d.notes v).1∈d.notes/\(zn d.notes v).1.id=v/\(zn d.notes v).1.tier=zw d.tiers 2/\zn d.notes v=((zn d.notes v).1,true):=by
 unfold yy at H
 rw[Bool.and_eq_true,decide_eq_true_eq] at H
 have G:=gb H.1
 exact⟨G.1,G.2,H.2,Prod.ext rfl H.1⟩
theorem Wm(h:Rgt d)(H:yw d=true)(G:yy d v=true):zn (zM d w) v=zn d.notes v:=by
 obtain⟨F,E,K,J⟩:=Xm G
 rw[J]
 have:=kV (Xg h w) (Wl h H F K)
 rw[E] at this;exact this
theorem Fg(h:Rgt d)(H:yw d=true)(E:yy d v=true)(K:qG (zM d w) nx (2*F.length)=false):zn (yR d w nx F G).notes v=zn d.notes v:=by
 obtain⟨J,L,M,O⟩:=Xm E
 rw[O]
 have:=kV (Yi (G:=G) h K) (vS.2 (.inl (Wl h H J M)))
 rw[L] at this;exact this
end
structure yI(d0 d:Dc)(ws:List Int):Prop where
 m:Mid d
 ti:d.tiers=d0.tiers
 id:d.id=d0.id
 wd:∀ v∈ws,yy d v=true/\zn d.notes v=zn d0.notes v
theorem Wn{d x:Dc}{v:Int}(H:x.tiers=d.tiers)(G:zn x.notes v=zn d.notes v):yy x v=yy d v:=by unfold yy;rw[H,G]
theorem yI.clear{d0 d:Dc}{ws:List Int}(h:yI d0 d ws)(w:Int):yI d0 (xr d w) ws:=by
 refine⟨h.m.clear w,h.ti,h.id,λv G=>?_⟩
 have F:=Wm (w:=w) h.m.r h.m.y (h.wd v G).1
 have H:zn (xr d w).notes v=zn d.notes v:=F
 exact⟨by rw[@Wn d (xr d w) v rfl H];exact(h.wd v G).1,H.trans (h.wd v G).2⟩
theorem yI.fill{d0 d:Dc}{ws:List Int}(h:yI d0 d ws){g:Lang}(H:LightF g){w:Int}{ps:List Prt}{nx:Int}(F:(xy d g w ps nx).2=0):yI d0 (xy d g w ps nx).1 ws:=by
 have E:=h.m.fill H F
 obtain⟨_,_,_,_,_,c6,_,c8⟩:=Xj F
 rw[c8] at E ⊢
 refine⟨E,h.ti,h.id,λv K=>?_⟩
 have J:=Fg (G:=(yA g ps).2.1) h.m.r h.m.y (h.wd v K).1 c6
 exact⟨by rw[@Wn d (yR d w nx (yA g ps).1 (yA g ps).2.1) v rfl J];exact(h.wd v K).1,J.trans (h.wd v K).2⟩
theorem MV{d:Dc}(h:Rgt d)(H:yw d=true){v:Int}(G:v∈qu d):yy d v=true:=by
 obtain⟨t,et,F⟩:=Xl H
 unfold qu yc at G
 rw[et] at G
 obtain⟨n,E,rfl⟩:=List.mem_map.1 G
 have E:=(Ze h.w t F n).1 E
 unfold yy
 rw[kK h E.1,et,E.2];simp
theorem MW{d:Dc}(h:Mid d):yI d d (qu d):=⟨h,rfl,rfl,λv H=>⟨MV h.r h.y H,rfl⟩⟩
def Vj(e:Int):Value:=.iface 127 (.agg #[.int .i64 e])
theorem MY{e:Int}(H:e≠0):Re Tryz.prog 71 [int e] (Vj e):=by
 refine⟨c_71,λw E vs G F=>?_⟩
 simp only[zF,R,int] at F
 obtain⟨v,vs',rfl,rfl,rfl⟩:=F
 refine calls_of_wp Tryz.func71 rfl ?_
 apply wp_seq
 apply wp_region
 simp[wpOps,go_sem]
 refine .inl (.inl (wp_cond (t:=true) ?_ ?_))
 .simp[Act.eval,H]
 rw[if_pos rfl]
 apply wp_region
 simp[wpOps,go_sem,bodyPost,Vj,Go.V.Below.refl]
theorem MZ(e:Int):DV Tryz.prog 70 (Vj e) [.bp 0 0,.bp 1 0] [(0,.box 53 zeroCells),(1,.box 43 [.d (int 0)])] [(0,.box 53 zeroCells),(1,.box 43 [.d (int e)])] 2:=by
 refine zlp mixed Tryz.func70 rfl c_70 (s:=.tup [.d (.agg [int e]),.d (.bool true)]) (y:=.tuple #[.agg #[.int .i64 e],.bool true]) (by simp[Sym.los,Sym.lo]) rfl rfl rfl rfl (by decide) (by decide) (λa w=>rfl) (λa w h=>?_) (by simp[Sym.los,Sym.lo]) (λw E β=>by simp[Sm,zg,R,int];exact⟨_,_,rfl,rfl,rfl,rfl⟩) rfl ?_
 .have h:a.tmps[5]?.getD undef=Vj e:=by simpa[Act.eval] using h
  simp[execOp,Act.eval,h,Vj,go_sem];rfl
 .simp+decide[int]
  refine Qj mixed 3 [0,1] (by rfl) (by rfl) (by rfl) (by rfl) (by simp) ?_
  simp+decide[int]
end Go.V.Doc
namespace Go.V.Doc
open Go Go.Proofs Go.RowKit
theorem N1{d x:Dc}(H:vE d.notes)(G:vE x.notes)(F:x.tiers=d.tiers){v t:Int}(h:∀ n,n.tier=t->n.par=v->(n∈x.notes↔n∈d.notes)):yk x v t=yk d v t:=by
 unfold yk
 rw[show yq x v t=yq d v t by funext n;unfold yq;rw[F]]
 rw[W6 (G.sublist List.filter_sublist) (H.sublist List.filter_sublist) λn=>?_]
 simp only[List.mem_filter]
 refine and_congr_left λhk=>?_
 unfold yq at hk
 simp only[Bool.and_eq_true,decide_eq_true_eq] at hk
 exact h n hk.1.1.1 hk.1.1.2
theorem Xn{d:Dc}{v t:Int}{n:Nt}(h:n∈yk d v t):n∈d.notes/\n.tier=t/\n.par=v:=by
 unfold yk at h
 have h:=List.mem_filter.1 ((gd _).mem_iff.1 h)
 have H:=h.2
 unfold yq at H
 simp only[Bool.and_eq_true,decide_eq_true_eq] at H
 exact⟨h.1,H.1.1.1,H.1.1.2⟩
theorem N2{d x:Dc}(H:vE d.notes)(G:vE x.notes)(F:x.tiers=d.tiers){v:Int}(E:zn x.notes v=zn d.notes v)
  (K:∀ n,n.tier=zw d.tiers 3->n.par=v->(n∈x.notes↔n∈d.notes))
  (J:∀ m∈yk d v (zw d.tiers 3),∀ n,n.tier=zw d.tiers 4->n.par=m.id->(n∈x.notes↔n∈d.notes)):qt x v=qt d v/\zN x v 3=zN d v 3:=by
 have k3:zN x v 3=zN d v 3:=by unfold zN;rw[F,N1 H G F K]
 refine⟨?_,k3⟩
 have tx:∀ n,n∈x.notes->n∈d.notes->qo x n.id=qo d n.id:=λn a b=>by unfold qo;rw[kV G a,kV H b]
 have L:∀ m∈zN d v 3,∃ n∈yk d v (zw d.tiers 3),n.id=m:=λm L=>by
  unfold zN yc at L;exact List.mem_map.1 L
 have e1:(zN d v 3).map (qo x)=(zN d v 3).map (qo d):=List.map_congr_left λm h=>by
  obtain⟨n,M,rfl⟩:=L m h;obtain⟨n1,n2,n3⟩:=Xn M;exact tx n ((K n n2 n3).2 n1) n1
 have e2:((zN d v 3).map λm=>kM x (zN x m 4))=(zN d v 3).map λm=>kM d (zN d m 4):=List.map_congr_left λm h=>by
  obtain⟨n,M,rfl⟩:=L m h;have e4:zN x n.id 4=zN d n.id 4:=by unfold zN;rw[F,N1 H G F (J n M)]
  rw[e4];unfold kM;have O:∀ k∈zN d n.id 4,qo x k=qo d k:=λk O=>by
   unfold zN yc at O;obtain⟨c,Q,rfl⟩:=List.mem_map.1 O;obtain⟨c1,c2,c3⟩:=Xn Q;exact tx c ((J n M c c2 c3).2 c1) c1
  generalize zN d n.id 4=l at O;generalize ByteArray.empty=a;induction l generalizing a with
  |nil=>rfl
  |cons k r ih=>
   rw[List.foldl_cons,List.foldl_cons,O k List.mem_cons_self];exact ih (λk h=>O k (List.mem_cons_of_mem _ h)) _
 unfold qt YU yw
 rw[Wn F E,F,k3,e1,e2]
section
variable {d:Dc} {w v nx:Int} {F G:List ByteArray}
theorem Wp(h:Rgt d){p n:Nt}(F:p∈zM d w)(E:n∈d.notes)(H:n.par=p.id)(G:n.tier≠zw d.tiers 3\/p.id≠w):n∈zM d w:=by
 obtain⟨p1,p2⟩:=vR.1 F
 refine vR.2 ⟨E,λK=>?_⟩
 obtain⟨c,J,L,M⟩:=(gk h E).1 K
 rw[(xi h E).1,H,kK h p1] at J
 rcases List.mem_cons.1 J with rfl | J
 .rcases G with e | e
  .exact e L
  .exact e (H.symm.trans M)
 .exact p2 ((gk h p1).2 ⟨c,J,L,M⟩)
theorem zdo(h:Rgt d)(F:yw d=true)(E:yy d v=true)(H:v≠w):qt (xr d w) v=qt d v/\zN (xr d w) v 3=zN d v 3:=by
 obtain⟨q1,q2,q3,q4⟩:=Xm E
 have K:=Wl (w:=w) h F q1 q3
 have J:=Zs h F
 have G:zw d.tiers 4≠zw d.tiers 3:=λe=>by have:=J.g.1;have:=J.m.1;rw[e] at *;omega
 have k3:∀ n,n∈d.notes->n.tier=zw d.tiers 3->n.par=v->n∈zM d w:=λn a b c=>Wp h K a (c.trans q2.symm) (.inr (by rw[q2];exact H))
 refine N2 (x:=xr d w) h.inc (Xg h w) rfl (Wm h F E) (λn a b=>⟨λL=>(vR.1 L).1,λL=>k3 n L a b⟩) λm M n a b=>⟨λL=>(vR.1 L).1,λL=>?_⟩
 obtain⟨m1,m2,m3⟩:=Xn M
 exact Wp h (k3 m m1 m2 m3) L b (.inl (by rw[a];exact G))
theorem zh5(h:Rgt d):zN (xr d w) w 3=[]:=by
 cases H:zN (xr d w) w 3 with
 |nil=>rfl
 |cons m l=>
  have G:m∈yc (yk (xr d w) w (zw d.tiers 3)):=by
   have:yc (yk (xr d w) w (zw d.tiers 3))=m::l:=H
   rw[this];exact List.mem_cons_self
  unfold yc at G;obtain⟨n,F,_⟩:=List.mem_map.1 G;obtain⟨n1,n2,n3⟩:=Xn F;exact(Vf h n1 n2 n3).elim
theorem zfo(h:Rgt d)(K:yw d=true)(J:yy d v=true)(E:v≠w)(L:qG (zM d w) nx (2*F.length)=false):qt (yR d w nx F G) v=qt d v/\zN (yR d w nx F G) v 3=zN d v 3:=by
 obtain⟨q1,q2,q3,q4⟩:=Xm J
 have M:=Wl (w:=w) h K q1 q3
 have O:=Zs h K
 have H:zw d.tiers 4≠zw d.tiers 3:=λe=>by have:=O.g.1;have:=O.m.1;rw[e] at *;omega
 have k3:∀ n,n∈d.notes->n.tier=zw d.tiers 3->n.par=v->n∈zM d w:=λn a b c=>Wp h M a (c.trans q2.symm) (.inr (by rw[q2];exact E))
 refine N2 (x:=yR d w nx F G) h.inc (Yi h L) rfl (Fg h K J L) (λn a b=>⟨λQ=>?_,λQ=>vS.2 (.inl (k3 n Q a b))⟩) λm T n a b=>⟨λQ=>?_,λQ=>?_⟩
 .rcases vS.1 Q with Q | Q
  .exact(vR.1 Q).1
  .obtain⟨i,hi,rfl | rfl⟩:=jD.1 Q
   .exact absurd b.symm E
   .exact absurd a H
 .rcases vS.1 Q with Q | Q
  .exact(vR.1 Q).1
  .obtain⟨m1,m2,m3⟩:=Xn T
   obtain⟨i,hi,rfl | rfl⟩:=jD.1 Q
   .exact absurd a.symm H
   .exact absurd b.symm (by
     have:=F4 L (k3 m m1 m2 m3) (j:=2*i) (by omega)
     intro e;exact this (by rw[e];push_cast;rfl))
 .obtain⟨m1,m2,m3⟩:=Xn T
  exact vS.2 (.inl (Wp h (k3 m m1 m2 m3) Q b (.inl (by rw[a];exact H))))
end
end Go.V.Doc
namespace Go.V.Doc
open Go Go.Proofs Go.RowKit
theorem zh6{l:List Nt}(h:l.Pairwise λa b=>ql b a=false)(H:∀ a∈l,∀ b∈l,ql a b=false->ql b a=false->a=b):qZ l=l:=
 List.Perm.eq_of_pairwise (le:=λa b=>ql b a=false) (λa b m1 m2 r1 r2=>H a ((gd l).mem_iff.1 m1) b m2 r2 r1) (Ec l) h (gd l)
section
variable {d:Dc} {w nx:Int} {F G:List ByteArray}
theorem N3(i j:Nat):ql (Yh d w nx F i) (Yh d w nx F j)=decide (i<j):=by
 rw[Bool.eq_iff_iff,UE,decide_eq_true_iff]
 simp
theorem zh7(h:Rgt d)(K:yw d=true)(J:qG (zM d w) nx (2*F.length)=false):yk (yR d w nx F G) w (zw d.tiers 3)=(List.range F.length).map (Yh d w nx F):=by
 have L:=Zs h K
 have H:zw d.tiers 4≠zw d.tiers 3:=λe=>by have:=L.g.1;have:=L.m.1;rw[e] at *;omega
 unfold yk
 have e:(yR d w nx F G).notes.filter (yq (yR d w nx F G) w (zw d.tiers 3))=(List.range F.length).map (Yh d w nx F):=by
  refine W6 ((Yi h J).sublist List.filter_sublist) ?_ λn=>?_
  .unfold vE
   rw[List.pairwise_map];exact List.pairwise_lt_range.imp λ{a b} E=>by show nx+2*(a:Int)<nx+2*b;omega
  .rw[List.mem_filter,vS,List.mem_map]
   constructor
   .rintro⟨M,O⟩
    unfold yq at O;simp only[Bool.and_eq_true,decide_eq_true_eq] at O;obtain⟨⟨⟨a,b⟩,_⟩,_⟩:=O;rcases M with M | M
    .exact(Vf h M a b).elim
    .obtain⟨i,hi,rfl | rfl⟩:=jD.1 M
     .exact⟨i,List.mem_range.2 hi,rfl⟩
     .exact absurd a H
   .rintro⟨i,hi,rfl⟩
    refine⟨.inr (jD.2 ⟨i,List.mem_range.1 hi,.inl rfl⟩),?_⟩
    unfold yq;simp only[Bool.and_eq_true,decide_eq_true_eq];exact⟨⟨⟨by simp,by simp⟩,L.m.2.2.1⟩,L.m.2.2.2⟩
 rw[e]
 refine zh6 ?_ ?_
 .rw[List.pairwise_map]
  exact List.pairwise_lt_range.imp λ{a b} E=>by rw[N3,decide_eq_false (by omega)]
 .intro a Q b T M O
  obtain⟨i,_,rfl⟩:=List.mem_map.1 Q;obtain⟨j,_,rfl⟩:=List.mem_map.1 T;rw[N3,decide_eq_false_iff_not] at M O;rw[show i=j by omega]
theorem zh8(h:Rgt d)(E:yw d=true)(K:qG (zM d w) nx (2*F.length)=false){i:Nat}(hi:i<F.length):yk (yR d w nx F G) (nx+2*i) (zw d.tiers 4)=[Xh d nx G i]:=by
 have J:=Zs h E
 have H:zw d.tiers 4≠zw d.tiers 3:=λe=>by have:=J.g.1;have:=J.m.1;rw[e] at *;omega
 unfold yk
 have e:(yR d w nx F G).notes.filter (yq (yR d w nx F G) (nx+2*i) (zw d.tiers 4))=[Xh d nx G i]:=by
  refine W6 ((Yi h K).sublist List.filter_sublist) (by simp[vE]) λn=>?_
  rw[List.mem_filter,vS,List.mem_singleton];constructor
  .rintro⟨L,M⟩
   unfold yq at M;simp only[Bool.and_eq_true,decide_eq_true_eq] at M;obtain⟨⟨⟨a,b⟩,_⟩,_⟩:=M;rcases L with L | L
   .exact(W7 h J K hi L a b).elim
   .obtain⟨j,hj,rfl | rfl⟩:=jD.1 L
    .exact absurd a.symm H
    .have b:nx+2*(j:Int)=nx+2*i:=b
     rw[show j=i by omega]
  .rintro rfl
   refine⟨.inr (jD.2 ⟨i,hi,.inr rfl⟩),?_⟩
   unfold yq;simp only[Bool.and_eq_true,decide_eq_true_eq];exact⟨⟨⟨by simp,by simp⟩,J.g.2.2.1⟩,J.g.2.2.2⟩
 rw[e]
 exact List.perm_singleton.1 (gd _)
theorem zku(h:Rgt d)(H:yw d=true)(E:yy d w=true)(K:qG (zM d w) nx (2*F.length)=false)(J:G.length=F.length):qt (yR d w nx F G) w=(F,G)/\(zN (yR d w nx F G) w 3).length=F.length:=by
 have tx:∀ n,n∈xk d w nx F G F.length->qo (yR d w nx F G) n.id=n.text:=λn L=>by
  unfold qo;rw[kV (Yi h K) (vS.2 (.inr L))]
 have e3:zN (yR d w nx F G) w 3=(List.range F.length).map λi:Nat=>nx+2*(i:Int):=by
  show yc (yk (yR d w nx F G) w (zw d.tiers 3))=_
  rw[zh7 h H K];unfold yc;rw[List.map_map];rfl
 have hs:YU (yR d w nx F G) w=true:=by
  unfold YU;rw[Bool.and_eq_true];exact⟨by rw[@Wn d (yR d w nx F G) w rfl (Fg h H E K)];exact E,H⟩
 refine⟨?_,by rw[e3];simp⟩
 unfold qt
 rw[if_pos hs,e3]
 refine Prod.ext ?_ ?_
 .refine List.ext_getElem (by simp) λi M O=>?_
  have hi:i<F.length:=O
  simp only[List.getElem_map,List.getElem_range];rw[tx (Yh d w nx F i) (jD.2 ⟨i,hi,.inl rfl⟩)];simp[hi]
 .refine List.ext_getElem (by simp[J]) λi M O=>?_
  have hi:i<F.length:=by rw[<-J];exact O
  simp only[List.getElem_map,List.getElem_range];have e4:zN (yR d w nx F G) (nx+2*i) 4=[nx+2*i+1]:=by
   show yc (yk (yR d w nx F G) (nx+2*i) (zw d.tiers 4))=_
   rw[zh8 h H K hi];rfl
  rw[e4];show qo (yR d w nx F G) (Xh d nx G i).id=_
  rw[tx (Xh d nx G i) (jD.2 ⟨i,hi,.inr rfl⟩)];have:i<G.length:=O
  simp[this]
end
end Go.V.Doc
namespace Go.V.Doc
open Go Go.Proofs Go.RowKit
def jW(d:Dc)(g:Lang)(l:List Dec)(v:Int):Prop:=if (yn d g l v).kind=4 then ki d g v (yn d g l v).pick=true else zN d v 3=[]
theorem Fh{d x:Dc}{g:Lang}{l:List Dec}{v:Int}(hi:x.id=d.id)(H:zn x.notes v=zn d.notes v):yn x g l v=yn d g l v:=by
 unfold yn qo;rw[hi,H]
theorem zh9{d x:Dc}{g:Lang}{l:List Dec}{v:Int}(hi:x.id=d.id)(H:zn x.notes v=zn d.notes v)(h:qt x v=qt d v/\zN x v 3=zN d v 3)(hs:jW d g l v):jW x g l v:=by
 have e:yn x g l v=yn d g l v:=Fh hi H
 unfold jW ki at hs ⊢
 rw[e,h.1,h.2]
 exact hs
theorem N4{d:Dc}{g:Lang}{l:List Dec}{nx:Int}:∀ {ws:List Int},(∀ v∈ws,jW d g l v)->vg g l ws d nx=(d,0)
 | [],_=>rfl
 |w::ws,h=>by
  have H:=h w List.mem_cons_self;have ih:=N4 (nx:=nx) λv G=>h v (List.mem_cons_of_mem w G)
  unfold jW at H;rw[vg];by_cases F:(yn d g l w).kind=4
  .rw[if_pos F] at H
   rw[if_neg (λn=>n F),if_pos H,ih]
  .rw[if_neg F] at H
   rw[if_pos F,H,if_neg (by simp),ih]
theorem N5{d x:Dc}{v:Int}(H:x.tiers=d.tiers)(G:vE d.notes)(F:∀ n∈x.notes,n.tier=zw d.tiers 2->n∈d.notes)(E:yy x v=true):yy d v=true:=by
 obtain⟨q1,q2,q3,q4⟩:=Xm E
 rw[H] at q3
 have:=kV G (F _ q1 q3)
 rw[q2] at this
 unfold yy
 rw[this,decide_eq_true q3];rfl
theorem zdp{d:Dc}(H:yw d=true):zw d.tiers 3≠zw d.tiers 2/\zw d.tiers 4≠zw d.tiers 2:=by
 unfold yw at H
 simp only[Bool.and_eq_true,decide_eq_true_eq] at H
 obtain⟨t2,e2,l2,r2⟩:=Ve (by decide) H.1
 constructor <;> intro e
 .obtain⟨t3,e3,l3,r3⟩:=Ve (by decide) H.2.1
  have:t3=t2:=by omega
  subst this;rw[r2] at r3;cases r3
 .obtain⟨t4,e4,l4,r4⟩:=Ve (by decide) H.2.2
  have:t4=t2:=by omega
  subst this;rw[r2] at r4;cases r4
structure AllT(d0 d:Dc)(ws:List Int):Prop where
 s:yI d0 d ws
 b:∀ v,yy d v=true->v∈ws
theorem AllT.clear{d0 d:Dc}{ws:List Int}(h:AllT d0 d ws)(w:Int):AllT d0 (xr d w) ws:=
 ⟨h.s.clear w,λv H=>h.b v (N5 (x:=xr d w) rfl h.s.m.r.inc (λn G _=>(vR.1 G).1) H)⟩
theorem AllT.fill{d0 d:Dc}{ws:List Int}(h:AllT d0 d ws){g:Lang}(H:LightF g){w:Int}{ps:List Prt}{nx:Int}(G:(xy d g w ps nx).2=0):AllT d0 (xy d g w ps nx).1 ws:=by
 refine⟨h.s.fill H G,λv hv=>h.b v ?_⟩
 obtain⟨_,_,_,_,_,c6,_,c8⟩:=Xj G
 rw[c8] at hv
 have F:=Zs h.s.m.r h.s.m.y
 obtain⟨u3,u4⟩:=zdp h.s.m.y
 refine N5 (x:=yR d w nx (yA g ps).1 (yA g ps).2.1) rfl h.s.m.r.inc (λn E K=>?_) hv
 rcases vS.1 E with E | E
 .exact(vR.1 E).1
 .obtain⟨i,hi,rfl | rfl⟩:=jD.1 E
  .have K:zw d.tiers 3=zw d.tiers 2:=K
   omega
  .have K:zw d.tiers 4=zw d.tiers 2:=K
   omega
theorem N6{d0:Dc}{g:Lang}(T:LightF g){l:List Dec}{ws:List Int}:∀ {vs:List Int} {d:Dc} {nx:Int},AllT d0 d ws->vs.Nodup->(∀ v∈vs,v∈ws)->(∀ v∈ws,v∉vs->jW d g l v)->(vg g l vs d nx).2=0 ->
  AllT d0 (vg g l vs d nx).1 ws/\∀ v∈ws,jW (vg g l vs d nx).1 g l v
 | [],d,nx,h,_,_,hs,_=>⟨h,λv V=>hs v V (by simp)⟩
 |w::vs,d,nx,h,G,H,hs,X=>by
  obtain⟨Q,G⟩:=List.nodup_cons.1 G;have Y:=h.s.wd w (H w List.mem_cons_self);have F:∀ v∈vs,v∈ws:=λv V=>H v (List.mem_cons_of_mem _ V)
  have step:∀ {x:Dc} {n:Int},AllT d0 x ws->x.id=d.id->(∀ v∈ws,v≠w->zn x.notes v=zn d.notes v/\qt x v=qt d v/\zN x v 3=zN d v 3)->jW x g l w->(vg g l vs x n).2=0 ->
    AllT d0 (vg g l vs x n).1 ws/\∀ v∈ws,jW (vg g l vs x n).1 g l v:=λ{x n} Z hi A L B=>
   N6 T Z G F (λv V hn=>by
    by_cases e:v=w
    .rw[e];exact L
    .obtain⟨o1,o2⟩:=A v V e
     exact zh9 hi o1 o2 (hs v V (by simp[e,hn]))) B
  rw[vg] at X ⊢;by_cases C:(yn d g l w).kind=4
  .rw[if_neg (λn=>n C)] at X ⊢
   by_cases I:ki d g w (yn d g l w).pick=true
   .rw[if_pos I] at X ⊢
    exact step h rfl (λv V _=>⟨rfl,rfl,rfl⟩) (by unfold jW;rw[if_pos C];exact I) X
   .rw[if_neg I] at X ⊢
    by_cases N:(xy d g w (yn d g l w).pick nx).2=0
    .rw[if_neg (λn=>n N)] at X ⊢
     have Z:=h.fill T N;have M:yy (xy d g w (yn d g l w).pick nx).1 w=true/\zn (xy d g w (yn d g l w).pick nx).1.notes w=zn d.notes w:=⟨(Z.s.wd w (H w List.mem_cons_self)).1,(Z.s.wd w (H w List.mem_cons_self)).2.trans Y.2.symm⟩
     have O:∀ v∈ws,zn (xy d g w (yn d g l w).pick nx).1.notes v=zn d.notes v:=λv V=>(Z.s.wd v V).2.trans (h.s.wd v V).2.symm
     obtain⟨_,_,c3,_,_,c6,_,c8⟩:=Xj N;have E:(yA g (yn d g l w).pick).2.1.length=(yA g (yn d g l w).pick).1.length:=F2 g _
     refine step Z (Z.s.id.trans h.s.id.symm) (λv V K=>⟨O v V,?_⟩) ?_ X
     .rw[c8]
      exact zfo h.s.m.r h.s.m.y (h.s.wd v V).1 K c6
     .have J:yn (xy d g w (yn d g l w).pick nx).1 g l w=yn d g l w:=Fh (Z.s.id.trans h.s.id.symm) M.2
      unfold jW;rw[J,if_pos C,c8];unfold ki;rw[(zku h.s.m.r h.s.m.y Y.1 c6 E).1];simp[c3]
    .rw[if_pos N] at X
     exact absurd X N
  .rw[if_pos C] at X ⊢
   by_cases P:0<(zN d w 3).length
   .rw[if_pos P] at X ⊢
    refine step (h.clear w) rfl (λv V K=>⟨Wm h.s.m.r h.s.m.y (h.s.wd v V).1,zdo h.s.m.r h.s.m.y (h.s.wd v V).1 K⟩) ?_ X
    have J:yn (xr d w) g l w=yn d g l w:=Fh rfl (Wm h.s.m.r h.s.m.y Y.1)
    unfold jW;rw[J,if_neg C];exact zh5 h.s.m.r
   .rw[if_neg P] at X ⊢
    exact step h rfl (λv V _=>⟨rfl,rfl,rfl⟩) (by unfold jW;rw[if_neg C];exact List.eq_nil_of_length_eq_zero (by omega)) X
theorem N7{d:Dc}(h:Rgt d)(H:Fw d){g:Lang}(G:LightF g){l:List Dec}{nx:Int}(F:(yD d g l nx).2=0):Mid (yD d g l nx).1/\(yD d g l nx).1.tiers=d.tiers/\∀ v,yy (yD d g l nx).1 v=true->jW (yD d g l nx).1 g l v:=by
 unfold yD at F ⊢
 by_cases E:yw d=true
 .rw[if_pos E] at F ⊢
  obtain⟨t,et,K⟩:=Xl E;have J:∀ v,yy d v=true->v∈qu d:=λv L=>by
   obtain⟨q1,q2,q3,q4⟩:=Xm L;unfold qu yc;rw[et] at q3 ⊢;exact List.mem_map.2 ⟨_,(Ze h.w t K _).2 ⟨q1,q3⟩,q2⟩
  obtain⟨r1,r2⟩:=N6 G (ws:=qu d) (vs:=qu d) ⟨MW ⟨h,E,H⟩,J⟩ (Wg h.w E).1 (λv L=>L) (λv L M=>absurd L M) F
  exact⟨r1.s.m,r1.s.ti,λv L=>r2 v (r1.b v L)⟩
 .rw[if_neg E] at F
  cases F
theorem zia{d:Dc}(h:Rgt d)(H:Fw d){g:Lang}(G:LightF g){l:List Dec}{nx:Int}(F:(yD d g l nx).2=0)(n2:Int):yD (yD d g l nx).1 g l n2=((yD d g l nx).1,0):=by
 obtain⟨E,_,hs⟩:=N7 h H G F
 generalize (yD d g l nx).1=x at E hs
 unfold yD
 rw[if_pos E.y]
 exact N4 λv K=>hs v (MV E.r E.y K)
theorem zib{P:Program}{f:Nat}{args:List D}{r:D}(h:xU P f args (λx=>x=r)):zl P f args r:=by
 refine⟨h.1,λw E vs H G=>(h.2 w E vs H G).mono λe w' F=>?_⟩
 obtain⟨v,x,K,J,rfl,L⟩:=F
 exact⟨v,K,J,L⟩
def kj(g:Lang)(l:List Dec)(d0:Dc)(ws:List Int)(x:Nat×Dc×Int):St:=
 {n:=86,next:=5,slots:=[(2,.d (zE l)),(3,.d (int x.2.2)),(4,.bp 0 0),(5,.bp 1 0),(8,.bp 2 0),(9,.bp 3 0),(10,.bp 4 0),(28,.d (ints ws)),(29,.d (int ws.length)),(30,.d (int x.1))],own:=[(0,.box 53 (ya x.2.1)),(1,.box 36 (xX g)),(2,.box 53 zeroCells),(3,.box 43 [.d (int 0)]),(4,.box 112 (jV d0))],base:=4}
structure AInv(g:Lang)(l:List Dec)(d0:Dc)(nx:Int)(ws:List Int)(x:Nat×Dc×Int):Prop where
 k:x.1<=ws.length
 s:yI d0 x.2.1 ws
 go:vg g l (ws.drop x.1) x.2.1 x.2.2=yD d0 g l nx
theorem Fj{d:Dc}(h:Rgt d)(hw:Fw d)(g:Lang)(hL:LightF g)(hg:LangC g)(l:List Dec)(Y:l.length<2^40)(hp:∀ x∈l,x.pick.length<=4)(nx:Int):
  zl Tryz.prog 28 [zv d,g.d,zE l,int nx] (.tup [zv (yD d g l nx).1,int (yD d g l nx).2]):=by
 have Z:=h.few
 have A:=YW h
 have O:=Y3 d (by omega)
 have B:=Y2 d (by omega)
 refine zib (zbp mixed Tryz.func28 rfl c_28 1 (by rfl) (by rfl) ?_)
 simp+decide[Tryz.f28,zv,Dc.row,int,Lang.d,zq,zE,J8,DU]
 refine⟨_,_,⟨rfl,rfl⟩,zh3,by simp,?_⟩
 cases hr:yw d with
 |false=>
  rw[hr] at O;refine YG (YG (YF (zL mixed ?_)))
  simp+decide[int,zv,Dc.row];refine zh O ?_
  simp+decide[int];refine PL (b:=true) (by simp) ?_
  rw[if_pos rfl];refine Ri ⟨rfl,_,_,_,_,_,_,_,rfl,rfl,MY (e:=14) (by decide),⟨by simp,by simp⟩,[2,3],[(0,.box 53 zeroCells),(1,.box 43 [.d (int 0)])],?_,[(0,.box 53 zeroCells),(1,.box 43 [.d (int 14)])],[.bp 0 0,.bp 1 0],?_,?_,MZ 14,?_⟩
  .simp;exact⟨rfl,rfl⟩
  .simp[Sym.los,Sym.lo]
  .simp
  .simp+decide[yD,hr,int]
   exact⟨rfl,rfl,rfl⟩
 |true=>
  obtain⟨t,et,C⟩:=Xl hr;have hO:=Ej h.w hw t C;rw[show yc (v7 d t)=qu d by unfold qu;rw[et];rfl,<-et] at hO
  obtain⟨I,N⟩:=Wg h.w hr;have hI:AInv g l d nx (qu d) (0,d,nx):=⟨Nat.zero_le _,MW ⟨h,hr,hw⟩,by unfold yD;rw[if_pos hr];rfl⟩
  rw[hr] at O;refine YG (YG (YF (zL mixed ?_)))
  simp+decide[int,zv,Dc.row];refine zh O ?_
  simp+decide[int];refine PL (b:=false) (by simp) ?_
  rw[if_neg (by decide)]
  refine YF (zL mixed ?_)
  simp+decide
  refine KQ mixed 1 (by rfl) ?_
  simp+decide[int];refine zh B ?_
  simp+decide[wZ,int];refine YG (KQ mixed 1 (by rfl) ?_)
  simp+decide[int];refine zh hO ?_
  simp+decide[ints];generalize qu d=ws at hI I N ⊢;refine PK (zcq (kj g l d ws) (AInv g l d nx ws) (λx=>ws.length-x.1) (0,d,nx) hI ?_ ?_)
  .simp+decide[kj,int,ints,ya,xX,jV,zE]
  rintro⟨k,x,n1⟩ ⟨hk,hs,H⟩
  simp only at hk hs H
  have hx:=hs.m.r;have L:=hs.m.w;have W:=YW hx;refine KQ mixed 2 (by rfl) ?_
  by_cases G:k<ws.length
  case neg=>
   have:k=ws.length:=by omega
   subst this;rw[List.drop_length] at H;have H:(x,(0:Int))=yD d g l nx:=H
   rw[<-H];simp+decide[kj,int,ints];refine YF (zL mixed ?_)
   simp+decide[int,ints,ya,zv,Dc.row]
  have F:(k:Int)<ws.length:=by omega
  obtain⟨w,ew⟩:∃ w,ws[k]=w:=⟨_,rfl⟩;have e1:ws[k]?=some w:=by rw[List.getElem?_eq_getElem G,ew]
  rw[List.drop_eq_getElem_cons G,ew] at H;have P:=hs.wd w (by rw[<-ew];exact List.getElem_mem G)
  have hS:=ML hx g hL hg l Y hp w;have Q:=MM hL x hp w;have hK:=ZZ x w (zw x.tiers 3) L;have J:=MK x w L (by omega) g hL hg (yn x g l w).pick Q
  have hF:=zno hx g hL hg w L (yn x g l w).pick Q n1;have hC:=EY hx w L;rw[show je x w=(xr x w,0) by unfold je;rw[if_neg (by rw[hs.m.y];decide),if_neg (by rw[P.1];decide)]] at hC
  rw[show yc (yk x w (zw x.tiers 3))=zN x w 3 from rfl,hs.ti] at hK
  have M:=hs.clear w;have E:=hs.fill hL (w:=w) (ps:=(yn x g l w).pick) (nx:=n1);have V:(xy x g w (yn x g l w).pick n1).2=0->1<=n1/\n1<=1099511627768:=λhe=>(Xj he).2.2.2.2.1
  rw[vg] at H;generalize ki x g w (yn x g l w).pick=sb at J H;generalize xy x g w (yn x g l w).pick n1=fe at hF H E V;obtain⟨y,e⟩:=fe;generalize yn x g l w=st at hS J H Q hF;obtain⟨r,kd,q⟩:=st;generalize S:zN x w 3=K at hK H;have H0:K.length<20:=by rw[<-S];exact QL x w 3 L
  generalize xr x w=z at hC H M;simp only at J H hF E Q V
  simp+decide[kj,int,ints,ya,xX,jV,zE,G,F,ew,e1,I64];by_cases X:kd=4
  case neg=>
   rw[if_pos X] at H;refine YF (zL mixed ?_)
   simp+decide[kj,int,ints,ya,xX,jV,zE,G,F,ew,e1,I64];refine zh hS ?_
   simp+decide[int,ints,Stt.d,X];refine zG.Qf (by rfl) hK ?_
   by_cases T:0<K.length
   case neg=>
    rw[if_neg T] at H;simp+decide[int,ints,T,I64];refine⟨by omega,k+1,x,n1,⟨G,hs,H⟩,by omega,?_⟩
    simp+decide[kj,int,ints,ya,xX,jV,zE]
   rw[if_pos T] at H;simp+decide[int,ints,T,I64];refine zh hC ?_
   simp+decide[int,ints,zv,Dc.row];refine zh MR ?_
   simp+decide[I64];refine⟨by omega,k+1,z,n1,⟨G,M,H⟩,by omega,?_⟩
   simp+decide[kj,int,ints,ya,xX,jV,zE]
  subst X;rw[if_neg (by decide)] at H
  cases sb with
  |true=>
   rw[if_pos rfl] at H;refine YF (zL mixed ?_)
   simp+decide[kj,int,ints,ya,xX,jV,zE,G,F,ew,e1,I64];refine zh hS ?_
   simp+decide[int,ints,Stt.d];refine zh J ?_
   simp+decide[int,ints,I64];refine⟨by omega,k+1,x,n1,⟨G,hs,H⟩,by omega,?_⟩
   simp+decide[kj,int,ints,ya,xX,jV,zE]
  |false=>
   rw[if_neg (by decide)] at H
   by_cases he:e=0
   case pos=>
    rw[if_neg (by rw[he];decide)] at H
    refine YF (zL mixed ?_)
    simp+decide[kj,int,ints,ya,xX,jV,zE,G,F,ew,e1,I64];refine zh hS ?_
    simp+decide[int,ints,Stt.d];refine zh J ?_
    simp+decide[int,ints];refine zh hF ?_
    simp+decide[int,ints,zv,Dc.row,he];refine zh MR ?_
    simp+decide[I64,zm];obtain⟨H1,H2⟩:=V he;refine⟨by omega,by omega,by omega,k+1,y,n1+2*q.length,⟨G,E he,H⟩,by omega,?_⟩
    simp+decide[kj,int,ints,ya,xX,jV,zE]
   rw[if_pos he] at H;refine YG (PK (KQ mixed 5 (by rfl) ?_))
   simp+decide[kj,int,ints,ya,xX,jV,zE,G,F,ew,e1,I64];refine zh hS ?_
   simp+decide[int,ints,Stt.d];refine zh J ?_
   simp+decide[int,ints];refine zh hF ?_
   simp+decide[int,ints,zv,Dc.row];refine YG (Ri ⟨rfl,?_⟩)
   simp+decide[int,-Ql];refine⟨rfl,_,_,_,_,_,_,_,rfl,rfl,MY he,⟨by simp,by simp⟩,[2,3],[(0,.box 53 zeroCells),(1,.box 43 [.d (int 0)])],?_,[(0,.box 53 zeroCells),(1,.box 43 [.d (int e)])],[.bp 0 0,.bp 1 0],?_,?_,MZ e,?_⟩
   .simp;exact⟨rfl,rfl⟩
   .simp[Sym.los,Sym.lo]
   .simp
   .rw[<-H]
    simp+decide[int];exact⟨rfl,rfl⟩
end Go.V.Doc
namespace Go.V
variable [Dr] [Ov]
open Go.RowKit
def idxA(P:Program)(o:Oper)(st:St)(K:St->Prop):Prop:=
 ∃ t x i len e te id off kd n d,o.op = .indexAddr t x i/\o.dst=some d/\d<st.n/\P.underlying t=some (.array len e)/\TI.of P e=some te/\st.val x = .bp id off/\st.val i = .d (.int kd n)/\(0<=n/\n<len)/\K (st.put (some d) (.bp id (off+n.toNat*te.size)))
def Wq(P:Program)(all:List Oper):List Oper->Nat->St->(St->Prop)->Prop
 | [],_,st,K=>K st
 |o::r,0,st,K=>o.guard=none/\idxA P o st (λst'=>j3 P all r st' K)
 |o::r,n+1,st,K=>o.guard=none/\yr P o st (λst'=>Wq P all r n st' K)
section
variable {P:Program} {X:Nat->Prop} {w0:Base} {st:St} {β:Nat->Value} {a:Act} {w w':World} {Q:DE->St->Prop}
theorem N8{all:List Oper}{N:Exit->Act->World->Prop}:∀ {l:List Oper} {n:Nat} {st:St} {β:Nat->Value} {a:Act} {w:World} {K:St->Prop},Mods X w0 st β a w->Wq P all l n st K ->
  (∀ a' w' st' β',K st'->Mods X w0 st' β' a' w'->N .normal a' w')->wpList P all.toArray N l a w
 | [],n,st,β,a,w,K,A,h,B=>wpList_nil (B a w st β h A)
 |o::r,0,st,β,a,w,K,A,h,B=>by
  obtain⟨C,t,x,i,len,e,te,id,off,kd,n,d,I,S,J,W,L,hx,hi,⟨h0,h1⟩,h⟩:=h;have H:=(A.val x);rw[hx] at H;have G:=(A.val i).2;rw[hi] at G;simp only[Sm,R] at H G;obtain⟨M,b,hb,O⟩:=H;obtain⟨ti,_,_,Q,_,_,_,T,_⟩:=zY L;have F:(execOp a.eval o).run P w = .ok (.value (.pointer (some ⟨b,off+n.toNat*te.size,none⟩))) w:=by
   have V:(Instr.indexAt t (.pointer (some ⟨b,off,none⟩)) (.int kd n)).run P w = .ok (.pointer (some ⟨b,off+n.toNat*te.size,none⟩)) w:=by
    rw[T];have Y:n<(len:Int):=h1
    simp[Instr.indexAt,asIntOf,run_underlying W,Instr.sureAddr,h0,Y,run_sizeOf Q,add_lit]
   simp[execOp,I,O,G,V]
  refine wpList_step λN' E=>?_
  simp only[Region.wanted,C,if_true];unfold Oper.wp;rw[F];simp only[Oper.upon];refine E _ _ (Q7 (A.yB (dst:=o.dst) (s:=.bp id (off+n.toNat*te.size)) (λt ht=>by rw[S] at ht;cases ht;exact J) (by simpa[Sym.lo] using M) (by simp only[Sm];exact⟨b,hb,rfl⟩)) (by rw[S];exact h) B)
 |o::r,n+1,st,β,a,w,K,A,h,B=>by
  obtain⟨C,h⟩:=h;refine wpList_step λN' E=>?_
  simp only[Region.wanted,C,if_true];exact j5 A h N' _ λa' w' st' β' hk Z=>E a' w' (N8 Z hk B)
theorem N9(n:Nat){id:Nat}{ops:List Oper}(h:Wq P ops ops n st (Q .normal)):Triple P (.region id ops.toArray false) Q st:=λX w0 β a w G=>
 wp_region_list (N8 (all:=ops) G h λa' w' st' β' F H=>⟨.normal,st',β',trivial,F,H⟩)
end
attribute [simp] Wq
end Go.V
namespace Go.V.Doc
open Go Go.Proofs
theorem Ws{g:Lang}{l:List Dec}:∀ {ws:List Int} {d:Dc} {nx:Int},(vg g l ws d nx).2=0->(vg g l ws d nx).1.spk=d.spk
 | [],d,nx,_=>rfl
 |w::ws,d,nx,h=>by
  rw[vg] at h ⊢;split at h
  .rename_i c
   rw[if_pos c,Ws h];split <;> rfl
  .rename_i c
   rw[if_neg c];split at h
   .rename_i c2
    rw[if_pos c2,Ws h]
   .rename_i c2
    rw[if_neg c2];split at h
    .rename_i c3
     exact absurd h c3
    .rename_i c3
     rw[if_neg c3,Ws h];obtain⟨_,_,_,_,_,_,_,c8⟩:=Xj (Decidable.not_not.1 c3);rw[c8];rfl
theorem zic(F:zl Tryz.prog 13 [] (.bool true))(d:Dc)(hs:∀ t∈d.tiers,t.name.size<=9223372036854775807)(E:∀ n∈d.notes,n.text.size<=9223372036854775807)(g:Lang)(K:LangC g)(l:List Dec)(J:l.length<2^40)(L:W8 l)(n1 n2:Int):
  zl Tryz.prog 11 [zv d,g.d,zE l,.agg [int n1,int n2]] (.bool true):=by
 refine DF Tryz.func11 rfl c_11 ?_
 refine DD mixed 2 {n:=50,next:=3,slots:=[(2,.d (zE l)),(4,.bp 0 0),(5,.bp 1 0),(7,.bp 2 0)],own:=[(0,.box 53 (ya d)),(1,.box 36 (xX g)),(2,.box 85 [.d (int n1),.d (int n2)])]} (wE d=true/\LightF g/\l.length<=8/\wL l=0) rfl ?_ ?_
 .simp+decide[Tryz.f11,yp,int,zE,zv,Dc.row,Lang.d]
  refine zG.some (by rfl) (znq d hs E g K l J L) ?_
  rintro r ⟨b,rfl,M⟩
  cases b with
  |false=>
   simp+decide
   refine zh F ?_
   simp+decide
  |true=>
   have M:=M rfl;simp+decide[M,int,ya,xX,zE]
 rintro⟨H,O,_,G⟩
 obtain⟨Q,T,V,X⟩:=G3 H
 have Y:∀ x∈l,x.pick.length<=4:=λx E=>(((zfk l).1 G).1 x E).le
 have Z:=Fj X (ZY (by omega)) g O K l J Y n1
 simp only[Tryz.f11,yK]
 refine VV {n:=50,next:=4,slots:=[(2,.d (zE l)),(5,.bp 1 0),(7,.bp 2 0),(9,.bp 3 0),(10,.d (int (yD d g l n1).2))],own:=[(1,.box 36 (xX g)),(2,.box 85 [.d (int n1),.d (int n2)]),(3,.box 53 (ya (yD d g l n1).1))]} (N9 3 ?_) ?_
 .simp+decide[int,ya,xX,zE]
  refine⟨_,_,_,_,_,_,_,_,_,_,_,rfl,rfl,by simp,Tryz.underlying85,ti_3,rfl,rfl,⟨by decide,by decide⟩,?_⟩
  simp+decide[int,ya,xX,zE];refine zh Z ?_
  simp+decide[int,zv,Dc.row,ya,xX,zE]
 by_cases A:(yD d g l n1).2=0
 case neg=>
  refine zL mixed ?_
  simp+decide[int,A];refine zh F ?_
  simp+decide
 obtain⟨B,_,_⟩:=N7 X (ZY (by omega)) O A
 have C:=Fj B.r B.w g O K l J Y n2
 rw[zia X (ZY (by omega)) O A n2] at C
 rw[A]
 have I:(yD d g l n1).1.spk=d.spk:=by
  unfold yD at A ⊢;split at A
  .rename_i c;rw[if_pos c];exact Ws A
  .cases A
 generalize (yD d g l n1).1=x at B C I
 have N:=zeq x x ⟨by have:=B.r.few;omega,YW B.r,by rw[I];omega⟩
 rw[decide_eq_true rfl] at N
 refine DD mixed 1 {n:=50,next:=4,slots:=[(2,.d (zE l)),(5,.bp 1 0),(7,.bp 2 0),(9,.bp 3 0)],own:=[(1,.box 36 (xX g)),(2,.box 85 [.d (int n1),.d (int n2)]),(3,.box 53 (ya x))]} True rfl ?_ λ_=>?_
 .simp+decide[int,yp,xX]
 simp only[yK]
 refine Qd (N9 3 ?_) mixed
 simp+decide[int,ya,xX,zE]
 refine⟨_,_,_,_,_,_,_,_,_,_,_,rfl,rfl,by simp,Tryz.underlying85,ti_3,rfl,rfl,⟨by decide,by decide⟩,?_⟩
 simp+decide[int,ya,xX,zE]
 refine zh C ?_
 simp+decide[int,zv,Dc.row,ya,xX,zE]
 refine zh N ?_
 simp+decide
 refine zh F ?_
 simp+decide
end Go.V.Doc
namespace Go.V.Doc
open Go Go.Proofs Go.RowKit
end Go.V.Doc
namespace Go.V.Doc
open Go Go.Proofs
abbrev Na:List Sh:=[.str,.int .i64,.int .i64,.int .i64]
abbrev Nb:List Sh:=[.int .i64,.int .i64,.int .i64,.int .i64,.int .i64,.int .i64,.str]
abbrev Fo:List Sh:=[.int .i64,.str,.int .i64,.int .i64,.sl [.int .i64],.sl Na,.sl Nb]
def Tir.ok(t:Tir):Prop:=t.name.size<=maxLen/\vp t.kind/\vp t.role/\vp t.par
structure Nt.ok(n:Nt):Prop where
 id:vp n.id
 tier:vp n.tier
 par:vp n.par
 fr:vp n.fr
 tO:vp n.tO
 rank:vp n.rank
 text:n.text.size<=maxLen
structure Dc.ok(d:Dc):Prop where
 id:vp d.id
 name:d.name.size<=maxLen
 len:vp d.len
 day:vp d.day
 spk:Ix d.spk
 tiers:d.tiers.length<=maxLen/\∀ t∈d.tiers,t.ok
 notes:d.notes.length<=maxLen/\∀ n∈d.notes,n.ok
theorem zdq{r:List D}(h:y8 r Na):∃ t:Tir,r=t.row/\t.ok:=by
 obtain⟨_,_,rfl,g1,r1⟩:=h.zU
 obtain⟨_,_,rfl,g2,r2⟩:=r1.zU
 obtain⟨_,_,rfl,g3,r3⟩:=r2.zU
 obtain⟨_,_,rfl,g4,r4⟩:=r3.zU
 obtain rfl:=r4.ja
 obtain⟨a,rfl,wa⟩:=g1.gW
 obtain⟨b,rfl,wb⟩:=g2.xI
 obtain⟨c,rfl,wc⟩:=g3.xI
 obtain⟨e,rfl,we⟩:=g4.xI
 exact⟨⟨a,b,c,e⟩,rfl,wa,wb,wc,we⟩
theorem zdr{r:List D}(h:y8 r Nb):∃ n:Nt,r=n.row/\n.ok:=by
 obtain⟨_,_,rfl,g1,r1⟩:=h.zU
 obtain⟨_,_,rfl,g2,r2⟩:=r1.zU
 obtain⟨_,_,rfl,g3,r3⟩:=r2.zU
 obtain⟨_,_,rfl,g4,r4⟩:=r3.zU
 obtain⟨_,_,rfl,g5,r5⟩:=r4.zU
 obtain⟨_,_,rfl,g6,r6⟩:=r5.zU
 obtain⟨_,_,rfl,g7,r7⟩:=r6.zU
 obtain rfl:=r7.ja
 obtain⟨a,rfl,wa⟩:=g1.xI
 obtain⟨b,rfl,wb⟩:=g2.xI
 obtain⟨c,rfl,wc⟩:=g3.xI
 obtain⟨e,rfl,we⟩:=g4.xI
 obtain⟨f,rfl,wf⟩:=g5.xI
 obtain⟨g,rfl,wg⟩:=g6.xI
 obtain⟨s,rfl,ws⟩:=g7.gW
 exact⟨⟨a,b,c,e,f,g,s⟩,rfl,wa,wb,wc,we,wf,wg,ws⟩
theorem zfp{l:List D}(h:y8 l Fo):∃ d:Dc,D.agg l=zv d/\d.ok:=by
 obtain⟨_,_,rfl,g1,r1⟩:=h.zU
 obtain⟨_,_,rfl,g2,r2⟩:=r1.zU
 obtain⟨_,_,rfl,g3,r3⟩:=r2.zU
 obtain⟨_,_,rfl,g4,r4⟩:=r3.zU
 obtain⟨_,_,rfl,g5,r5⟩:=r4.zU
 obtain⟨_,_,rfl,g6,r6⟩:=r5.zU
 obtain⟨_,_,rfl,g7,r7⟩:=r6.zU
 obtain rfl:=r7.ja
 obtain⟨a,rfl,wa⟩:=g1.xI
 obtain⟨b,rfl,wb⟩:=g2.gW
 obtain⟨c,rfl,wc⟩:=g3.xI
 obtain⟨e,rfl,we⟩:=g4.xI
 obtain⟨f,rfl,wf⟩:=zdd g5
 obtain⟨ts,rfl,wt1,wt2⟩:=yN.YM (row:=Tir.row) (good:=Tir.ok) (λr H=>zdq H) g6
 obtain⟨ns,rfl,wn1,wn2⟩:=yN.YM (row:=Nt.row) (good:=Nt.ok) (λr H=>zdr H) g7
 exact⟨⟨a,b,c,e,f,ts,ns⟩,rfl,wa,wb,wc,we,wf,⟨wt1,wt2⟩,wn1,wn2⟩
theorem zds{l:List D}(h:y8 l Fo):∃ d:Dc,D.agg l=zv d:=by
 obtain⟨d,e,_⟩:=zfp h
 exact⟨d,e⟩
theorem Nc{d:Dc}(h:js 1048576 (zv d)):(∀ t∈d.tiers,t.name.size<=9223372036854775807)/\(∀ n∈d.notes,n.text.size<=9223372036854775807):=by
 simp only[zv,Dc.row,js,Caps,Cap,ints,int,List.length_map,and_true] at h
 obtain⟨_,_,_,_,_,⟨t1,t2⟩,n1,n2⟩:=h
 refine⟨λt ht=>?_,λn hn=>?_⟩
 .have:=k9 t2 t ht
  simp only[Tir.row,Caps,Cap,int] at this;omega
 .have:=k9 n2 n hn
  simp only[Nt.row,Caps,Cap,int] at this;omega
end Go.V.Doc
namespace Go.V
open Go Go.Proofs
def Rf.ok(r:Rf):Prop:=vp r.rcd/\vp r.note
def Dec.ok(d:Dec):Prop:=d.ref.ok/\Iz d.pick
abbrev Wt:List Sh:=[.int .i64,.int .i64,.bool,.sl Iy]
theorem zbc{r:List D}(h:y8 r Wt):∃ d:Dec,r=d.row/\d.ok:=by
 obtain⟨_,_,rfl,g1,r1⟩:=h.zU
 obtain⟨_,_,rfl,g2,r2⟩:=r1.zU
 obtain⟨_,_,rfl,g3,r3⟩:=r2.zU
 obtain⟨_,_,rfl,g4,r4⟩:=r3.zU
 obtain rfl:=r4.ja
 obtain⟨a,rfl,wa⟩:=g1.xI
 obtain⟨b,rfl,wb⟩:=g2.xI
 obtain⟨c,rfl⟩:=g3.U4
 obtain⟨l,rfl,wl⟩:=zbu g4
 exact⟨⟨⟨a,b⟩,c,l⟩,rfl,⟨wa,wb⟩,wl⟩
theorem zdu{d:D}(h:yN d (.sl Wt)):∃ l,d=zE l/\l.length<=maxLen/\∀ x∈l,x.ok:=by
 obtain⟨xs,rfl,H,G⟩:=yN.YM (row:=Dec.row) (good:=Dec.ok) (λr F=>zbc F) h
 exact⟨xs,rfl,H,G⟩
end Go.V
namespace Go.V.Doc
open Go Go.Proofs
theorem zid:zl Tryz.prog 40 [] (.tup [zv sD,sG.d,zE sL]):=by
 refine zp mixed Tryz.func40 rfl c_40 ?_
 simp+decide[Tryz.f40]
 refine VX [5,6,8,13,17,18,19,24,25] ?_
 simp+decide
 refine Qj mixed 6 [0,1] (by rfl) (by rfl) (by rfl) (by rfl) (by simp) ?_
 simp+decide
 exact⟨rfl,rfl,rfl⟩
theorem zfq(H:zl Tryz.prog 28 [zv sD,sG.d,zE sL,int 100] (.tup [zv sX,int 0])):zl Tryz.prog 13 [] (.bool true):=by
 refine zp mixed Tryz.func13 rfl c_13 ?_
 have E:=MH sX 2 (ZY (by decide +kernel)) (by decide +kernel)
 rw[zks] at E
 have K:=MN Wj (ZY (by decide +kernel)) (by decide +kernel) sG Fe Ff [] (by decide +kernel) (by decide +kernel)
 rw[MP Wj,znu] at K
 have J:=MN Wj (ZY (by decide +kernel)) (by decide +kernel) sG Fe Ff sL (by decide +kernel) (by decide +kernel)
 rw[MP Wj,zkt] at J
 have L:=Y3 sD (by decide +kernel)
 rw[MS] at L
 have G:=MJ [⟨#[98,97]⟩,⟨#[112,105]⟩] [⟨#[98,97]⟩,⟨#[112,105]⟩] (by simp) (by simp)
 have F:=MJ [Vh,Vi] [Vh,Vi] (by simp) (by simp)
 rw[decide_eq_true rfl] at G F
 simp+decide[Tryz.f13]
 refine zh zid ?_
 simp+decide[zv,Dc.row,Lang.d,zE,int]
 refine zh H ?_
 simp+decide[zv,Dc.row,int]
 refine zh E ?_
 simp+decide[xq]
 refine zh K ?_
 simp+decide[ints]
 refine zh L ?_
 simp+decide
 have M:sX.notes.length=7:=by decide +kernel
 simp+decide[zy,M]
 refine zh G ?_
 simp+decide
 refine zh F ?_
 simp+decide
 refine zh J ?_
 simp+decide[ints]
theorem zb1{d:D}(h:yN d (.sl Wt)):∃ l,d=zE l:=by
 obtain⟨l,e,_⟩:=zdu h
 exact⟨l,e⟩
theorem Nh{l:List Dec}(h:js 1048576 (zE l)):l.length<2^40/\W8 l:=by
 simp only[zE,js,Cap,List.length_map] at h
 refine⟨by omega,λx H=>?_⟩
 have:=k9 h.2 x H
 simp only[Dec.row,Caps,Cap,int,zm,List.length_map] at this
 unfold Dec.fit
 omega
theorem zdv:yD sD sG sL 100=(sX,0):=by
 have H:(yn sD sG sL 2).kind=4:=by rw[MU]
 have G:(yn sD sG sL 2).pick=sQ:=by rw[MU]
 unfold yD
 rw[if_pos MS,zkr,vg,if_neg (λn=>n H),G,if_neg (by rw[znt];decide),zdn,if_neg (λn=>n rfl),vg,if_pos zns,zor]
 rfl
theorem zie:zl Tryz.prog 13 [] (.bool true):=zfq (by
 have:=Fj znr (ZY (by decide +kernel)) sG Fe Ff sL (by decide +kernel) (by decide +kernel) 100
 rwa [zdv] at this)
theorem zfr(d:Dc)(c0:js 1048576 (zv d))(g:Lang)(c1:js 1048576 g.d)(l:List Dec)(c2:js 1048576 (zE l))(n1 n2:Int):
  zl Tryz.prog 11 [zv d,g.d,zE l,.agg [int n1,int n2]] (.bool true):=
 zic zie d (Nc c0).1 (Nc c0).2 g (zhj c1) l (Nh c2).1 (Nh c2).2 n1 n2
end Go.V.Doc
namespace Go.V
open Go Go.Proofs Go.RowKit Go.ChangeShapes Go.WideShapes Go.ChangeAt
theorem zmh{H:Type}{enc:TypeId×Value->H}{w:World}{base:Nat}{sp:Nat->Bool}{held:Bool}{r:Reach}{b0:Nat}{v:Value}{d:DataW H}{ps:List MemPlace}
  (K:Value.okWide Tryz.prog w r b0 85 v) (h:DataW.Trod enc Tryz.prog w base sp held 85 v d ps):∃ a b,R w Ez (.agg [.int .i64 a,.int .i64 b]) v:=by
 simp only[Value.okWide,Tryz.underlying85] at K
 obtain⟨cs,rfl,J,_⟩:=K
 obtain⟨fuel,L⟩:=h
 obtain⟨xs,m,rfl,_,M,O,hi⟩:=DataW.trod_array Tryz.underlying85 L
 have c1:Tryz.prog.cellsOf 3=1:=by kernel_rfl
 have c2:Tryz.prog.cellsOf 85=2:=by kernel_rfl
 rw[c2] at M
 have Q:=hi 0 (by decide)
 have T:=hi 1 (by decide)
 rw[c1] at Q T
 have M:cs.toList.length=2:=M
 obtain⟨u0,u1,V⟩:∃ u0 u1,cs.toList=[u0,u1]:=by
  match X:cs.toList,M with
  | [a,b],_=>exact⟨a,b,rfl⟩
 have G:(Value.cells (.agg cs)).toList=[u0,u1]:=V
 rw[G] at Q T
 have F:xs[0]?=some (xs[0]'(by omega)):=List.getElem?_eq_getElem (by omega)
 have E:xs[1]?=some (xs[1]'(by omega)):=List.getElem?_eq_getElem (by omega)
 rw[F] at Q
 rw[E] at T
 obtain⟨a,Y,_,_⟩:=DataW.trod_int Tryz.underlying3 Q
 obtain⟨b,Z,_,_⟩:=DataW.trod_int Tryz.underlying3 T
 simp at Y Z
 subst Y Z
 refine⟨a,b,?_⟩
 simp only[R,zi]
 exact⟨_,rfl,_,_,V,rfl,rfl,_,_,rfl,rfl,rfl,rfl⟩
theorem Ni{w:World}{E:Nat->Prop}{d:D}{v:Value}:∀ {xs:List D} {vs:List Value},zF w E xs vs->R w E d v->zF w E (xs++[d]) (vs++[v])
 | [],vs,h,H=>by
  simp only[zF] at h;subst h;simp only[List.nil_append,zF];exact⟨v,[],rfl,H,rfl⟩
 |x::xs,vs,h,H=>by
  simp only[zF] at h;obtain⟨u,us,rfl,G,F⟩:=h;simp only[List.cons_append,zF];exact⟨u,us++[v],rfl,G,Ni F H⟩
end Go.V

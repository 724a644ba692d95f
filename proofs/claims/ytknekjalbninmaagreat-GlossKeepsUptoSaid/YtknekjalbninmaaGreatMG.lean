/- Contracts and plain laws of this seat: part MG. It needs no conditions. -/
import Derived.Test.YtknekjalbninmaaGreatMF
import Derived.Test.YtknekjalbninmaaGreatW2
import Derived.WalkKit
import Derived.Recover
import Derived.Test.YtknekjalbninmaaGreatW3
import Derived.Test.YtknekjalbninmaaGreatME
import Derived.Test.YtknekjalbninmaaGreatMA
import Derived.Test.YtknekjalbninmaaGreatB1
import Derived.Test.YtknekjalbninmaaGreatMB
import Derived.Test.YtknekjalbninmaaGreatMC
import Derived.Test.YtknekjalbninmaaGreatMD
import Derived.Test.YtknekjalbninmaaGreatS3
set_option maxHeartbeats 32000000
set_option linter.unusedVariables false
set_option linter.unusedSimpArgs false
set_option linter.unusedSectionVars false
set_option maxRecDepth 100000
namespace Go.V.Doc
open Go Go.Proofs
def sB:ByteArray:=⟨#[98]⟩
def sA:ByteArray:=⟨#[97]⟩
def sP:ByteArray:=⟨#[112]⟩
def sI:ByteArray:=⟨#[105]⟩
def sDog:ByteArray:=⟨#[100,111,103]⟩
def sPL:ByteArray:=⟨#[80,76]⟩
def KX:ByteArray:=⟨#[98,97,98,105]⟩
def sG:Lang where
 inv:=[⟨sB,2⟩,⟨sA,3⟩,⟨sP,0⟩,⟨sI,11⟩]
 orth:=⟨⟨#[109,97,105,110]⟩,[⟨sB,[1]⟩,⟨sA,[2]⟩,⟨sP,[3]⟩,⟨sI,[4]⟩],[]⟩
 rules:=[⟨[3],[1],[⟨1,1⟩],[⟨1,1⟩],false,false⟩]
 net:=⟨2,[⟨0,1,1⟩,⟨1,2,1⟩],[1]⟩
 lex:=[⟨1,[1,2],1,[],0,[⟨sDog,.empty⟩],[],[]⟩,⟨2,[3,4],2,[],0,[⟨sPL,.empty⟩],[],[]⟩]
def sQ:List Prt:=[⟨1,0,0⟩,⟨2,0,0⟩]
def sL:List Dec:=[⟨⟨5,2⟩,true,sQ⟩]
theorem st1:(qM sG.orth.units KX).2.2=0:=by decide +kernel
theorem st2:(qM sG.orth.units KX).1=[1,2,1,4]:=by decide +kernel
theorem vw:X1 sG [1,2,1,4] sQ=true:=by decide +kernel
theorem XK:Ew sG ⟨5,2⟩ KX sL=⟨⟨5,2⟩,4,sQ⟩:=by decide +kernel
theorem all_cons{α:Type}{p:α->Prop}{a:α}{l:List α}(h:p a)(t:∀ x∈l,p x):∀ x∈a::l,p x:=λx H=>(List.mem_cons.1 H).elim (λe=>e▸h) (t x)
end Go.V.Doc
namespace Go.V.Doc
open Go Go.Proofs Go.RowKit
end Go.V.Doc
namespace Go.V.Doc
open Go Go.Proofs Go.RowKit
def VF(g:Lang)(l:List Dec):List Int->Dc->Int->Dc×Int
 | [],d,_=>(d,0)
 |w::ws,d,nx=>
  if ¬(Y4 d g l w).kind=4 then VF g l ws (if 0<(yJ d w 3).length then jj d w else d) nx
  else if ziw d g w (Y4 d g l w).pick=true then VF g l ws d nx
  else if ¬(qw d g w (Y4 d g l w).pick nx).2=0 then (jZ,(qw d g w (Y4 d g l w).pick nx).2)
  else VF g l ws (qw d g w (Y4 d g l w).pick nx).1 (nx+2*(Y4 d g l w).pick.length)
def BR(d:Dc)(g:Lang)(l:List Dec)(nx:Int):Dc×Int:=if xh d=true then VF g l (zix d) d nx else (jZ,14)
section
variable {d:Dc} {w v nx:Int} {F G:List ByteArray}
theorem zey(h:Rgt d)(G:xh d=true){n:Nt}(F:n∈d.notes)(E:n.tier=zy d.tiers 2):n∈zE d w:=by
 refine w9.2 ⟨F,λK=>?_⟩
 obtain⟨c,J,h2,_⟩:=(uS h F).1 K
 have H:=Xv h F J
 have L:=(XJ h G).m
 obtain⟨t,et⟩:∃ t:Nat,zy d.tiers 3=t:=⟨(zy d.tiers 3).toNat,by omega⟩
 rw[et] at L
 have M:=h.up (t:=t) (by omega) (by rw[L.1];decide)
 rw[L.2.1] at M
 omega
theorem KY(H:yT d v=true):(zi d.notes v).1∈d.notes/\(zi d.notes v).1.id=v/\(zi d.notes v).1.tier=zy d.tiers 2/\zi d.notes v=((zi d.notes v).1,true):=by
 unfold yT at H
 rw[Bool.and_eq_true,decide_eq_true_eq] at H
 have G:=jH H.1
 exact⟨G.1,G.2,H.2,Prod.ext rfl H.1⟩
theorem EA(h:Rgt d)(H:xh d=true)(E:yT d v=true)(K:xI (zE d w) nx (2*F.length)=false):zi (zP d w nx F G).notes v=zi d.notes v:=by
 obtain⟨J,h2,L,M⟩:=KY E
 rw[M]
 have:=kU (uW (G:=G) h K) (vv.2 (.inl (zey h H J L)))
 rw[h2] at this;exact this
end
structure ZY(d0 d:Dc)(ws:List Int):Prop where
 m:Mid d
 ti:d.tiers=d0.tiers
 id:d.id=d0.id
 wd:∀ v∈ws,yT d v=true/\zi d.notes v=zi d0.notes v
theorem zez{d x:Dc}{v:Int}(H:x.tiers=d.tiers)(G:zi x.notes v=zi d.notes v):yT x v=yT d v:=by unfold yT;rw[H,G]
end Go.V.Doc
namespace Go.V.Doc
open Go Go.Proofs Go.RowKit
section
variable {d:Dc} {w v nx:Int} {F G:List ByteArray}
end
end Go.V.Doc
namespace Go.V.Doc
open Go Go.Proofs Go.RowKit
theorem ze0{l:List Nt}(h:l.Pairwise λa b=>xE b a=false)(H:∀ a∈l,∀ b∈l,xE a b=false->xE b a=false->a=b):xr l=l:=
 List.Perm.eq_of_pairwise (le:=λa b=>xE b a=false) (λa b m1 m2 r1 r2=>H a ((ZR l).mem_iff.1 m1) b m2 r2 r1) (RZ l) h (ZR l)
section
variable {d:Dc} {w nx:Int} {F G:List ByteArray}
theorem EB(i j:Nat):xE (wY d w nx F i) (wY d w nx F j)=decide (i<j):=by
 rw[Bool.eq_iff_iff,WQ,decide_eq_true_iff]
 simp
theorem ze1(h:Rgt d)(K:xh d=true)(J:xI (zE d w) nx (2*F.length)=false):qk (zP d w nx F G) w (zy d.tiers 3)=(List.range F.length).map (wY d w nx F):=by
 have L:=XJ h K
 have H:zy d.tiers 4≠zy d.tiers 3:=λe=>by have:=L.g.1;have:=L.m.1;rw[e] at *;omega
 unfold qk
 have e:(zP d w nx F G).notes.filter (ym (zP d w nx F G) w (zy d.tiers 3))=(List.range F.length).map (wY d w nx F):=by
  refine KT ((uW h J).sublist List.filter_sublist) ?_ λn=>?_
  .unfold jo
   rw[List.pairwise_map];exact List.pairwise_lt_range.imp λ{a b} E=>by show nx+2*(a:Int)<nx+2*b;omega
  .rw[List.mem_filter,vv,List.mem_map]
   constructor
   .rintro⟨M,h2⟩
    unfold ym at h2;simp only[Bool.and_eq_true,decide_eq_true_eq] at h2;obtain⟨⟨⟨a,b⟩,_⟩,_⟩:=h2;rcases M with M | M
    .exact(VB h M a b).elim
    .obtain⟨i,hi,rfl | rfl⟩:=vU.1 M
     .exact⟨i,List.mem_range.2 hi,rfl⟩
     .exact absurd a H
   .rintro⟨i,hi,rfl⟩
    refine⟨.inr (vU.2 ⟨i,List.mem_range.1 hi,.inl rfl⟩),?_⟩
    unfold ym;simp only[Bool.and_eq_true,decide_eq_true_eq];exact⟨⟨⟨by simp,by simp⟩,L.m.2.2.1⟩,L.m.2.2.2⟩
 rw[e]
 refine ze0 ?_ ?_
 .rw[List.pairwise_map]
  exact List.pairwise_lt_range.imp λ{a b} E=>by rw[EB,decide_eq_false (by omega)]
 .intro a O b Q M h2
  obtain⟨i,_,rfl⟩:=List.mem_map.1 O;obtain⟨j,_,rfl⟩:=List.mem_map.1 Q;rw[EB,decide_eq_false_iff_not] at M h2;rw[show i=j by omega]
theorem ze2(h:Rgt d)(E:xh d=true)(K:xI (zE d w) nx (2*F.length)=false){i:Nat}(hi:i<F.length):qk (zP d w nx F G) (nx+2*i) (zy d.tiers 4)=[Y2 d nx G i]:=by
 have J:=XJ h E
 have H:zy d.tiers 4≠zy d.tiers 3:=λe=>by have:=J.g.1;have:=J.m.1;rw[e] at *;omega
 unfold qk
 have e:(zP d w nx F G).notes.filter (ym (zP d w nx F G) (nx+2*i) (zy d.tiers 4))=[Y2 d nx G i]:=by
  refine KT ((uW h K).sublist List.filter_sublist) (by simp[jo]) λn=>?_
  rw[List.mem_filter,vv,List.mem_singleton];constructor
  .rintro⟨L,h2⟩
   unfold ym at h2;simp only[Bool.and_eq_true,decide_eq_true_eq] at h2;obtain⟨⟨⟨a,b⟩,_⟩,_⟩:=h2;rcases L with L | L
   .exact(VC h J K hi L a b).elim
   .obtain⟨j,M,rfl | rfl⟩:=vU.1 L
    .exact absurd a.symm H
    .have b:nx+2*(j:Int)=nx+2*i:=b
     rw[show j=i by omega]
  .rintro rfl
   refine⟨.inr (vU.2 ⟨i,hi,.inr rfl⟩),?_⟩
   unfold ym;simp only[Bool.and_eq_true,decide_eq_true_eq];exact⟨⟨⟨by simp,by simp⟩,J.g.2.2.1⟩,J.g.2.2.2⟩
 rw[e]
 exact List.perm_singleton.1 (ZR _)
theorem zgm(h:Rgt d)(H:xh d=true)(E:yT d w=true)(K:xI (zE d w) nx (2*F.length)=false)(J:G.length=F.length):Zg (zP d w nx F G) w=(F,G)/\(yJ (zP d w nx F G) w 3).length=F.length:=by
 have tx:∀ n,n∈yL d w nx F G F.length->vP (zP d w nx F G) n.id=n.text:=λn L=>by
  unfold vP;rw[kU (uW h K) (vv.2 (.inr L))]
 have e3:yJ (zP d w nx F G) w 3=(List.range F.length).map λi:Nat=>nx+2*(i:Int):=by
  show yj (qk (zP d w nx F G) w (zy d.tiers 3))=_
  rw[ze1 h H K];unfold yj;rw[List.map_map];rfl
 have hs:Xp (zP d w nx F G) w=true:=by
  unfold Xp;rw[Bool.and_eq_true];exact⟨by rw[@zez d (zP d w nx F G) w rfl (EA h H E K)];exact E,H⟩
 refine⟨?_,by rw[e3];simp⟩
 unfold Zg
 rw[if_pos hs,e3]
 refine Prod.ext ?_ ?_
 .refine List.ext_getElem (by simp) λi M h2=>?_
  have hi:i<F.length:=h2
  simp only[List.getElem_map,List.getElem_range];rw[tx (wY d w nx F i) (vU.2 ⟨i,hi,.inl rfl⟩)];simp[hi]
 .refine List.ext_getElem (by simp[J]) λi M h2=>?_
  have hi:i<F.length:=by rw[<-J];exact h2
  simp only[List.getElem_map,List.getElem_range];have e4:yJ (zP d w nx F G) (nx+2*i) 4=[nx+2*i+1]:=by
   show yj (qk (zP d w nx F G) (nx+2*i) (zy d.tiers 4))=_
   rw[ze2 h H K hi];rfl
  rw[e4];show vP (zP d w nx F G) (Y2 d nx G i).id=_
  rw[tx (Y2 d nx G i) (vU.2 ⟨i,hi,.inr rfl⟩)];have:i<G.length:=h2
  simp[this]
end
end Go.V.Doc
namespace Go.V.Doc
open Go Go.Proofs Go.RowKit
theorem ze3{d:Dc}(h:Rgt d)(hs:∀ t∈d.tiers,t.name.size<=9223372036854775807):zj Tryz.prog 32 [zq d] (int 0):=by
 have H:=CH.2 h
 rw[K7] at H
 have G:=Za h
 have h2:=h.few
 have:=DW d (by omega) (by omega) hs λn F=>by
  have:=note_text h n.id
  rw[wP h F] at this;have:n.text.size<=1024:=this
  omega
 rwa [H] at this
def wZ(d:Dc)(id w:Int):Bool:=decide (w∈(yj (chainE d (zi d.notes id))).tail)
theorem ze4{d:Dc}(h:Rgt d)(id:Int):(yj (chainE d (zi d.notes id))).length<2^40:=by
 unfold yj chainE
 split
 .rename_i H
  obtain⟨G,_⟩:=jH H;have h2:=(Xr h _ _ G (Nat.le_refl _)).2;obtain⟨t,F,et⟩:=h.Ku G;have:=Za h
  rw[List.length_map];omega
 .simp
theorem EC(d:Dc)(h:Rgt d)(id w:Int):zj Tryz.prog 37 [zq d,int id,int w] (.bool (wZ d id w)):=by
 have J:=SA d h id
 have M:=ze4 h id
 unfold wZ
 generalize yj (chainE d (zi d.notes id))=L at J M
 refine zn mixed Tryz.func37 rfl c_37 ?_
 simp+decide[Tryz.f37,zq,Dc.row,int]
 refine zg J ?_
 simp+decide[ints,int]
 refine x9 mixed (λk:Nat=>{n:=24,next:=1,slots:=[(2,.d (int w)),(7,.d (ints L)),(8,.d (int k))],own:=[]})
  (λk=>1<=k/\(k<=L.length\/k=1)/\w∉(L.take k).tail) (λk=>L.length-k) 1 ⟨Nat.le_refl _,.inr rfl,?_⟩ ?_ ?_
 .cases L <;> simp
 .simp+decide[int,ints]
 rintro k ⟨O,Q,F⟩
 refine ya mixed ?_
 by_cases G:k<L.length
 case neg=>
  have H:¬(k:Int)<L.length:=by omega
  rw[List.take_of_length_le (by omega)] at F
  simp+decide[int,ints,G,H,F]
 have H:(k:Int)<L.length:=by omega
 obtain⟨m,em⟩:∃ m,L[k]=m:=⟨_,rfl⟩
 have e1:L[k]?=some m:=by rw[List.getElem?_eq_getElem G,em]
 by_cases T:m=w
 .have E:w∈L.tail:=by
   refine List.mem_iff_getElem.2 ⟨k-1,by rw[List.length_tail];omega,?_⟩
   rw[List.getElem_tail,<-T,<-em];congr 1;omega
  simp+decide[int,ints,G,H,em,e1,T,E]
 .simp+decide[int,ints,G,H,em,e1,T,I64]
  refine⟨by omega,k+1,⟨by omega,.inl G,?_⟩,by omega,by omega⟩
  have K:L.take k≠[]:=λe=>by have:=congrArg List.length e;rw[List.length_take,List.length_nil] at this;omega
  rw[List.take_succ_eq_append_getElem G,em,List.tail_append_of_ne_nil K];simp only[List.mem_append,List.mem_singleton,not_or];exact⟨F,λe=>T e.symm⟩
end Go.V.Doc
namespace Go.V.Doc
open Go Go.Proofs Go.RowKit
theorem ED{d:Dc}(h:Rgt d){n:Nt}(H:n∈d.notes)(w:Int):wZ d n.id w=decide (w∈yj (chainE d (zi d.notes n.par))):=by
 unfold wZ
 have e:chainE d (zi d.notes n.id)=n::chainE d (zi d.notes n.par):=by
  rw[wP h H,<-(yA h H).1];unfold chainE;rw[if_pos rfl]
 rw[e];rfl
section
variable {d:Dc} {w nx:Int} {F G:List ByteArray}
theorem zdh(h:Rgt d)(E:xh d=true)(K:yT d w=true)(J:xI (zE d w) nx (2*F.length)=false){n:Nt}(L:n∈d.notes)(M:wZ d n.id w=false):zi (zP d w nx F G).notes n.id=(n,true):=by
 refine kU (uW h J) (vv.2 (.inl (w9.2 ⟨L,λO=>?_⟩)))
 rw[ED h L,decide_eq_false_iff_not] at M
 obtain⟨c,Q,h2,T⟩:=(uS h L).1 O
 obtain⟨q1,q2,q3,q4⟩:=KY K
 have H:=Vk h L Q
 have V:=Vj h q1 H (T.trans q2.symm)
 have X:(zi d.notes w).1∈xk d n:=CO h _ n L (Nat.le_refl _) c Q _ (by rw[V];exact List.mem_cons_of_mem _ (ZS h q1))
 rw[(yA h L).1] at X
 rcases List.mem_cons.1 X with e | e
 .rw[<-e] at Q
  have:=Xv h q1 Q
  have:=kQ h q1 H (T.trans q2.symm)
  omega
 .exact M (List.mem_map.2 ⟨_,e,q2⟩)
theorem zdi(h:Rgt d)(E:Rgt (zP d w nx F G))(K:xh d=true)(J:yT d w=true)(L:xI (zE d w) nx (2*F.length)=false){n:Nt}(M:n∈(zP d w nx F G).notes)(O:(zi d.notes n.id).2=false):wZ (zP d w nx F G) n.id w=true:=by
 rw[ED E M,decide_eq_true_iff]
 obtain⟨q1,q2,q3,q4⟩:=KY J
 have H:zi (zP d w nx F G).notes w=zi d.notes w:=EA h K J L
 have e0:chainE (zP d w nx F G) (zi (zP d w nx F G).notes w)=(zi d.notes w).1::chainE (zP d w nx F G) (zi (zP d w nx F G).notes (zi d.notes w).1.par):=by
  have Q:(zi d.notes w).1∈(zP d w nx F G).notes:=by
   have:=jH (l:=(zP d w nx F G).notes) (id:=w) (by rw[H,q4])
   rw[H] at this;exact this.1
  rw[H,q4];unfold chainE;rw[if_pos rfl];exact(yA E Q).1
 rcases vv.1 M with T | T
 .rw[wP h (w9.1 T).1] at O;cases O
 .obtain⟨i,hi,rfl | rfl⟩:=vU.1 T
  .show w∈yj (chainE (zP d w nx F G) (zi (zP d w nx F G).notes w))
   rw[e0];exact List.mem_map.2 ⟨_,List.mem_cons_self,q2⟩
  .show w∈yj (chainE (zP d w nx F G) (zi (zP d w nx F G).notes (nx+2*i)))
   have Q:wY d w nx F i∈(zP d w nx F G).notes:=vv.2 (.inr (vU.2 ⟨i,hi,.inl rfl⟩))
   have e1:chainE (zP d w nx F G) (zi (zP d w nx F G).notes (nx+2*i))=wY d w nx F i::chainE (zP d w nx F G) (zi (zP d w nx F G).notes w):=by
    rw[show zi (zP d w nx F G).notes (nx+2*i)=(wY d w nx F i,true) from kU (uW h L) Q]
    unfold chainE;rw[if_pos rfl];exact(yA E Q).1
   rw[e1,e0];exact List.mem_map.2 ⟨_,List.mem_cons_of_mem _ List.mem_cons_self,q2⟩
end
end Go.V.Doc
namespace Go.V.Doc
open Go Go.Proofs
theorem ze5(N:zj Tryz.prog 13 [] (.bool true))(d:Dc)(hs:∀ t∈d.tiers,t.name.size<=9223372036854775807)(P:∀ n∈d.notes,n.text.size<=9223372036854775807)(g:Lang)(S:LangC g)(w:Int)(ps:List Prt)(W:ps.length<=1048576)(nx:Int):
  zj Tryz.prog 10 [zq d,g.d,int w,yI ps,int nx] (.bool true):=by
 refine zn mixed Tryz.func10 rfl c_10 ?_
 by_cases c1:(6:Int)<ps.length
 .simp+decide[Tryz.f10,int,yI,y9,zq,Dc.row,Lang.d,yi,c1]
  refine zg N ?_
  simp+decide
 simp+decide[Tryz.f10,int,yI,y9,zq,Dc.row,Lang.d,yi,c1]
 refine zC.some (by rfl) (zht d hs P g S) ?_
 rintro r ⟨b,rfl,hb⟩
 cases b with
 |false=>
  simp+decide[int];refine zg N ?_
  simp+decide
 |true=>
  obtain⟨hl,hL⟩:=hb rfl;obtain⟨h1,h2,h3,hr⟩:=Sv hl;have hF:=ziu hr g hL S w (CL (by omega)) ps (by omega) nx
  simp+decide[int];refine zg hF ?_
  simp+decide[int,zq,Dc.row];by_cases he:(qw d g w ps nx).2=0
  case neg=>
   simp+decide[he];refine zg N ?_
   simp+decide
  obtain⟨cz,c2,c3,c4,c5,c6,c7,c8⟩:=Ep he;obtain⟨M,hw⟩:=Es cz;have hM:=Mid.fill ⟨hr,M,CL (by omega)⟩ hL he
  rw[c8] at hM;have X:=En c3;have K:=KQ g ps;have O:=zgm hr M hw c6 K;have J:∀ n∈d.notes,wZ d n.id w=false->zi (zP d w nx (yc g ps).1 (yc g ps).2.1).notes n.id=(n,true):=λn hn hu=>zdh hr M hw c6 hn hu
  have Q:∀ n∈(zP d w nx (yc g ps).1 (yc g ps).2.1).notes,(zi d.notes n.id).2=false->wZ (zP d w nx (yc g ps).1 (yc g ps).2.1) n.id w=true:=λn hn hd=>zdi hr hM.r M hw c6 hn hd
  have Y:(zP d w nx (yc g ps).1 (yc g ps).2.1).tiers=d.tiers:=rfl
  have Z:({zP d w nx (yc g ps).1 (yc g ps).2.1 with notes:=[]}:Dc) = {d with notes:=[]}:=rfl
  simp+decide[he];rw[c8];generalize yc g ps=LN at *;obtain⟨F,G,eL⟩:=LN;simp only at *
  generalize zP d w nx F G=x at *;have hC:=ze3 hM.r (by rw[Y];exact hs)
  have hS:=TR {x with notes:=[]} {d with notes:=[]} ⟨by simp,by show d.tiers.length<=20;omega,by show d.spk.length<=100;omega⟩
  rw[decide_eq_true Z] at hS;refine zg hC ?_
  simp+decide[int,zq,Dc.row,J1];refine zg hS ?_
  simp+decide[int,zq,Dc.row];have I:=hM.r.few;refine x9 mixed (λk:Nat=>{n:=157,next:=4,slots:=[(2,.d (int w)),(5,.bp 0 0),(8,.bp 2 0),(11,.bp 3 0),(13,.d (int k))],own:=[(0,.box 53 (zW d)),(2,.box 39 [.d (y9 ps)]),(3,.box 53 (zW x))]})
   (λk=>k<=d.notes.length) (λk=>d.notes.length-k) 0 (Nat.zero_le _) ?_ ?_
  .simp+decide[int,ints,zW,Ey,y9]
  intro k hk;refine ya mixed ?_
  by_cases E:k<d.notes.length
  case pos=>
   have H:(k:Int)<d.notes.length:=by omega
   obtain⟨n,en⟩:∃ n,d.notes[k]=n:=⟨_,rfl⟩;have e1:d.notes[k]?=some n:=by rw[List.getElem?_eq_getElem E,en]
   have hn:n∈d.notes:=by rw[<-en];exact List.getElem_mem E
   have hG:=jX x n.id (by omega)
   have hB:=EC d hr n.id w;have L:=J n hn;generalize wZ d n.id w=u at hB L;simp+decide[int,ints,zW,zl,y9,E,H,e1,en];refine QC mixed 13 [] (by rfl) (by rfl) (by rfl) (by rfl) ?_
   simp+decide[int,ints,zW,zl,Nt.row,E,H,e1,en];refine scp hG ?_
   generalize zi x.notes n.id=gx at L;obtain⟨m,ok⟩:=gx;simp+decide[getD',int,ints,zW,zl,Nt.row,E,H,e1,en];refine⟨by rfl,?_⟩
   refine scp hB ?_
   cases u with
   |true=>
    simp+decide[int,ints,zW,zl,Nt.row,E,H,e1,en,I64];exact⟨by omega,k+1,E,by omega,by omega⟩
   |false=>
    have L:=L rfl;injection L with A hk2;subst A hk2;simp+decide[int,ints,zW,zl,Nt.row,E,H,e1,en,I64];exact⟨by omega,k+1,E,by omega,by omega⟩
  have:k=d.notes.length:=by omega
  subst this;simp+decide[int,ints,zW,zl];refine x9 mixed (λk:Nat=>{n:=157,next:=4,slots:=[(2,.d (int w)),(5,.bp 0 0),(8,.bp 2 0),(11,.bp 3 0),(16,.d (int k))],own:=[(0,.box 53 (zW d)),(2,.box 39 [.d (y9 ps)]),(3,.box 53 (zW x))]})
   (λk=>k<=x.notes.length) (λk=>x.notes.length-k) 0 (Nat.zero_le _) ?_ ?_
  .simp+decide[int,ints,zW,Ey,zl,y9]
  clear hk;intro k hk;refine ya mixed ?_
  by_cases E:k<x.notes.length
  case pos=>
   have H:(k:Int)<x.notes.length:=by omega
   obtain⟨n,en⟩:∃ n,x.notes[k]=n:=⟨_,rfl⟩;have e1:x.notes[k]?=some n:=by rw[List.getElem?_eq_getElem E,en]
   have hn:n∈x.notes:=by rw[<-en];exact List.getElem_mem E
   have hG:=jX d n.id (by omega)
   have hB:=EC x hM.r n.id w;have T:=Q n hn;generalize wZ x n.id w=u at hB T;simp+decide[int,ints,zW,zl,y9,E,H,e1,en];refine QC mixed 13 [] (by rfl) (by rfl) (by rfl) (by rfl) ?_
   simp+decide[int,ints,zW,zl,Nt.row,E,H,e1,en];refine scp hG ?_
   generalize zi d.notes n.id=gx at T;obtain⟨m,ok⟩:=gx;simp+decide[getD',int,ints,zW,zl,Nt.row,E,H,e1,en];refine⟨by rfl,?_⟩
   cases ok with
   |true=>
    simp+decide[int,ints,zW,zl,Nt.row,E,H,e1,en,I64];exact⟨by omega,k+1,E,by omega,by omega⟩
   |false=>
    rw[T rfl] at hB;simp+decide[int,ints,zW,zl,Nt.row,E,H,e1,en];refine scp hB ?_
    simp+decide[int,ints,zW,zl,Nt.row,E,H,e1,en,I64];exact⟨by omega,k+1,E,by omega,by omega⟩
  have:k=x.notes.length:=by omega
  subst this;have V:=zhs x w hM.w (by have:=Za hM.r;omega)
  rw[O.1] at V;simp+decide[int,ints,zW,zl];refine zg V ?_
  have B:(F.length:Int)=ps.length:=by omega
  have C:(G.length:Int)=ps.length:=by omega
  simp+decide[int,wR,y9,B,C];refine zg N ?_
  simp+decide
abbrev EE:List Sh:=[.str,.int .i64,.int .i64,.int .i64]
abbrev EF:List Sh:=[.int .i64,.int .i64,.int .i64,.int .i64,.int .i64,.int .i64,.str]
abbrev KZ:List Sh:=[.int .i64,.str,.int .i64,.int .i64,.sl [.int .i64],.sl EE,.sl EF]
def Tir.ok(t:Tir):Prop:=t.name.size<=maxLen/\qL t.kind/\qL t.role/\qL t.par
structure Nt.ok(n:Nt):Prop where
 id:qL n.id
 tier:qL n.tier
 par:qL n.par
 fr:qL n.fr
 tO:qL n.tO
 rank:qL n.rank
 text:n.text.size<=maxLen
structure Dc.ok(d:Dc):Prop where
 id:qL d.id
 name:d.name.size<=maxLen
 len:qL d.len
 day:qL d.day
 spk:BS d.spk
 tiers:d.tiers.length<=maxLen/\∀ t∈d.tiers,t.ok
 notes:d.notes.length<=maxLen/\∀ n∈d.notes,n.ok
theorem zcf{r:List D}(h:zO r EE):∃ t:Tir,r=t.row/\t.ok:=by
 obtain⟨_,_,rfl,g1,r1⟩:=h.zN
 obtain⟨_,_,rfl,g2,r2⟩:=r1.zN
 obtain⟨_,_,rfl,g3,r3⟩:=r2.zN
 obtain⟨_,_,rfl,g4,r4⟩:=r3.zN
 obtain rfl:=r4.qT
 obtain⟨a,rfl,wa⟩:=g1.uA
 obtain⟨b,rfl,wb⟩:=g2.xd
 obtain⟨c,rfl,wc⟩:=g3.xd
 obtain⟨e,rfl,we⟩:=g4.xd
 exact⟨⟨a,b,c,e⟩,rfl,wa,wb,wc,we⟩
theorem zcg{r:List D}(h:zO r EF):∃ n:Nt,r=n.row/\n.ok:=by
 obtain⟨_,_,rfl,g1,r1⟩:=h.zN
 obtain⟨_,_,rfl,g2,r2⟩:=r1.zN
 obtain⟨_,_,rfl,g3,r3⟩:=r2.zN
 obtain⟨_,_,rfl,g4,r4⟩:=r3.zN
 obtain⟨_,_,rfl,g5,r5⟩:=r4.zN
 obtain⟨_,_,rfl,g6,r6⟩:=r5.zN
 obtain⟨_,_,rfl,g7,r7⟩:=r6.zN
 obtain rfl:=r7.qT
 obtain⟨a,rfl,wa⟩:=g1.xd
 obtain⟨b,rfl,wb⟩:=g2.xd
 obtain⟨c,rfl,wc⟩:=g3.xd
 obtain⟨e,rfl,we⟩:=g4.xd
 obtain⟨f,rfl,wf⟩:=g5.xd
 obtain⟨g,rfl,wg⟩:=g6.xd
 obtain⟨s,rfl,ws⟩:=g7.uA
 exact⟨⟨a,b,c,e,f,g,s⟩,rfl,wa,wb,wc,we,wf,wg,ws⟩
theorem zdj{l:List D}(h:zO l KZ):∃ d:Dc,D.agg l=zq d/\d.ok:=by
 obtain⟨_,_,rfl,g1,r1⟩:=h.zN
 obtain⟨_,_,rfl,g2,r2⟩:=r1.zN
 obtain⟨_,_,rfl,g3,r3⟩:=r2.zN
 obtain⟨_,_,rfl,g4,r4⟩:=r3.zN
 obtain⟨_,_,rfl,g5,r5⟩:=r4.zN
 obtain⟨_,_,rfl,g6,r6⟩:=r5.zN
 obtain⟨_,_,rfl,g7,r7⟩:=r6.zN
 obtain rfl:=r7.qT
 obtain⟨a,rfl,wa⟩:=g1.xd
 obtain⟨b,rfl,wb⟩:=g2.uA
 obtain⟨c,rfl,wc⟩:=g3.xd
 obtain⟨e,rfl,we⟩:=g4.xd
 obtain⟨f,rfl,wf⟩:=AB g5
 obtain⟨ts,rfl,wt1,wt2⟩:=yz.YX (row:=Tir.row) (good:=Tir.ok) (λr H=>zcf H) g6
 obtain⟨ns,rfl,wn1,wn2⟩:=yz.YX (row:=Nt.row) (good:=Nt.ok) (λr H=>zcg H) g7
 exact⟨⟨a,b,c,e,f,ts,ns⟩,rfl,wa,wb,wc,we,wf,⟨wt1,wt2⟩,wn1,wn2⟩
theorem zch{l:List D}(h:zO l KZ):∃ d:Dc,D.agg l=zq d:=by
 obtain⟨d,e,_⟩:=zdj h
 exact⟨d,e⟩
theorem EG{d:Dc}(h:qI 1048576 (zq d)):(∀ t∈d.tiers,t.name.size<=9223372036854775807)/\(∀ n∈d.notes,n.text.size<=9223372036854775807):=by
 simp only[zq,Dc.row,qI,Caps,Cap,ints,int,List.length_map,and_true] at h
 obtain⟨_,_,_,_,_,⟨t1,t2⟩,n1,n2⟩:=h
 refine⟨λt ht=>?_,λn hn=>?_⟩
 .have:=w8 t2 t ht
  simp only[Tir.row,Caps,Cap,int] at this;omega
 .have:=w8 n2 n hn
  simp only[Nt.row,Caps,Cap,int] at this;omega
end Go.V.Doc
namespace Go.V
open Go Go.Proofs
def Xa:List D->Option Doc.Nt
 | [.int .i64 a,.int .i64 b,.int .i64 c,.int .i64 d,.int .i64 e,.int .i64 f,.str t]=>some ⟨a,b,c,d,e,f,t⟩
 |_=>none
def uM:List (List D)->Option (List Doc.Nt)
 | []=>some []
 |r::rs=>match Xa r,uM rs with
  |some x,some l=>some (x::l)
  |_,_=>none
theorem zgn{r:List D}{x:Doc.Nt}(h:Xa r=some x):r=x.row:=by
 unfold Xa at h
 split at h
 .cases h;rfl
 .cases h
theorem U0:∀ {rows:List (List D)} {l:List Doc.Nt},uM rows=some l->rows=l.map Doc.Nt.row
 | [],l,h=>by simp[uM] at h;subst h;rfl
 |r::rs,l,h=>by
  simp only[uM] at h;split at h
  .rename_i x l' H h2
   cases h;rw[zgn H,U0 h2];rfl
  .cases h
theorem zjn(T g:Nat):zA Tryz.prog 172 [.ar 0,.d (int 0),.d (int 0),.fn g []] [(0,.arr T 7 [])] 1 (.tup []) 1 [(0,.arr T 7 [])] []:=by
 refine xA mixed Tryz.func172 rfl c_172 (by simp[Sym.los,Sym.lo]) ?_
 simp+decide[Tryz.f172,int]
 refine⟨by unfold I64;omega,zm mixed (λ_:Unit=>{n:=53,next:=1,base:=1,slots:=[(2,.d (int 0)),(8,.d (int 1))],own:=[(0,.arr T 7 [])]})
  (λ_=>True) (λ_=>0) () trivial (by simp+decide[int]) ?_⟩
 intro _ _
 simp+decide[int]
def V9(args:List Sym)(own:List (Nat×Obj'))(n:Nat):Option XR:=match args,own,n with
 | [.ar 0,.d (.int .i64 a),.d (.int .i64 b),.fn g []],[(0,.arr T 7 (r0::rows))],1=>match uM (r0::rows) with
  |some l=>match Nat.beq g 66 with
   |true=>zu (decide (a=0)&&decide (b=(l.length:Int))&&Nat.blt 0 l.length&&Nat.beq (Doc.ZX l).length l.length&&Nat.blt l.length 1000)
    (some ⟨.d (.tup []),1,[(0,.arr T 7 ((Doc.ZX l).map Doc.Nt.row))],[]⟩)
   |false=>zu (Nat.beq g 113&&decide (a=0)&&decide (b=(l.length:Int))&&Nat.blt 0 l.length&&Nat.beq (Doc.xr l).length l.length&&Nat.blt l.length 1000)
    (some ⟨.d (.tup []),1,[(0,.arr T 7 ((Doc.xr l).map Doc.Nt.row))],[]⟩)
  |none=>none
 | [.ar 0,.d (.int .i64 a),.d (.int .i64 b),.fn g []],[(0,.arr T 7 [])],1=>zu (decide (a=0)&&decide (b=0)) (some ⟨.tup [],1,[(0,.arr T 7 [])],[]⟩)
 | [.d (.sl []),.d (.int .i64 a),.d (.int .i64 b),.fn g []],[],0=>zu (Nat.beq g 113&&decide (a=0)&&decide (b=0)) (some ⟨.tup [],0,[],[]⟩)
 |_,_,_=>none
theorem zdk{args:List Sym}{own:List (Nat×Obj')}{n:Nat}{r:XR}(h:V9 args own n=some r):zA Tryz.prog 172 args own n r.s r.nx r.own r.mv:=by
 unfold V9 at h
 split at h
 .rename_i a b g T r0 rows
  split at h
  .rename_i l hl
   split at h
   .rename_i hg
    rw[zv] at h;simp only[Bool.and_eq_true,beq_iff,yQ,decide_eq_true_eq] at h;obtain⟨⟨⟨⟨⟨h2,H⟩,G⟩,F⟩,E⟩,h⟩:=h;rw[beq_iff] at hg;cases h;subst hg;subst h2;subst H;rw[U0 hl];exact Doc.TX T l (by intro e;subst e;simp at G) (by omega) F
   .rw[zv] at h
    simp only[Bool.and_eq_true,beq_iff,yQ,decide_eq_true_eq] at h;obtain⟨⟨⟨⟨⟨⟨K,h2⟩,H⟩,G⟩,F⟩,E⟩,h⟩:=h;cases h;subst K;subst h2;subst H;rw[U0 hl];exact Doc.DL T l (by intro e;subst e;simp at G) (by omega) F
  .cases h
 .rename_i a b g T
  rw[zv] at h;simp only[Bool.and_eq_true,beq_iff,decide_eq_true_eq] at h;obtain⟨⟨h2,H⟩,h⟩:=h;cases h;subst h2;subst H;exact zjn T g
 .rename_i a b g
  rw[zv] at h;simp only[Bool.and_eq_true,beq_iff,decide_eq_true_eq] at h;obtain⟨⟨⟨K,h2⟩,H⟩,h⟩:=h;cases h;subst K;subst h2;subst H;exact Doc.R2
 .cases h
theorem zdl(s:ByteArray)(hs:s.size<2^40):
  zA Tryz.prog 100 [.bp 0 0,.d (.str s)] [(0,.box 166 [.d (.val (.pointer none)),.nils])] 1 (.tup [.d (int s.size),.d (.val .nilIface)]) 2 [(1,.arr 5 1 (y8 s)),(0,.box 166 [.bp 0 0,.ar 1])] [1]:=by
 have H:zA Tryz.prog 159 [.bp 0 0] [(0,.box 166 [.d (.val (.pointer none)),.nils])] 1 (.d (.tup [])) 1 [(0,.box 166 [.bp 0 0,.nils])] []:=U2 (by rfl) KD
 refine xA mixed Tryz.func100 rfl c_100 (by simp[Sym.los,Sym.lo]) ?_
 simp+decide[Tryz.f100,int]
 refine zC.mut [0] [.bp 0 0] [(0,.box 166 [.d (.val (.pointer none)),.nils])] (by rfl) (by simp) (by simp) (by simp) H ?_
 simp+decide[int,maxLen]
 exact⟨by omega,by omega⟩
theorem zdm(s:ByteArray)(rows:List (List D))(hs:rows.length+s.size<2^40):
  zA Tryz.prog 100 [.bp 0 0,.d (.str s)] [(0,.box 166 [.bp 0 0,.ar 1]),(1,.arr 5 1 rows)] 2 (.tup [.d (int s.size),.d (.val .nilIface)]) 2 [(0,.box 166 [.bp 0 0,.ar 1]),(1,.arr 5 1 (rows++y8 s))] [1]:=by
 have H:zA Tryz.prog 159 [.bp 0 0] [(0,.box 166 [.bp 0 0,.ar 1]),(1,.arr 5 1 rows)] 2 (.d (.tup [])) 2 [(0,.box 166 [.bp 0 0,.ar 1]),(1,.arr 5 1 rows)] []:=U3 (by rfl) KC _ _ _
 refine xA mixed Tryz.func100 rfl c_100 (by simp[Sym.los,Sym.lo]) ?_
 simp+decide[Tryz.f100,int]
 refine zC.mut [0,1] [.bp 0 0] [(0,.box 166 [.bp 0 0,.ar 1]),(1,.arr 5 1 rows)] (by rfl) (by simp) (by simp) (by simp;rfl) H ?_
 simp+decide[int,maxLen]
 exact⟨by omega,by omega⟩
end Go.V
namespace Go.V
open Go Go.Proofs Go.RowKit
def U1(f:Nat):Option (List Sym->List (Nat×Obj')->Nat->Option XR):=match Nat.beq f 172 with
 |true=>some V9
 |false=>match Nat.beq f 159 with
  |true=>some (U4 166)
  |false=>match Nat.beq f 100 with
   |true=>some (U6 166 5)
   |false=>match Nat.beq f 101 with
    |true=>some (U5 166 5)
    |false=>none
def mfB(f:Nat):Bool:=Nat.beq f 53 || (Nat.beq f 54 || (Nat.beq f 52 || (Nat.beq f 20 || (Nat.beq f 51 ||
 (Nat.beq f 65 || (Nat.beq f 121 || (Nat.beq f 112 || (Nat.beq f 165 || Nat.beq f 172))))))))
noncomputable def EH:XG:={DI Tryz.prog with kc:=U1,mf:=mfB}
theorem XL:XGood Tryz.prog EH:=by
 have g:=PY PZ
 refine⟨g.ti,g.zf,g.ek,g.fn,g.kn,?_⟩
 intro f k args own n r H G _
 have H:U1 f=some k:=H
 unfold U1 at H
 split at H
 .rename_i e
  rw[beq_iff] at e;cases H;subst e;exact zdk G
 .split at H
  .rename_i e
   rw[beq_iff] at e;cases H;subst e;exact zck (U2 (by rfl) KD) (U3 (by rfl) KC) G
  .split at H
   .rename_i e
    rw[beq_iff] at e;cases H;subst e;exact zbp (λs hs=>zdl s hs) (λs rows hs=>zdm s rows hs) G
   .split at H
    .rename_i e
     rw[beq_iff] at e;cases H;subst e;exact za5 (λs hs=>ET Tryz.EW BA (by rfl) s hs) G
    .cases H
theorem zgo:G8 Tryz.prog 70 2:=by
 refine⟨c_70,λvs w F=>?_⟩
 obtain⟨p,q,rfl⟩:∃ p q,vs=[p,q]:=by
  match vs,F with
  | [p,q],_=>exact⟨p,q,rfl⟩
 have H:∀ w,(Instr.typeAssert Value.nilIface 20 127 true).run Tryz.prog w = .ok (.tuple #[.agg #[.int .i64 0],.bool false]) w:=λw=>by kernel_rfl
 refine callsD_of_wpS Tryz.func70 rfl λc₀ cs E=>?_
 apply wpS_seq
 apply wpS_region
 simp[wpOpsS,go_sem,recoverD,E,Tryz.ntmps70,Exit.thenS,H]
 apply wpS_seq
 apply wpS_region
 simp[wpOpsS,go_sem,Exit.thenS]
 refine wpS_cond (t:=false) (by simp[Act.eval,Array.replicate]) ?_
 simp only[Bool.false_eq_true,if_false]
 refine wpS_of_wp (wp_skip ?_)
 have G:=vd w (Obj.cells #[Value.int IntKind.i64 0] 127)
 cases c₀
 simp_all[bodyPostS,results,Tryz.results70]
end Go.V
namespace Go.V
open Go Go.Proofs
mutual
def jJ:D->D->Bool
 |.int k n,.int k' n'=>decide (k=k')&&decide (n=n')
 |.bool a,.bool b=>decide (a=b)
 |.str a,.str b=>decide (a.data.toList=b.data.toList)
 |.sl l,.sl m=>Y5 l m
 |.agg l,.agg m=>wh l m
 |_,_=>false
def Y5:List (List D)->List (List D)->Bool
 | [],[]=>true
 |r::rs,s::ss=>wh r s&&Y5 rs ss
 |_,_=>false
def wh:List D->List D->Bool
 | [],[]=>true
 |a::r,b::s=>jJ a b&&wh r s
 |_,_=>false
end
mutual
theorem ziy:∀ {a b:D},jJ a b=true->a=b
 |.int k n,b,h=>by
  cases b <;> simp[jJ] at h
  obtain⟨rfl,rfl⟩:=h;rfl
 |.bool x,b,h=>by
  cases b <;> simp[jJ] at h
  subst h;rfl
 |.str x,b,h=>by
  cases b <;> simp[jJ] at h
  rename_i y;obtain⟨⟨x⟩⟩:=x;obtain⟨⟨y⟩⟩:=y;cases h;rfl
 |.sl l,b,h=>by
  cases b <;> simp only[jJ,Bool.false_eq_true] at h
  rw[EI h]
 |.agg l,b,h=>by
  cases b <;> simp only[jJ,Bool.false_eq_true] at h
  rw[Zh h]
 |.ptr _,b,h=>by cases b <;> simp[jJ] at h
 |.tup _,b,h=>by cases b <;> simp[jJ] at h
 |.fn _ _,b,h=>by cases b <;> simp[jJ] at h
 |.val _,b,h=>by cases b <;> simp[jJ] at h
 |.mp _,b,h=>by cases b <;> simp[jJ] at h
theorem EI:∀ {a b:List (List D)},Y5 a b=true->a=b
 | [],b,h=>by cases b with
  |nil=>rfl
  |cons=>simp[Y5] at h
 |r::rs,b,h=>by cases b with
  |nil=>simp[Y5] at h
  |cons s ss=>
   simp only[Y5,Bool.and_eq_true] at h;rw[Zh h.1,EI h.2]
theorem Zh:∀ {a b:List D},wh a b=true->a=b
 | [],b,h=>by cases b with
  |nil=>rfl
  |cons=>simp[wh] at h
 |r::rs,b,h=>by cases b with
  |nil=>simp[wh] at h
  |cons s ss=>
   simp only[wh,Bool.and_eq_true] at h;rw[ziy h.1,Zh h.2]
end
abbrev ii(n:Int):D:=.int .i64 n
def ka1:List D:=[.agg [ii 5,.str ⟨⟨[116]⟩⟩,ii 1000,ii 1,.sl [[ii 1]],.sl [[.str ⟨⟨[116,101,120,116]⟩⟩,ii 0,ii 1,ii (-1)],[.str ⟨⟨[119,111,114,100]⟩⟩,ii 2,ii 2,ii 0],[.str ⟨⟨[109,111,114,112,104]⟩⟩,ii 3,ii 3,ii 1],[.str ⟨⟨[103,108,111,115,115]⟩⟩,ii 4,ii 4,ii 2]],.sl [[ii 1,ii 0,ii 0,ii 0,ii 900,ii 0,.str ⟨⟨[98,97,98,105,32,120,120]⟩⟩],[ii 2,ii 1,ii 1,ii 0,ii 400,ii 0,.str ⟨⟨[98,97,98,105]⟩⟩],[ii 3,ii 1,ii 1,ii 400,ii 900,ii 0,.str ⟨⟨[120,120]⟩⟩]]],.agg [.sl [[.str ⟨⟨[98]⟩⟩,ii 2],[.str ⟨⟨[97]⟩⟩,ii 3],[.str ⟨⟨[112]⟩⟩,ii 0],[.str ⟨⟨[105]⟩⟩,ii 11]],.str ⟨⟨[109,97,105,110]⟩⟩,.sl [[.str ⟨⟨[98]⟩⟩,.sl [[ii 1]]],[.str ⟨⟨[97]⟩⟩,.sl [[ii 2]]],[.str ⟨⟨[112]⟩⟩,.sl [[ii 3]]],[.str ⟨⟨[105]⟩⟩,.sl [[ii 4]]]],.sl [],.sl [[.sl [[ii 3]],.sl [[ii 1]],.sl [[ii 1,ii 1]],.sl [[ii 1,ii 1]],.bool false,.bool false]],ii 2,.sl [[ii 0,ii 1,ii 1],[ii 1,ii 2,ii 1]],.sl [[ii 1]],.sl [[ii 1,.sl [[ii 1],[ii 2]],ii 1,.sl [],ii 0,.sl [[.str ⟨⟨[100,111,103]⟩⟩,.str ⟨⟨[]⟩⟩]],.sl [],.sl []],[ii 2,.sl [[ii 3],[ii 4]],ii 2,.sl [],ii 0,.sl [[.str ⟨⟨[80,76]⟩⟩,.str ⟨⟨[]⟩⟩]],.sl [],.sl []]]],.sl [[ii 5,ii 2,.bool true,.sl [[ii 1,ii 0,ii 0],[ii 2,ii 0,ii 0]]]],ii 100]
def EJ:D:=.tup [.agg [ii 5,.str ⟨⟨[116]⟩⟩,ii 1000,ii 1,.sl [[ii 1]],.sl [[.str ⟨⟨[116,101,120,116]⟩⟩,ii 0,ii 1,ii (-1)],[.str ⟨⟨[119,111,114,100]⟩⟩,ii 2,ii 2,ii 0],[.str ⟨⟨[109,111,114,112,104]⟩⟩,ii 3,ii 3,ii 1],[.str ⟨⟨[103,108,111,115,115]⟩⟩,ii 4,ii 4,ii 2]],.sl [[ii 1,ii 0,ii 0,ii 0,ii 900,ii 0,.str ⟨⟨[98,97,98,105,32,120,120]⟩⟩],[ii 2,ii 1,ii 1,ii 0,ii 400,ii 0,.str ⟨⟨[98,97,98,105]⟩⟩],[ii 3,ii 1,ii 1,ii 400,ii 900,ii 0,.str ⟨⟨[120,120]⟩⟩],[ii 100,ii 2,ii 2,ii 0,ii 0,ii 0,.str ⟨⟨[98,97]⟩⟩],[ii 101,ii 3,ii 100,ii 0,ii 0,ii 0,.str ⟨⟨[100,111,103]⟩⟩],[ii 102,ii 2,ii 2,ii 0,ii 0,ii 1,.str ⟨⟨[112,105]⟩⟩],[ii 103,ii 3,ii 102,ii 0,ii 0,ii 0,.str ⟨⟨[80,76]⟩⟩]]],ii 0]
theorem kt1:zj Tryz.prog 28 ka1 EJ:=zeb X8 XL zgo (k:=40) (j:=1) (by kernel_rfl)
def EK:List D:=[.agg [ii 5,.str ⟨⟨[116]⟩⟩,ii 1000,ii 1,.sl [[ii 1]],.sl [[.str ⟨⟨[116,101,120,116]⟩⟩,ii 0,ii 1,ii (-1)],[.str ⟨⟨[119,111,114,100]⟩⟩,ii 2,ii 2,ii 0],[.str ⟨⟨[109,111,114,112,104]⟩⟩,ii 3,ii 3,ii 1],[.str ⟨⟨[103,108,111,115,115]⟩⟩,ii 4,ii 4,ii 2]],.sl [[ii 1,ii 0,ii 0,ii 0,ii 900,ii 0,.str ⟨⟨[98,97,98,105,32,120,120]⟩⟩],[ii 2,ii 1,ii 1,ii 0,ii 400,ii 0,.str ⟨⟨[98,97,98,105]⟩⟩],[ii 3,ii 1,ii 1,ii 400,ii 900,ii 0,.str ⟨⟨[120,120]⟩⟩],[ii 100,ii 2,ii 2,ii 0,ii 0,ii 0,.str ⟨⟨[98,97]⟩⟩],[ii 101,ii 3,ii 100,ii 0,ii 0,ii 0,.str ⟨⟨[100,111,103]⟩⟩],[ii 102,ii 2,ii 2,ii 0,ii 0,ii 1,.str ⟨⟨[112,105]⟩⟩],[ii 103,ii 3,ii 102,ii 0,ii 0,ii 0,.str ⟨⟨[80,76]⟩⟩]]],ii 2]
def EL:D:=.tup [.sl [[.str ⟨⟨[98,97]⟩⟩],[.str ⟨⟨[112,105]⟩⟩]],.sl [[.str ⟨⟨[100,111,103]⟩⟩],[.str ⟨⟨[80,76]⟩⟩]]]
theorem kt2:zj Tryz.prog 18 EK EL:=Gf X8 XL (k:=40) (by kernel_rfl)
def EM:List D:=[.agg [ii 5,.str ⟨⟨[116]⟩⟩,ii 1000,ii 1,.sl [[ii 1]],.sl [[.str ⟨⟨[116,101,120,116]⟩⟩,ii 0,ii 1,ii (-1)],[.str ⟨⟨[119,111,114,100]⟩⟩,ii 2,ii 2,ii 0],[.str ⟨⟨[109,111,114,112,104]⟩⟩,ii 3,ii 3,ii 1],[.str ⟨⟨[103,108,111,115,115]⟩⟩,ii 4,ii 4,ii 2]],.sl [[ii 1,ii 0,ii 0,ii 0,ii 900,ii 0,.str ⟨⟨[98,97,98,105,32,120,120]⟩⟩],[ii 2,ii 1,ii 1,ii 0,ii 400,ii 0,.str ⟨⟨[98,97,98,105]⟩⟩],[ii 3,ii 1,ii 1,ii 400,ii 900,ii 0,.str ⟨⟨[120,120]⟩⟩],[ii 100,ii 2,ii 2,ii 0,ii 0,ii 0,.str ⟨⟨[98,97]⟩⟩],[ii 101,ii 3,ii 100,ii 0,ii 0,ii 0,.str ⟨⟨[100,111,103]⟩⟩],[ii 102,ii 2,ii 2,ii 0,ii 0,ii 1,.str ⟨⟨[112,105]⟩⟩],[ii 103,ii 3,ii 102,ii 0,ii 0,ii 0,.str ⟨⟨[80,76]⟩⟩]]],.agg [.sl [[.str ⟨⟨[98]⟩⟩,ii 2],[.str ⟨⟨[97]⟩⟩,ii 3],[.str ⟨⟨[112]⟩⟩,ii 0],[.str ⟨⟨[105]⟩⟩,ii 11]],.str ⟨⟨[109,97,105,110]⟩⟩,.sl [[.str ⟨⟨[98]⟩⟩,.sl [[ii 1]]],[.str ⟨⟨[97]⟩⟩,.sl [[ii 2]]],[.str ⟨⟨[112]⟩⟩,.sl [[ii 3]]],[.str ⟨⟨[105]⟩⟩,.sl [[ii 4]]]],.sl [],.sl [[.sl [[ii 3]],.sl [[ii 1]],.sl [[ii 1,ii 1]],.sl [[ii 1,ii 1]],.bool false,.bool false]],ii 2,.sl [[ii 0,ii 1,ii 1],[ii 1,ii 2,ii 1]],.sl [[ii 1]],.sl [[ii 1,.sl [[ii 1],[ii 2]],ii 1,.sl [],ii 0,.sl [[.str ⟨⟨[100,111,103]⟩⟩,.str ⟨⟨[]⟩⟩]],.sl [],.sl []],[ii 2,.sl [[ii 3],[ii 4]],ii 2,.sl [],ii 0,.sl [[.str ⟨⟨[80,76]⟩⟩,.str ⟨⟨[]⟩⟩]],.sl [],.sl []]]],.sl []]
def EN:D:=.sl [[ii 2]]
theorem kt3:zj Tryz.prog 30 EM EN:=Gf X8 XL (k:=40) (by kernel_rfl)
def EO:List D:=[.agg [ii 5,.str ⟨⟨[116]⟩⟩,ii 1000,ii 1,.sl [[ii 1]],.sl [[.str ⟨⟨[116,101,120,116]⟩⟩,ii 0,ii 1,ii (-1)],[.str ⟨⟨[119,111,114,100]⟩⟩,ii 2,ii 2,ii 0],[.str ⟨⟨[109,111,114,112,104]⟩⟩,ii 3,ii 3,ii 1],[.str ⟨⟨[103,108,111,115,115]⟩⟩,ii 4,ii 4,ii 2]],.sl [[ii 1,ii 0,ii 0,ii 0,ii 900,ii 0,.str ⟨⟨[98,97,98,105,32,120,120]⟩⟩],[ii 2,ii 1,ii 1,ii 0,ii 400,ii 0,.str ⟨⟨[98,97,98,105]⟩⟩],[ii 3,ii 1,ii 1,ii 400,ii 900,ii 0,.str ⟨⟨[120,120]⟩⟩],[ii 100,ii 2,ii 2,ii 0,ii 0,ii 0,.str ⟨⟨[98,97]⟩⟩],[ii 101,ii 3,ii 100,ii 0,ii 0,ii 0,.str ⟨⟨[100,111,103]⟩⟩],[ii 102,ii 2,ii 2,ii 0,ii 0,ii 1,.str ⟨⟨[112,105]⟩⟩],[ii 103,ii 3,ii 102,ii 0,ii 0,ii 0,.str ⟨⟨[80,76]⟩⟩]]],.agg [.sl [[.str ⟨⟨[98]⟩⟩,ii 2],[.str ⟨⟨[97]⟩⟩,ii 3],[.str ⟨⟨[112]⟩⟩,ii 0],[.str ⟨⟨[105]⟩⟩,ii 11]],.str ⟨⟨[109,97,105,110]⟩⟩,.sl [[.str ⟨⟨[98]⟩⟩,.sl [[ii 1]]],[.str ⟨⟨[97]⟩⟩,.sl [[ii 2]]],[.str ⟨⟨[112]⟩⟩,.sl [[ii 3]]],[.str ⟨⟨[105]⟩⟩,.sl [[ii 4]]]],.sl [],.sl [[.sl [[ii 3]],.sl [[ii 1]],.sl [[ii 1,ii 1]],.sl [[ii 1,ii 1]],.bool false,.bool false]],ii 2,.sl [[ii 0,ii 1,ii 1],[ii 1,ii 2,ii 1]],.sl [[ii 1]],.sl [[ii 1,.sl [[ii 1],[ii 2]],ii 1,.sl [],ii 0,.sl [[.str ⟨⟨[100,111,103]⟩⟩,.str ⟨⟨[]⟩⟩]],.sl [],.sl []],[ii 2,.sl [[ii 3],[ii 4]],ii 2,.sl [],ii 0,.sl [[.str ⟨⟨[80,76]⟩⟩,.str ⟨⟨[]⟩⟩]],.sl [],.sl []]]],.sl [[ii 5,ii 2,.bool true,.sl [[ii 1,ii 0,ii 0],[ii 2,ii 0,ii 0]]]]]
def EP:D:=.sl []
theorem kt4:zj Tryz.prog 30 EO EP:=Gf X8 XL (k:=40) (by kernel_rfl)
def VG(f:Nat)(ds:List D):Option D:=
 match Nat.beq f 28&&wh ds ka1 with
 |true=>some EJ
 |false=>
  match Nat.beq f 18&&wh ds EK with
  |true=>some EL
  |false=>
   match Nat.beq f 30&&wh ds EM with
   |true=>some EN
   |false=>
    match Nat.beq f 30&&wh ds EO with
    |true=>some EP
    |false=>
     none
theorem zgp{f:Nat}{ds:List D}{r:D}(h:VG f ds=some r):zj Tryz.prog f ds r:=by
 unfold VG at h
 split at h
 .rename_i e
  rw[Bool.and_eq_true,beq_iff] at e;cases h;rw[e.1,Zh e.2];exact kt1
 .split at h
  .rename_i e
   rw[Bool.and_eq_true,beq_iff] at e;cases h;rw[e.1,Zh e.2];exact kt2
  .split at h
   .rename_i e
    rw[Bool.and_eq_true,beq_iff] at e;cases h;rw[e.1,Zh e.2];exact kt3
   .split at h
    .rename_i e
     rw[Bool.and_eq_true,beq_iff] at e;cases h;rw[e.1,Zh e.2];exact kt4
    .cases h
noncomputable def XM:XG:={EH with kn:=λf=>some (VG f)}
theorem ze6:XGood Tryz.prog XM:=by
 have g:=XL
 refine⟨g.ti,g.zf,g.ek,g.fn,?_,g.kc⟩
 intro f k ds r H G
 have H:some (VG f)=some k:=H
 cases H
 exact zgp G
theorem zbn{f k:Nat}(h:WL (QQ XM (gI XM) k f [] [] 0)=true):zj Tryz.prog f [] (.bool true):=by
 have H:=ML X8 ze6 k
 unfold WL at h
 split at h
 .rename_i nx own mv G
  have:=H _ _ _ _ _ G (by simp[Sym.los])
  exact NG (ds:=[]) this
 .cases h
theorem zci:WL (QQ XM (gI XM) 50 13 [] [] 0)=true:=by kernel_rfl
theorem ze7:zj Tryz.prog 13 [] (.bool true):=zbn zci
end Go.V
namespace Go.V.Doc
open Go Go.Proofs
theorem zdn(d:Dc)(c0:qI 1048576 (zq d))(g:Lang)(c1:qI 1048576 g.d)(w:Int)(c2:qI 1048576 (int w))(a:List Prt)(c3:qI 1048576 (yI a))(nx:Int)(c4:qI 1048576 (int nx)):
  zj Tryz.prog 10 [zq d,g.d,int w,yI a,int nx] (.bool true):=
 ze5 ze7 d (EG c0).1 (EG c0).2 g (AV c1) w a (AW c3) nx
end Go.V.Doc

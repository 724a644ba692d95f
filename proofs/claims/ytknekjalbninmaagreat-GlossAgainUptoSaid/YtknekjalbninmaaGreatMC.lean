/- Contracts and plain laws of this seat: part MC. It needs no conditions. -/
import Derived.Test.YtknekjalbninmaaGreatMB
import Derived.Test.YtknekjalbninmaaGreatMA
import Derived.Test.YtknekjalbninmaaGreatW1
import Derived.Test.YtknekjalbninmaaGreatW3
import Derived.Test.YtknekjalbninmaaGreatS1
import Derived.Test.YtknekjalbninmaaGreatSn
set_option maxHeartbeats 32000000
set_option linter.unusedVariables false
set_option linter.unusedSimpArgs false
set_option linter.unusedSectionVars false
set_option maxRecDepth 100000
namespace Go.V.Doc
open Go Go.Proofs Go.Sort Go.RowKit
theorem UY(l:List Nt):PermIn 0 l.length l.toArray (qZ l).toArray/\SortedIn ql 0 l.length (qZ l).toArray:=by
 have:=insertionSort_holds BH l.toArray 0 l.length (Nat.zero_le _) (by simp)
 rw[BF] at this
 exact this
theorem QK(l:List Nt):(qZ l).length=l.length:=by
 have:=(UY l).1.1
 simpa using this
theorem gd(l:List Nt):(qZ l).Perm l:=by
 obtain⟨H,_,G⟩:=(UY l).1
 have F:=QK l
 have e1:(qZ l).toArray.extract 0 l.length=(qZ l).toArray:=by rw[show l.length=(qZ l).toArray.size by simp[F]];simp
 have e2:l.toArray.extract 0 l.length=l.toArray:=by rw[show l.length=l.toArray.size by simp];simp
 rw[e1,e2] at G
 simpa using G
theorem Ec(l:List Nt):(qZ l).Pairwise λa b=>ql b a=false:=by
 have hs:=(UY l).2
 have G:=QK l
 rw[List.pairwise_iff_getElem]
 intro i j hi hj H
 have:=hs i j (Nat.zero_le _) H (by omega)
 simpa[getElem!_pos,hi,hj] using this
theorem AU(l:List Nt)(H:l.length<2^62):
  zI Tryz.prog 172 [.ar 0,.d (int 0),.d (int l.length),.fn 113 []] [(0,.arr 72 7 (l.map Nt.row))] 1 (.d (.tup [])) 1 [(0,.arr 72 7 ((qZ l).map Nt.row))] []:=by
 cases l with
 |nil=>
  have:qZ []=[]:=List.eq_nil_of_length_eq_zero (QK [])
  rw[this];exact(zI.unit Ab)
 |cons a r=>exact A8 72 (a::r) (by simp) (by omega) (QK _)
theorem AV(l:List Nt)(F:l.length<20):
  zI Tryz.prog 165 [.ar 0,.d (int l.length),.fn 113 []] [(0,.arr 72 7 (l.map Nt.row))] 1 (.d (.tup [])) 1 [(0,.arr 72 7 ((qZ l).map Nt.row))] []:=by
 refine zI.unit (xW mixed Tryz.func165 rfl c_165 (by simp[Sym.los,Sym.lo]) ?_)
 have G:¬(20:Int)<=l.length:=by omega
 have H:¬(20:Int)<l.length:=by omega
 simp+decide[Tryz.f165,int]
 refine zu mixed (λ_:Unit=>{n:=63,next:=1,slots:=[(0,.ar 0),(1,.d (int l.length)),(2,.fn 113 []),(6,.d (int 20)),(7,.d (int 0)),(8,.d (int 20))],own:=[(0,.arr 72 7 (l.map Nt.row))],base:=1})
  (λ_=>True) (λ_=>0) () trivial (by simp+decide[int]) ?_
 intro _ _
 simp+decide[int,G]
 refine zG.mut [0] [.ar 0,.d (int 0),.d (int l.length),.fn 113 []] [(0,.arr 72 7 (l.map Nt.row))] (by rfl) (by simp[int]) (by simp) (by simp) (AU l (by omega)) ?_
 simp+decide
 refine zu mixed (λ_:Unit=>{n:=63,next:=1,slots:=[(1,.d (int l.length)),(6,.d (int 20))],own:=[(0,.arr 72 7 ((qZ l).map Nt.row))],base:=1})
  (λ_=>True) (λ_=>0) () trivial (by simp+decide[int]) ?_
 intro _ _
 simp+decide[int,H]
theorem AW(l:List Nt)(H:l.length<20):
  zI Tryz.prog 112 [.ar 0,.fn 113 []] [(0,.arr 72 7 (l.map Nt.row))] 1 (.d (.tup [])) 1 [(0,.arr 72 7 ((qZ l).map Nt.row))] []:=by
 refine zI.unit (xW mixed Tryz.func112 rfl c_112 (by simp[Sym.los,Sym.lo]) ?_)
 simp+decide[Tryz.f112]
 refine zG.mut [0] [.ar 0,.d (int l.length),.fn 113 []] [(0,.arr 72 7 (l.map Nt.row))] (by rfl) (by simp[int]) (by simp) (by simp) (AV l H) ?_
 simp+decide
def yq(d:Dc)(id t:Int)(n:Nt):Bool:=decide (n.tier=t)&&decide (n.par=id)&&decide (0<=t)&&decide (t<d.tiers.length)
def yk(d:Dc)(id t:Int):List Nt:=qZ (d.notes.filter (yq d id t))
def yc(l:List Nt):List Int:=l.map (·.id)
theorem AX(d:Dc)(id t:Int)(L:d.notes.length<2^40)(K:(d.notes.filter (yq d id t)).length<20):
  uM Tryz.prog 53 [zv d,int id,int t] 3 1 ((yc (yk d id t)).map λn=>[int n]):=by
 refine VP mixed Tryz.func53 rfl c_53 (by simp) ?_
 simp+decide[Tryz.f53,zv,Dc.row,int,ints,zH,zy]
 refine zu mixed (λk:Nat=>{n:=61,next:=3,slots:=[(1,.d (int id)),(2,.d (int t)),(3,.bp 0 0),(7,.ar 2),(14,.d (zy d.notes)),(15,.d (.int .i64 d.notes.length)),(16,.d (.int .i64 k))],own:=[(0,.box 53 (ya d)),(2,.arr 72 7 (((d.notes.take k).filter (yq d id t)).map Nt.row))],moved:=[2]})
  (λk=>k<=d.notes.length) (λk=>d.notes.length-k) 0 (by simp) (by simp+decide[int,ints,zH,zy]) ?_
 intro k M
 by_cases H:k<d.notes.length
 .have G:(k:Int)<d.notes.length:=by omega
  have e1:d.notes[k]?=some d.notes[k]:=List.getElem?_eq_getElem H
  have hsn:(d.notes.take (k+1)).filter (yq d id t)=(d.notes.take k).filter (yq d id t)++(if yq d id t d.notes[k]=true then [d.notes[k]] else []):=by
   rw[take_snoc' H,List.filter_append];by_cases h:yq d id t d.notes[k]=true <;> simp[h]
  have F:((d.notes.take k).filter (yq d id t)).length<=k:=Nat.le_trans (List.length_filter_le _ _) (by rw[List.length_take];omega)
  have no:yq d id t d.notes[k]=false->(d.notes.take (k+1)).filter (yq d id t)=(d.notes.take k).filter (yq d id t):=by
   intro h;rw[hsn,if_neg (by simp[h]),List.append_nil]
  by_cases O:d.notes[k].tier=t
  case neg=>
   have:=no (by simp[yq,O])
   simp+decide[zy,Nt.row,int,H,G,I64,O];exact⟨⟨by omega,by omega⟩,k+1,H,by omega,by omega,by rw[this]⟩
  by_cases Q:d.notes[k].par=id
  case neg=>
   have:=no (by simp[yq,Q])
   simp+decide[zy,Nt.row,int,H,G,I64,O,Q];exact⟨⟨by omega,by omega⟩,k+1,H,by omega,by omega,by rw[this]⟩
  by_cases T:0<=t
  case neg=>
   have:=no (by simp[yq,T])
   simp+decide[zy,Nt.row,int,H,G,I64,O,Q,T];exact⟨⟨by omega,by omega⟩,k+1,H,by omega,by omega,by rw[this]⟩
  by_cases V:t<d.tiers.length
  case neg=>
   have:=no (by simp[yq,V])
   simp+decide[zy,zH,Nt.row,int,H,G,I64,O,Q,T,V];exact⟨⟨by omega,by omega⟩,k+1,H,by omega,by omega,by rw[this]⟩
  have X:yq d id t d.notes[k]=true:=by simp[yq,O,Q,T,V]
  rw[if_pos X] at hsn;simp+decide[zy,zH,Nt.row,int,H,G,I64,O,Q,T,V];exact⟨by omega,by unfold maxLen;omega,⟨by omega,by omega⟩,k+1,H,by omega,by omega,by rw[hsn];simp[Nt.row,int,O,Q]⟩
 .have:k=d.notes.length:=by omega
  subst this;rw[List.take_length];have E:(d.notes.filter (yq d id t)).length<=d.notes.length:=List.length_filter_le _ _
  simp+decide[int];refine zG.mut [2] [.ar 0,.fn 113 []] [(0,.arr 72 7 ((d.notes.filter (yq d id t)).map Nt.row))] (by rfl) (by simp) (by simp) (by simp) (AW _ (by omega)) ?_
  have J:=QK (d.notes.filter (yq d id t));unfold yk;rw[<-J] at E;generalize qZ (d.notes.filter (yq d id t))=s at E ⊢;simp+decide[int];refine zu mixed (λk:Nat=>{n:=61,next:=4,slots:=[(10,.ar 3),(48,.ar 2),(49,.d (.int .i64 s.length)),(50,.d (.int .i64 k))],own:=[(2,.arr 72 7 (s.map Nt.row)),(3,.arr 3 1 ((yc (s.take k)).map λn=>[int n]))],moved:=[3,2]})
   (λk=>k<=s.length) (λk=>s.length-k) 0 (by simp) (by simp+decide[int,yc]) ?_
  intro k M;by_cases H:k<s.length
  .have G:(k:Int)<s.length:=by omega
   have e1:s[k]?=some s[k]:=List.getElem?_eq_getElem H
   have hsn:yc (s.take (k+1))=yc (s.take k)++[s[k].id]:=by unfold yc;rw[take_snoc' H,List.map_append];rfl
   have F:(yc (s.take k)).length<=k:=by unfold yc;rw[List.length_map,List.length_take];omega
   simp+decide[Nt.row,int,H,G,I64];exact⟨by omega,by unfold maxLen;omega,⟨by omega,by omega⟩,k+1,H,by omega,by omega,by rw[hsn];simp⟩
  .have:k=s.length:=by omega
   subst this;rw[List.take_length];simp+decide[int]
theorem Jz:∀ l:List Int,D.scalars ((l.map λn=>[int n]).flatten)=true
 | []=>rfl
 |n::r=>by simp only[List.map_cons,List.flatten_cons,List.cons_append,List.nil_append,D.scalars,Jz r];rfl
theorem AY(d:Dc)(id t:Int)(G:d.notes.length<2^40)(H:(d.notes.filter (yq d id t)).length<20):kZ Tryz.prog 53 [zv d,int id,int t] (ints (yc (yk d id t))):=
 DJ (AX d id t G H) (Jz _)
structure Fw(d:Dc):Prop where
 n:d.notes.length<2^40
 k:∀ id t,(d.notes.filter (yq d id t)).length<20
theorem ZY{d:Dc}(H:d.notes.length<20):Fw d:=⟨by omega,λ_ _=>Nat.lt_of_le_of_lt (List.length_filter_le _ _) H⟩
theorem ZZ(d:Dc)(id t:Int)(h:Fw d):kZ Tryz.prog 53 [zv d,int id,int t] (ints (yc (yk d id t))):=AY d id t h.n (h.k id t)
end Go.V.Doc
namespace Go.V.Doc
open Go Go.Proofs
section
variable {d:Dc}
theorem Zd(d:Dc){t:Nat}(h:t<d.tiers.length):zr d (t:Int)=d.tiers[t]:=by unfold zr;rw[Int.toNat_natCast,List.getElem?_eq_getElem h];rfl
theorem Rgt.kinds(h:Rgt d){t:Nat}(H:t<d.tiers.length):0<=(zr d t).kind/\(zr d t).kind<=4:=by
 have G:=h.good.tiers t H
 rw[Zd d H]
 unfold qA at G
 split at G
 .cases G
 .split at G
  .cases G
  .split at G
   .cases G
   .omega
theorem Rgt.up(h:Rgt d){t:Nat}(H:t<d.tiers.length)(G:(zr d t).kind≠0):0<=(zr d t).par/\(zr d t).par.toNat<t:=by
 rw[Zd d H] at G ⊢
 have:=UU (h.good.tiers t H) G
 rw[List.length_take] at this
 omega
def inT(d:Dc)(t:Nat)(n:Nt):Prop:=n∈d.notes/\n.tier=t
theorem gg{t:Nat}{n:Nt}:n∈yf d.notes t↔inT d t n:=by
 unfold yf inT
 rw[List.mem_filter,decide_eq_true_eq]
def qC(d:Dc)(n:Nt):Nt:=(zn d.notes n.par).1
theorem Rgt.parent(h:Rgt d){t:Nat}{n:Nt}(H:inT d t n)(G:t<d.tiers.length)(F:(zr d t).kind≠0):inT d (zr d t).par.toNat (qC d n)/\(qC d n).id=n.par:=by
 have E:=(QF (ga h.good H.1).place).2.1
 rw[H.2] at E
 obtain⟨K,J⟩:=E F
 have L:=gb K
 have M:=h.up G F
 exact⟨⟨L.1,by rw[qC,J];omega⟩,L.2⟩
theorem Rgt.root(h:Rgt d){t:Nat}{n:Nt}(H:inT d t n)(G:(zr d t).kind=0):n.par=0:=by
 have F:=(QF (ga h.good H.1).place).1
 rw[H.2] at F
 exact F G
def gi(d:Dc)(t:Nat)(a b:Nt):Bool:=
 if a.par≠b.par then (if h:(zr d t).par.toNat<t then gi d (zr d t).par.toNat (qC d a) (qC d b) else false)
 else if zQ (zr d t).kind=true then decide (a.fr<b.fr) else decide (a.rank<b.rank)
termination_by t
def vz(d:Dc)(t:Nat)(n:Nt):Int:=if zQ (zr d t).kind=true then n.fr else n.rank
theorem jy{t:Nat}{a b:Nt}(h:a.par=b.par):gi d t a b=decide (vz d t a<vz d t b):=by
 rw[gi,if_neg (by simp[h])]
 unfold vz
 split <;> rfl
theorem kL{t:Nat}{a b:Nt}(h:a.par≠b.par)(H:(zr d t).par.toNat<t):gi d t a b=gi d (zr d t).par.toNat (qC d a) (qC d b):=by
 rw[gi,if_pos h,dif_pos H]
theorem Ed{s:List Nt}{i j:Nat}(H:i<j)(hj:j<s.length)(G:(gN s i).par=(gN s j).par):jc s i<jc s j:=by
 have hi:i<s.length:=by omega
 have F:(s.take (i+1)).Sublist (s.take j):=by
  have:s.take (i+1)=(s.take j).take (i+1):=by rw[List.take_take];congr 1;omega
  rw[this];exact List.take_sublist _ _
 have E:=(F.filter λn=>decide (n.par=(gN s j).par)).length_le
 rw[take_snoc' hi,List.filter_append,List.length_append] at E
 have:[s[i]].filter (λn=>decide (n.par=(gN s j).par))=[s[i]]:=by
  rw[List.filter_cons_of_pos (by rw[<-qn hi];simpa using G)];rfl
 rw[this] at E
 unfold jc
 rw[G]
 simp only[List.length_singleton] at E
 omega
theorem Rgt.keys(h:Rgt d){t:Nat}(A:t<d.tiers.length){a b:Nt}(B:inT d t a)(C:inT d t b)(I:a.par=b.par)(N:vz d t a=vz d t b):a=b:=by
 apply Classical.byContradiction
 intro L
 have M:=UX.1 (h.ter t A)
 have E:=M.1 a (gg.2 B)
 have F:=M.2 a (gg.2 B)
 have K:a∈yi d.notes t a.par:=by unfold yi;rw[List.mem_filter];exact⟨B.1,by simp[B.2]⟩
 have J:b∈yi d.notes t a.par:=by unfold yi;rw[List.mem_filter];exact⟨C.1,by simp[C.2,I]⟩
 cases G:zQ (zr d t).kind with
 |true=>
  unfold wF at E;rw[G,Bool.true_and,UO] at E;have X:=QH (ga h.good B.1) (by rw[B.2];exact G)
  have Y:=QH (ga h.good C.1) (by rw[C.2];exact G)
  simp only[yL,Bool.and_eq_true,decide_eq_true_eq] at X Y;unfold vz at N;rw[if_pos G,if_pos G] at N;generalize yi d.notes t a.par=S at E K J;obtain⟨i,hi,rfl⟩:=List.mem_iff_getElem.1 K;obtain⟨j,hj,rfl⟩:=List.mem_iff_getElem.1 J;have T:=List.pairwise_iff_getElem.1 E;rcases Nat.lt_trichotomy i j with P | rfl | P
  .exact T i j hi hj P ⟨by omega,by omega⟩
  .exact L rfl
  .exact T j i hj hi P ⟨by omega,by omega⟩
 |false=>
  unfold vz at N;rw[G] at N;simp only[Bool.false_eq_true,if_false] at N;have Z:=h.kinds A;have k0:(zr d t).kind≠0:=by intro e;rw[e] at G;cases G
  have k1:(zr d t).kind≠1:=by intro e;rw[e] at G;cases G
  have k2:(zr d t).kind≠2:=by intro e;rw[e] at G;cases G
  by_cases k3:(zr d t).kind=3
  .have O:∀ n∈yf d.notes t,jP (yi d.notes t n.par)=true:=by
    intro n W;have:=M.2 n W
    rw[k3] at this;simpa[badR] using this
   have hs:=BX (yf d.notes t);have H:=BI (yf d.notes t);have hl:(xB (yf d.notes t)).length<2^40:=by
    rw[Jt];have:(yf d.notes t).length<=d.notes.length:=List.length_filter_le _ _
    have:=h.few
    omega
   have hz:∀ n∈xB (yf d.notes t),n.fr=0:=by
    intro n W;have W:=gg.1 (H.mem_iff.1 W);exact(UV (ga h.good W.1) (by rw[W.2];exact G)).1
   have V:=(E3 hs hl).1 ((E4 H hs hl hz).2 O);obtain⟨i,hi,ei⟩:=List.mem_iff_getElem.1 (H.mem_iff.2 (gg.2 B));obtain⟨j,hj,ej⟩:=List.mem_iff_getElem.1 (H.mem_iff.2 (gg.2 C));rw[<-qn hi] at ei;rw[<-qn hj] at ej;have r1:=V i hi;have r2:=V j hj;rw[ei] at r1;rw[ej] at r2;rcases Nat.lt_trichotomy i j with P | rfl | P
   .have:=Ed P hj (by rw[ei,ej,I]);omega
   .exact L (ei.symm.trans ej)
   .have:=Ed P hi (by rw[ei,ej,I]);omega
  .have k4:(zr d t).kind=4:=by omega
   have Q:¬1<(yi d.notes t a.par).length:=by
    rw[k4] at F;simp[badR] at F;omega
   generalize yi d.notes t a.par=S at Q K J;obtain⟨i,hi,rfl⟩:=List.mem_iff_getElem.1 K;obtain⟨j,hj,rfl⟩:=List.mem_iff_getElem.1 J;have:i=j:=by omega
   subst this;exact L rfl
structure Wgt(d:Dc):Prop where
 good:∀ j,(h:j<d.tiers.length)->qA (d.tiers.take j) d.tiers[j]=0
 few:d.notes.length<=300
 nok:∀ n∈d.notes,0<=n.tier/\n.tier<d.tiers.length
 inc:d.notes.Pairwise λa b=>a.id<b.id
 par:∀ (t:Nat),t<d.tiers.length->(zr d t).kind≠0->∀ n,inT d t n->inT d (zr d t).par.toNat (qC d n)/\(qC d n).id=n.par
 top:∀ (t:Nat) n,inT d t n->(zr d t).kind=0->n.par=0
 flat:∀ (t:Nat) n,inT d t n->zQ (zr d t).kind=false->n.fr=0
 key:∀ (t:Nat),t<d.tiers.length->∀ a b,inT d t a->inT d t b->a.par=b.par->vz d t a=vz d t b->a=b
theorem Rgt.w(h:Rgt d):Wgt d:=⟨h.good.tiers,h.few,λn G=>⟨(h.nok n G).t0,(h.nok n G).t1⟩,h.inc,λt F E n G=>h.parent G F E,λt n G E=>h.root G E,
 λt n G H=>(UV (ga h.good G.1) (by rw[G.2];exact H)).1,λt F a b K J L E=>h.keys F K J L E⟩
theorem Wgt.up(h:Wgt d){t:Nat}(H:t<d.tiers.length)(G:(zr d t).kind≠0):0<=(zr d t).par/\(zr d t).par.toNat<t:=by
 rw[Zd d H] at G ⊢
 have:=UU (h.good t H) G
 rw[List.length_take] at this
 omega
theorem Wgt.parent(h:Wgt d){t:Nat}{n:Nt}(H:inT d t n)(G:t<d.tiers.length)(F:(zr d t).kind≠0):inT d (zr d t).par.toNat (qC d n)/\(qC d n).id=n.par:=h.par t G F n H
theorem Wgt.root(h:Wgt d){t:Nat}{n:Nt}(H:inT d t n)(G:(zr d t).kind=0):n.par=0:=h.top t n H G
theorem Wgt.keys(h:Wgt d){t:Nat}(H:t<d.tiers.length){a b:Nt}(G:inT d t a)(F:inT d t b)(E:a.par=b.par)(K:vz d t a=vz d t b):a=b:=h.key t H a b G F E K
theorem Wgt.uniq(h:Wgt d){a b:Nt}(H:a∈d.notes)(G:b∈d.notes)(e:a.id=b.id):a=b:=by
 obtain⟨i,hi,rfl⟩:=List.mem_iff_getElem.1 H
 obtain⟨j,hj,rfl⟩:=List.mem_iff_getElem.1 G
 have F:=List.pairwise_iff_getElem.1 h.inc
 rcases Nat.lt_trichotomy i j with E | rfl | E
 .have:=F i j hi hj E;omega
 .rfl
 .have:=F j i hj hi E;omega
structure Sto(R:Nt->Nt->Bool)(M:Nt->Prop):Prop where
 asym:∀ a b,M a->M b->R a b=true->R b a=true->False
 trans:∀ a b c,M a->M b->M c->R a b=true->R b c=true->R a c=true
 total:∀ a b,M a->M b->a≠b->R a b=true\/R b a=true
theorem Wgt.qD(h:Wgt d):∀ (t:Nat),t<d.tiers.length->Sto (gi d t) (inT d t):=by
 intro t
 induction t using Nat.strongRecOn with
 |_ t ih=>
  intro K;by_cases J:(zr d t).kind=0
  .have L:∀ a b,inT d t a->inT d t b->a.par=b.par:=λa b M O=>by rw[h.root M J,h.root O J]
   refine⟨?_,?_,?_⟩
   .intro a b M O Q T
    rw[jy (L a b M O),decide_eq_true_eq] at Q;rw[jy (L b a O M),decide_eq_true_eq] at T;omega
   .intro a b c M O V Q T
    rw[jy (L a b M O),decide_eq_true_eq] at Q;rw[jy (L b c O V),decide_eq_true_eq] at T;rw[jy (L a c M V),decide_eq_true_eq];omega
   .intro a b M O F
    rw[jy (L a b M O),jy (L b a O M),decide_eq_true_eq,decide_eq_true_eq];have:¬vz d t a=vz d t b:=λe=>F (h.keys K M O (L a b M O) e)
    omega
  .have X:=h.up K J
   have ih':=ih _ X.2 (by omega)
   have pu:∀ a,inT d t a->inT d (zr d t).par.toNat (qC d a)/\(qC d a).id=a.par:=λa M=>h.parent M K J
   have une:∀ a b,inT d t a->inT d t b->a.par≠b.par->qC d a≠qC d b:=λa b M O F e=>F (by rw[<-(pu a M).2,<-(pu b O).2,e])
   have ueq:∀ a b,inT d t a->inT d t b->a.par=b.par->qC d a=qC d b:=λa b M O e=>h.uniq (pu a M).1.1 (pu b O).1.1 (by rw[(pu a M).2,(pu b O).2,e])
   refine⟨?_,?_,?_⟩
   .intro a b M O Q T
    by_cases L:a.par=b.par
    .rw[jy L,decide_eq_true_eq] at Q
     rw[jy L.symm,decide_eq_true_eq] at T;omega
    .rw[kL L X.2] at Q
     rw[kL (Ne.symm L) X.2] at T;exact ih'.asym _ _ (pu a M).1 (pu b O).1 Q T
   .intro a b c M O V Q T
    by_cases G:a.par=b.par
    .by_cases H:b.par=c.par
     .rw[jy G,decide_eq_true_eq] at Q
      rw[jy H,decide_eq_true_eq] at T;rw[jy (G.trans H),decide_eq_true_eq];omega
     .rw[kL H X.2] at T
      rw[kL (by rw[G];exact H) X.2,ueq a b M O G]
      exact T
    .rw[kL G X.2] at Q
     by_cases H:b.par=c.par
     .rw[kL (by rw[<-H];exact G) X.2,<-ueq b c O V H]
      exact Q
     .rw[kL H X.2] at T
      by_cases E:a.par=c.par
      .rw[ueq a c M V E] at Q
       exact(ih'.asym _ _ (pu c V).1 (pu b O).1 Q T).elim
      .rw[kL E X.2]
       exact ih'.trans _ _ _ (pu a M).1 (pu b O).1 (pu c V).1 Q T
   .intro a b M O F
    by_cases L:a.par=b.par
    .rw[jy L,jy L.symm,decide_eq_true_eq,decide_eq_true_eq]
     have:¬vz d t a=vz d t b:=λe=>F (h.keys K M O L e)
     omega
    .rw[kL L X.2,kL (Ne.symm L) X.2]
     exact ih'.total _ _ (pu a M).1 (pu b O).1 (une a b M O L)
theorem Sto.Ee{R:Nt->Nt->Bool}{M:Nt->Prop}(h:Sto R M){a:Nt}(H:M a)(G:R a a=true):False:=h.asym a a H H G G
theorem Sto.nodup{R:Nt->Nt->Bool}{M:Nt->Prop}(h:Sto R M){l:List Nt}(H:∀ x∈l,M x)(G:l.Pairwise λa b=>R a b=true):l.Nodup:=
 G.imp_of_mem λ{a b} F E K e=>h.Ee (H a F) (by rw[e] at K ⊢;exact K)
theorem Ef(h:Wgt d):d.notes.Nodup:=h.inc.imp λ{a b} H e=>by rw[e] at H;omega
theorem Y0{id:Int}{t:Nat}(H:t<d.tiers.length){x:Nt}:x∈yk d id t↔inT d t x/\x.par=id:=by
 unfold yk inT
 rw[(gd _).mem_iff,List.mem_filter]
 simp only[yq,Bool.and_eq_true,decide_eq_true_eq]
 constructor
 .rintro⟨G,⟨⟨F,E⟩,_⟩,_⟩;exact⟨⟨G,F⟩,E⟩
 .rintro⟨⟨G,F⟩,E⟩;exact⟨G,⟨⟨F,E⟩,by omega⟩,by omega⟩
theorem Eg(h:Wgt d){id:Int}{t:Nat}(E:t<d.tiers.length):(yk d id t).Pairwise λa b=>gi d t a b=true:=by
 have K:=Ec (d.notes.filter (yq d id t))
 have J:(yk d id t).Nodup:=(gd _).nodup_iff.2 ((Ef h).sublist List.filter_sublist)
 have L:=List.pairwise_and_iff.2 ⟨K,J⟩
 refine L.imp_of_mem λ{a b} M O G=>?_
 obtain⟨M,pa⟩:=(Y0 E).1 M
 obtain⟨O,pb⟩:=(Y0 E).1 O
 have Q:a.par=b.par:=by rw[pa,pb]
 have F:=Js.1 G.1
 have T:¬vz d t a=vz d t b:=λe=>G.2 (h.keys E M O Q e)
 rw[jy Q,decide_eq_true_eq]
 unfold vz at T ⊢
 cases H:zQ (zr d t).kind with
 |true=>rw[H] at T;simp only[if_true] at T ⊢;omega
 |false=>
  rw[H] at T;simp only[Bool.false_eq_true,if_false] at T ⊢;have za:=h.flat t a M H;have zb:=h.flat t b O H;omega
def v7(d:Dc)(t:Nat):List Nt:=
 if (zr d t).kind=0 then yk d 0 t else if h:(zr d t).par.toNat<t then (v7 d (zr d t).par.toNat).flatMap λp=>yk d p.id t else []
termination_by t
theorem Ze(h:Wgt d):∀ (t:Nat),t<d.tiers.length->∀ x,x∈v7 d t↔inT d t x:=by
 intro t
 induction t using Nat.strongRecOn with
 |_ t ih=>
  intro H x;rw[v7];by_cases G:(zr d t).kind=0
  .rw[if_pos G,Y0 H]
   exact⟨λe=>e.1,λe=>⟨e,h.root e G⟩⟩
  .have F:=h.up H G
   rw[if_neg G,dif_pos F.2,List.mem_flatMap];constructor
   .rintro⟨p,_,E⟩;exact((Y0 H).1 E).1
   .intro E
    obtain⟨p1,p2⟩:=h.parent E H G;exact⟨qC d x,(ih _ F.2 (by omega) _).2 p1,(Y0 H).2 ⟨E,p2.symm⟩⟩
theorem AZ(h:Wgt d):∀ (t:Nat),t<d.tiers.length->(v7 d t).Pairwise λa b=>gi d t a b=true:=by
 intro t
 induction t using Nat.strongRecOn with
 |_ t ih=>
  intro E;rw[v7];by_cases K:(zr d t).kind=0
  .rw[if_pos K];exact Eg h E
  .have J:=h.up E K
   have H:(zr d t).par.toNat<d.tiers.length:=by omega
   rw[if_neg K,dif_pos J.2,List.pairwise_flatMap];refine⟨λp _=>Eg h E,(ih _ J.2 H).imp_of_mem λ{p q} L M G x O y Q=>?_⟩
   have L:=(Ze h _ H p).1 L;have M:=(Ze h _ H q).1 M;obtain⟨O,px⟩:=(Y0 E).1 O;obtain⟨Q,py⟩:=(Y0 E).1 Q;have F:x.par≠y.par:=by
    intro e;have:p=q:=h.uniq L.1 M.1 (by rw[<-px,<-py,e])
    subst this;exact(h.qD _ H).Ee L G
   have ux:qC d x=p:=h.uniq (h.parent O E K).1.1 L.1 (by rw[(h.parent O E K).2,px])
   have uy:qC d y=q:=h.uniq (h.parent Q E K).1.1 M.1 (by rw[(h.parent Q E K).2,py])
   rw[kL F J.2,ux,uy];exact G
theorem Eh(h:Wgt d){t:Nat}(H:t<d.tiers.length):(v7 d t).Perm (yf d.notes t):=by
 have G:(yf d.notes t).Nodup:=(Ef h).sublist List.filter_sublist
 rw[List.perm_ext_iff_of_nodup ((h.qD t H).nodup (λx F=>(Ze h t H x).1 F) (AZ h t H)) G]
 intro x
 rw[Ze h t H,gg]
theorem UZ(h:Wgt d){t:Nat}(H:t<d.tiers.length):(v7 d t).length<=d.notes.length:=by
 rw[(Eh h H).length_eq];exact List.length_filter_le _ _
theorem Ei(l:List Nt):(yc l).length=l.length:=by simp[yc]
theorem Ej(h:Wgt d)(X:Fw d):∀ (t:Nat),t<d.tiers.length->zl Tryz.prog 72 [zv d,int t] (ints (yc (v7 d t))):=by
 intro t
 induction t using Nat.strongRecOn with
 |_ t ih=>
  intro Y;refine ZC mixed Tryz.func72 rfl c_72 [2] ?_
  have e1:d.tiers[t]?=some d.tiers[t]:=List.getElem?_eq_getElem Y
  have J:(t:Int)<d.tiers.length:=by omega
  have M:¬(d.tiers.length:Int)<=t:=by omega
  have O:¬(t:Int)<0:=by omega
  have Q:=X.n;have G:v7 d t=if (zr d t).kind=0 then yk d 0 t else if h:(zr d t).par.toNat<t then (v7 d (zr d t).par.toNat).flatMap λp=>yk d p.id t else []:=by rw[v7]
  by_cases Z:(zr d t).kind=0
  .rw[if_pos Z] at G
   rw[G];rw[Zd d Y] at Z;simp+decide[Tryz.f72,zv,Dc.row,Tir.row,int,ints,zH,zy,Y,J,M,O,Z];refine zG.pure (by rfl) (ZZ d 0 t X).toR (by simp+decide[ints]) ?_
   simp+decide[ints]
  .have A:=h.up Y Z
   rw[if_neg Z,dif_pos A.2] at G;have H:=UZ h Y;have B:=UZ h (t:=(zr d t).par.toNat) (by omega)
   have C:=ih _ A.2 (by omega)
   rw[G] at H ⊢;generalize v7 d (zr d t).par.toNat=L at H B C ⊢;obtain⟨p,I⟩:∃ p:Nat,(zr d t).par=p:=⟨(zr d t).par.toNat,by omega⟩
   rw[I,Int.toNat_natCast] at C;rw[Zd d Y] at Z I;simp+decide[Tryz.f72,zv,Dc.row,Tir.row,int,ints,zH,zy,Y,J,M,O,Z,I];refine scp C ?_
   simp+decide[ints];have T:=Ei L;refine zu mixed (λk:Nat=>{n:=48,next:=3,slots:=[(1,.d (int t)),(2,.bp 0 0),(5,.ar 2),(34,.d (ints (yc L))),(35,.d (.int .i64 L.length)),(36,.d (.int .i64 k))],own:=[(0,.box 53 (ya d)),(2,.arr 3 1 ((yc ((L.take k).flatMap λp=>yk d p.id t)).map λn=>[int n]))],moved:=[2]})
    (λk=>k<=L.length) (λk=>L.length-k) 0 (by simp) (by simp+decide[int,ints,zH,zy,yc]) ?_
   intro k Z;by_cases F:k<L.length
   .have E:(k:Int)<L.length:=by omega
    have K:k<(yc L).length:=by omega
    have e2:(yc L)[k]?=some L[k].id:=by unfold yc;rw[List.getElem?_map,List.getElem?_eq_getElem F];rfl
    have hsn:yc ((L.take (k+1)).flatMap λp=>yk d p.id t)=yc ((L.take k).flatMap λp=>yk d p.id t)++yc (yk d L[k].id t):=by
     rw[take_snoc' F,List.flatMap_append];unfold yc;rw[List.map_append];simp
    have N:(yc ((L.take (k+1)).flatMap λp=>yk d p.id t)).length<=d.notes.length:=by
     rw[Ei];refine Nat.le_trans ?_ H
     have:L.flatMap (λp=>yk d p.id t)=(L.take (k+1)).flatMap (λp=>yk d p.id t)++(L.drop (k+1)).flatMap (λp=>yk d p.id t):=by rw[<-List.flatMap_append,List.take_append_drop]
     rw[this,List.length_append];omega
    rw[hsn,List.length_append] at N;have V:(yc L)[k]'K=L[k].id:=by simp[yc]
    simp+decide[int,ints,F,E,V,T];refine zG.pure (by rfl) (ZZ d L[k].id t X).toR (by simp+decide[ints]) ?_
    simp+decide[int,ints,I64];refine⟨by omega,by unfold maxLen;omega,⟨by omega,by omega⟩,k+1,F,by omega,by omega,by rw[hsn];simp⟩
   .have:k=L.length:=by omega
    subst this;rw[List.take_length];simp+decide[int,ints]
end
end Go.V.Doc
namespace Go.V.Doc
open Go Go.Proofs
theorem G0{α:Type}{l:List α}{k:Nat}(h:k<l.length):l.take (k+1)=l.take k++[l[k]]:=by
 rw[List.take_add_one,List.getElem?_eq_getElem h];rfl
def Y1{α:Type}(p:α->Bool)(l:List α):Int:=match l.findIdx? p with
 |some k=>k
 |none=>-1
theorem Ek{α:Type}{p:α->Bool}{l:List α}{k:Nat}(h:k<l.length)(H:∀ e∈l.take k,p e=false)(G:p l[k]=true):l.findIdx? p=some k:=by
 rw[List.findIdx?_eq_some_iff_getElem]
 refine⟨h,G,λj hj=>?_⟩
 have:=H l[j] (by rw[List.mem_take_iff_getElem];exact⟨j,by omega,rfl⟩)
 simpa using this
theorem zgk{α:Type}{p:α->Bool}{l:List α}(H:∀ e∈l,p e=false):l.findIdx? p=none:=by
 rw[List.findIdx?_eq_none_iff];exact H
def zw(l:List Tir)(role:Int):Int:=if role=0 then -1 else Y1 (λt=>decide (t.role=role)) l
theorem G1(l:List Tir)(role:Int)(G:l.length<2^62):zl Tryz.prog 111 [zH l,int role] (int (zw l role)):=by
 refine zp mixed Tryz.func111 rfl c_111 ?_
 simp+decide[Tryz.f111,zH,int]
 refine zu mixed (λk:Nat=>{n:=24,next:=0,slots:=[(1,.d (int role)),(7,.d (zH l)),(8,.d (.int .i64 l.length)),(9,.d (.int .i64 k))],own:=[]})
  (λk=>k<=l.length/\(role≠0->∀ t∈l.take k,decide (t.role=role)=false)) (λk=>l.length-k) 0 (by simp) (by simp+decide[zH,int]) ?_
 intro k ⟨F,E⟩
 by_cases H:k<l.length
 .have e1:l[k]?=some l[k]:=List.getElem?_eq_getElem H
  by_cases K:role=0
  .subst K
   simp+decide[zH,Tir.row,int,H,I64];exact⟨by omega,k+1,H,by omega,by omega⟩
  .by_cases J:l[k].role=role
   .have L:zw l role=k:=by
     unfold zw Y1;rw[if_neg K,Ek H (E K) (by simp[J])]
    simp+decide[zH,Tir.row,int,H,K,J,L]
   .simp+decide[zH,Tir.row,int,H,I64,K,J]
    refine⟨by omega,k+1,⟨H,λt M=>?_⟩,by omega,by omega⟩
    rw[G0 H] at M;rcases List.mem_append.1 M with h | h
    .simpa using E K t h
    .rw[List.mem_singleton] at h;rw[h];exact J
 .have:k=l.length:=by omega
  subst this;rw[List.take_length] at E;have L:zw l role = -1:=by
   unfold zw Y1;by_cases K:role=0
   .rw[if_pos K]
   .rw[if_neg K,zgk (E K)]
  simp+decide[zH,int,L]
theorem zeh{P:Program}(F:P.follows .mixedOrders=true){id:Nat}{ops:List Oper}{st:St}{Q:DE->St->Prop}(H:ops≠[])(K:yU ops=true)(E:j8 ops (ops.length-1)=true)(L:(ops.getLast H).guard=none)
  (G:(st.own.map (·.1)).Nodup) (h:YB P ops st.next (ops.getLast H) ops.dropLast st (Q .normal)):Triple P (.region id ops.toArray true) Q st:=by
 obtain⟨pre,o,rfl⟩:∃ pre o,ops=pre++[o]:=⟨ops.dropLast,ops.getLast H,(List.dropLast_concat_getLast H).symm⟩
 have J:(pre++[o]).getLast H=o:=by simp
 rw[J] at L h
 rw[List.dropLast_concat] at h
 refine P3 F K ?_ L G h
 simpa using E
def wZ(d:Dc):D:=.agg [int (zw d.tiers 2),int (zw d.tiers 3),int (zw d.tiers 4)]
theorem Y2(d:Dc)(H:d.tiers.length<2^62):zl Tryz.prog 52 [zv d] (wZ d):=by
 refine zp mixed Tryz.func52 rfl c_52 ?_
 have G:=G1 d.tiers 2 H
 have F:=G1 d.tiers 3 H
 have E:=G1 d.tiers 4 H
 simp+decide[Tryz.f52,zv,Dc.row,int]
 refine zeh mixed (by simp) (by rfl) (by rfl) (by rfl) (by simp) ?_
 simp+decide
 refine scp G ?_
 simp+decide[int]
 refine scp F ?_
 simp+decide[int]
 refine scp E ?_
 simp+decide[int,wZ]
def yw(d:Dc):Bool:=decide (0<=zw d.tiers 2)&&(decide (0<=zw d.tiers 3)&&decide (0<=zw d.tiers 4))
theorem Y3(d:Dc)(H:d.tiers.length<2^62):zl Tryz.prog 20 [zv d] (.bool (yw d)):=by
 refine zp mixed Tryz.func20 rfl c_20 ?_
 have h:=Y2 d H
 unfold yw
 simp+decide[Tryz.f20,zv,Dc.row,int]
 refine zh h ?_
 by_cases c2:0<=zw d.tiers 2
 .by_cases c3:0<=zw d.tiers 3
  .by_cases c4:0<=zw d.tiers 4
   .simp+decide[wZ,int,c2,c3,c4]
   .simp+decide[wZ,int,c2,c3,c4]
  .simp+decide[wZ,int,c2,c3]
 .simp+decide[wZ,int,c2]
def yy(d:Dc)(id:Int):Bool:=(zn d.notes id).2&&decide ((zn d.notes id).1.tier=zw d.tiers 2)
theorem G2(d:Dc)(id:Int)(H:d.notes.length<2^62)(G:d.tiers.length<2^62):zl Tryz.prog 51 [zv d,int id] (.tup [.agg (zn d.notes id).1.row,.bool (yy d id)]):=by
 refine zp mixed Tryz.func51 rfl c_51 ?_
 have h:=ZR d id H
 have F:=Y2 d G
 unfold yy
 simp+decide[Tryz.f51,zv,Dc.row,int]
 refine zh h ?_
 generalize zn d.notes id=r
 obtain⟨n,ok⟩:=r
 cases ok with
 |false=>
  simp+decide[getD',Nt.row,int];refine Qj mixed 10 [1] (by rfl) (by rfl) (by rfl) (by rfl) (by simp) ?_
  simp+decide
 |true=>
  simp+decide[getD',Nt.row,int];refine Qj mixed 10 [1] (by rfl) (by rfl) (by rfl) (by rfl) (by simp) ?_
  simp+decide
  refine scp F ?_
  simp+decide[int,wZ]
def xq(l:List ByteArray):D:=.sl (l.map λs=>[.str s])
def qo(d:Dc)(id:Int):ByteArray:=(zn d.notes id).1.text
def kM(d:Dc)(l:List Int):ByteArray:=l.foldl (λ_ k=>qo d k) .empty
def zN(d:Dc)(id:Int)(r:Int):List Int:=yc (yk d id (zw d.tiers r))
def YU(d:Dc)(w:Int):Bool:=yy d w&&yw d
theorem QL(d:Dc)(id r:Int)(H:Fw d):(zN d id r).length<20:=by
 unfold zN yc yk
 rw[List.length_map,(gd _).length_eq]
 exact H.k _ _
theorem zok{d:Dc}{K:List Int}{j:Nat}(h:j<K.length):(K.take (j+1)).foldl (λ_ k=>qo d k) ByteArray.empty=qo d K[j]:=by
 rw[G0 h,List.foldl_append]
 rfl
def fRow(d:Dc)(L:List Int):List (List D):=L.map λm=>[D.str (qo d m)]
def gRow(d:Dc)(L:List Int):List (List D):=L.map λm=>[D.str (kM d (zN d m 4))]
theorem zjk(d:Dc)(w:Int)(S:Fw d)(W:d.tiers.length<2^62):
  zl Tryz.prog 18 [zv d,int w] (if YU d w=true then .tup [xq ((zN d w 3).map (qo d)),xq ((zN d w 3).map λm=>kM d (zN d m 4))] else .tup [xq [],xq []]):=by
 refine zp mixed Tryz.func18 rfl c_18 ?_
 have B:=S.n
 have hg:=G2 d w (by omega) W
 have hr:=Y3 d W
 have hf:=Y2 d W
 have X:=QL d w 3 S
 unfold YU
 simp+decide[Tryz.f18,zv,Dc.row,int]
 refine zh hg ?_
 cases hw:yy d w with
 |false=>simp+decide[Nt.row,int,xq]
 |true=>
  simp+decide[Nt.row,int];refine zh hr ?_
  cases N:yw d with
  |false=>simp+decide[xq]
  |true=>
   simp+decide
   refine zh hf ?_
   simp+decide[int,wZ];refine zG.Qf (by rfl) (ZZ d w (zw d.tiers 3) S) ?_
   change ((zN d w 3).length<20) at X
   rw[show yc (yk d w (zw d.tiers 3))=zN d w 3 from rfl]
   generalize zN d w 3=L at X ⊢;simp+decide[ints];have P:ints d.spk = .sl (d.spk.map λn=>[.int .i64 n]):=rfl
   refine xn mixed (λk:Nat=>{n:=82,next:=7,slots:=[(2,.bp 0 0),(8,.bp 4 0),(9,.ar 5),(10,.ar 6),(39,.d (ints L)),(40,.d (int L.length)),(41,.d (int k))],own:=[(0,.box 53 (ya d)),(4,.box 112 [.d (int (zw d.tiers 2)),.d (int (zw d.tiers 3)),.d (int (zw d.tiers 4))]),(5,.arr 9 1 (fRow d (L.take k))),(6,.arr 9 1 (gRow d (L.take k)))],moved:=[5,6]})
    (λk=>k<=L.length) (λk=>L.length-k) 0 (Nat.zero_le _) ?_ ?_
   .simp+decide[int,ints,ya,fRow,gRow]
   intro k C;refine zL mixed ?_
   by_cases H:k<L.length
   case neg=>
    have:k=L.length:=by omega
    subst this;simp+decide[int,ints,xq,fRow,gRow,ya,qo]
   have J:(k:Int)<L.length:=by omega
   obtain⟨m,em⟩:∃ m,L[k]=m:=⟨_,rfl⟩;have em1:L[k]?=some m:=by rw[List.getElem?_eq_getElem H,em]
   have Y:=ZR d m (by omega)
   have M:=ZZ d m (zw d.tiers 4) S;have O:=QL d m 4 S;have hsn:=G0 H;rw[em] at hsn;have ef:fRow d (L.take (k+1))=fRow d (L.take k)++[[.str (qo d m)]]:=by rw[hsn];simp[fRow]
   have eg:gRow d (L.take (k+1))=gRow d (L.take k)++[[.str (kM d (zN d m 4))]]:=by rw[hsn];simp[gRow]
   have lf:(fRow d (L.take k)).length=k:=by simp[fRow];omega
   have lg:(gRow d (L.take k)).length=k:=by simp[gRow];omega
   generalize fRow d (L.take k)=F at ef lf;generalize gRow d (L.take k)=G at eg lg;rw[show yc (yk d m (zw d.tiers 4))=zN d m 4 from rfl] at M
   have Q:qo d m=(zn d.notes m).1.text:=rfl
   generalize zN d m 4=K at M O eg;generalize zn d.notes m=r at Y Q;obtain⟨nm,ok⟩:=r;simp only at Q
   simp+decide[int,ints,ya,H,J,em];refine zh Y ?_
   simp+decide[getD',Nt.row,int];refine zG.Qf (by rfl) M ?_
   simp+decide[ints];refine xn mixed (λj:Nat=>{n:=82,next:=8,slots:=[(2,.bp 0 0),(8,.bp 4 0),(9,.ar 5),(10,.ar 6),(39,.d (ints L)),(40,.d (int L.length)),(41,.d (int k)),(13,.bp 7 0),(15,.d (.str (kM d (K.take j)))),(55,.d (ints K)),(56,.d (int K.length)),(57,.d (int j))],own:=[(0,.box 53 (ya d)),(4,.box 112 [.d (int (zw d.tiers 2)),.d (int (zw d.tiers 3)),.d (int (zw d.tiers 4))]),(5,.arr 9 1 F),(6,.arr 9 1 G),(7,.box 72 (nm.row.map .d))],moved:=[5,6]})
    (λj=>j<=K.length) (λj=>K.length-j) 0 (Nat.zero_le _) ?_ ?_
   .simp+decide[int,ints,ya,Nt.row,kM]
   intro j hj;refine zL mixed ?_
   by_cases E:j<K.length
   case neg=>
    have:j=K.length:=by omega
    subst this;rw[List.take_length];simp+decide[int,ints,ya,Nt.row,I64];exact⟨by omega,by unfold maxLen;omega,by omega,by unfold maxLen;omega,⟨by omega,by omega⟩,k+1,H,by omega,by omega,by rw[ef,Q],by rw[eg]⟩
   have T:(j:Int)<K.length:=by omega
   obtain⟨q,eq⟩:∃ q,K[j]=q:=⟨_,rfl⟩;have eq1:K[j]?=some q:=by rw[List.getElem?_eq_getElem E,eq]
   have Z:=zok (d:=d) E;rw[eq] at Z;have A:=ZR d q (by omega)
   have V:qo d q=(zn d.notes q).1.text:=rfl
   generalize zn d.notes q=r2 at A V;obtain⟨nq,okq⟩:=r2;simp only at V
   have I:kM d (K.take (j+1))=nq.text:=by unfold kM;rw[Z,V]
   simp+decide[int,ints,ya,Nt.row,E,T,eq];refine zh A ?_
   simp+decide[getD',Nt.row,int,I64];exact⟨⟨by omega,by omega⟩,j+1,E,by omega,by rw[I],by omega⟩
theorem Em{α:Type}{p:α->Bool}{l:List α}(h:0<=Y1 p l):∃ k:Nat,Y1 p l=k/\∃ H:k<l.length,p l[k]=true:=by
 unfold Y1 at h ⊢
 cases G:l.findIdx? p with
 |none=>rw[G] at h;simp at h
 |some k=>
  rw[List.findIdx?_eq_some_iff_getElem] at G;obtain⟨H,F,_⟩:=G;exact⟨k,rfl,H,F⟩
theorem zng{α:Type}:∀ {l:List α},l.Nodup->(∀ a∈l,∀ b∈l,a=b)->l.length<=1
 | [],_,_=>Nat.zero_le _
 | [a],_,_=>Nat.le_refl _
 |a::b::l,H,h=>by
  have:=h a (by simp) b (by simp)
  subst this;simp at H
theorem G3{d:Dc}(h:wE d=true):d.notes.length<=14/\d.tiers.length<=6/\d.spk.length<=6/\Rgt d:=by
 simp only[wE,Bool.and_eq_true,decide_eq_true_eq] at h
 exact⟨h.1.1.1,h.1.1.2,h.1.2,AS.1 (by rw[E8];exact h.2)⟩
theorem YW{d:Dc}(h:Rgt d):d.tiers.length<=20:=by
 have:=h.tiers
 unfold wv at this
 split at this
 .cases this
 .omega
theorem Rgt.En{d:Dc}(h:Rgt d){m:Nt}(G:m∈d.notes):∃ t:Nat,t<d.tiers.length/\m.tier=t:=by
 have H:=ga h.good G
 exact⟨m.tier.toNat,by have:=H.t0;have:=H.t1;omega,by have:=H.t0;omega⟩
def QM(d:Dc)(t:Nat)(n:Nt):List Nt:=n::(if h:(zr d t).kind≠0/\(zr d t).par.toNat<t then QM d (zr d t).par.toNat (qC d n) else [])
termination_by t
decreasing_by exact h.2
theorem znh(d:Dc)(t:Nat)(n:Nt):QM d t n=n::(if h:(zr d t).kind≠0/\(zr d t).par.toNat<t then QM d (zr d t).par.toNat (qC d n) else []):=by rw[QM]
def qd(d:Dc)(n:Nt):List Nt:=QM d n.tier.toNat n
def chainE(d:Dc)(r:Nt×Bool):List Nt:=if r.2=true then qd d r.1 else []
theorem xi{d:Dc}(h:Rgt d){n:Nt}(G:n∈d.notes):qd d n=n::chainE d (zn d.notes n.par)/\((zn d.notes n.par).2=true->(zn d.notes n.par).1∈d.notes/\(zn d.notes n.par).1.tier<n.tier):=by
 obtain⟨t,H,et⟩:=h.En G
 unfold qd
 rw[et,Int.toNat_natCast,znh]
 by_cases F:(zr d t).kind=0
 .have E:n.par=0:=h.root ⟨G,et⟩ F
  have K:(zn d.notes n.par).2=false:=by
   cases J:(zn d.notes n.par).2 with
   |false=>rfl
   |true=>
    obtain⟨g1,g2⟩:=gb J;have:=(h.nok _ g1).lo
    omega
  rw[dif_neg (λe=>e.1 F)]
  refine⟨?_,λe=>by rw[K] at e;cases e⟩
  unfold chainE;rw[K];rfl
 .have L:=h.up H F
  obtain⟨p1,p2⟩:=h.parent ⟨G,et⟩ H F;have K:=kK h p1.1;rw[p2] at K;rw[dif_pos ⟨F,L.2⟩,K];refine⟨?_,λ_=>⟨p1.1,by have:=p1.2;rw[this];omega⟩⟩
  unfold chainE qd;rw[if_pos rfl,p1.2,Int.toNat_natCast]
theorem JA{d:Dc}(h:Rgt d):∀ (k:Nat) (n:Nt),n∈d.notes->n.tier.toNat<=k->(∀ m∈qd d n,m∈d.notes)/\(qd d n).length<=n.tier.toNat+1:=by
 intro k
 induction k with
 |zero=>
  intro n H G;obtain⟨F,E⟩:=xi h H;have K:(zn d.notes n.par).2=false:=by
   cases J:(zn d.notes n.par).2 with
   |false=>rfl
   |true=>
    have:=E J
    have:=(h.nok _ this.1).t0
    omega
  rw[F];unfold chainE;rw[K];exact⟨by simp[H],by simp⟩
 |succ k ih=>
  intro n H G;obtain⟨F,E⟩:=xi h H;rw[F];unfold chainE;cases J:(zn d.notes n.par).2 with
  |false=>exact⟨by simp[H],by simp⟩
  |true=>
   obtain⟨g1,g2⟩:=E J;have g0:=(h.nok _ g1).t0;have:=ih _ g1 (by omega)
   rw[if_pos rfl];refine⟨λm L=>?_,by rw[List.length_cons];omega⟩
   rcases List.mem_cons.1 L with rfl | L
   .exact H
   .exact this.1 m L
theorem QN{d:Dc}(h:Rgt d){n:Nt}(H:n∈d.notes):n∈qd d n:=by
 rw[(xi h H).1];exact List.mem_cons_self
theorem QO{d:Dc}(h:Rgt d):∀ (k:Nat) (n:Nt),n∈d.notes->n.tier.toNat<=k->∀ m∈chainE d (zn d.notes n.par),m.tier<n.tier:=by
 intro k
 induction k with
 |zero=>
  intro n H G m F;unfold chainE at F;split at F
  .rename_i E
   have:=(xi h H).2 E
   have:=(h.nok _ this.1).t0
   omega
  .cases F
 |succ k ih=>
  intro n H G m F;unfold chainE at F;split at F
  .rename_i E
   obtain⟨K,J⟩:=(xi h H).2 E;have g0:=(h.nok _ K).t0;rw[(xi h K).1] at F;rcases List.mem_cons.1 F with rfl | F
   .exact J
   .have:=ih _ K (by omega) m F
    omega
  .cases F
theorem zcs{d:Dc}(h:Rgt d):∀ (k:Nat) (n:Nt),n∈d.notes->n.tier.toNat<=k->∀ m∈qd d n,∀ c∈qd d m,c∈qd d n:=by
 intro k
 induction k with
 |zero=>
  intro n F E m K c J;rw[(xi h F).1] at K;rcases List.mem_cons.1 K with rfl | K
  .exact J
  .have:=QO h _ n F (Nat.le_refl _) m K
   have G:=(JA h _ n F (Nat.le_refl _)).1 m (by rw[(xi h F).1];exact List.mem_cons_of_mem _ K)
   have:=(h.nok _ G).t0
   omega
 |succ k ih=>
  intro n F E m K c J;rw[(xi h F).1] at K ⊢;rcases List.mem_cons.1 K with rfl | K
  .rw[(xi h F).1] at J;exact J
  .refine List.mem_cons_of_mem _ ?_
   unfold chainE at K ⊢;split at K
   .rename_i H
    rw[if_pos H];obtain⟨L,M⟩:=(xi h F).2 H;have g0:=(h.nok _ L).t0;exact ih _ L (by omega) m K c J
   .cases K
theorem zgl{d:Dc}(h:Rgt d):∀ (k:Nat) (n:Nt),n∈d.notes->n.tier.toNat<=k->∀ a∈qd d n,∀ b∈qd d n,a∈qd d b\/b∈qd d a:=by
 intro k
 induction k with
 |zero=>
  intro n K J a L b M;have H:=L;have G:=M;rw[(xi h K).1] at L M;rcases List.mem_cons.1 L with e | L
  .rw[e];exact .inr G
  .rcases List.mem_cons.1 M with e | M
   .rw[e];exact .inl H
   .have:=QO h _ n K (Nat.le_refl _) a L
    have E:=(JA h _ n K (Nat.le_refl _)).1 a (by rw[(xi h K).1];exact List.mem_cons_of_mem _ L)
    have:=(h.nok _ E).t0
    omega
 |succ k ih=>
  intro n K J a L b M;have H:=L;have G:=M;rw[(xi h K).1] at L M;rcases List.mem_cons.1 L with e | L
  .rw[e];exact .inr G
  .rcases List.mem_cons.1 M with e | M
   .rw[e];exact .inl H
   .unfold chainE at L M
    split at L
    .rename_i F
     rw[if_pos F] at M;obtain⟨O,Q⟩:=(xi h K).2 F;have g0:=(h.nok _ O).t0;exact ih _ O (by omega) a L b M
    .cases L
end Go.V.Doc
namespace Go.V.Doc
open Go Go.Proofs
def jA(l:List Nt)(id:Int):List Int:=(l.filter λn=>decide (n.par=id)).map (·.id)
def yQ(l:List Nt):Nat->Int->List Int
 |0,_=>[]
 |f+1,id=>(jA l id).flatMap λk=>k::yQ l f k
section
variable {d:Dc}
theorem YX{l:List Nt}{id x:Int}:x∈jA l id↔∃ k∈l,k.par=id/\k.id=x:=by
 unfold jA
 simp only[List.mem_map,List.mem_filter,decide_eq_true_eq]
 exact⟨λ⟨k,⟨H,G⟩,F⟩=>⟨k,H,G,F⟩,λ⟨k,H,G,F⟩=>⟨k,⟨H,G⟩,F⟩⟩
theorem Zf(h:Rgt d){n k:Nt}(H:n∈d.notes)(G:k∈d.notes)(F:k.par=n.id):n.tier<k.tier:=by
 have:=(xi h G).2
 rw[F,kK h H] at this
 exact(this rfl).2
theorem G4(h:Rgt d){n k:Nt}(H:n∈d.notes)(G:k∈d.notes)(F:k.par=n.id):qd d k=k::qd d n:=by
 rw[(xi h G).1,F,kK h H];rfl
theorem Eo(h:Rgt d){m:Nt}(H:m∈d.notes):(∃ p∈d.notes,p.id=m.par/\chainE d (zn d.notes m.par)=qd d p/\p.tier<m.tier)\/chainE d (zn d.notes m.par)=[]:=by
 cases G:(zn d.notes m.par).2 with
 |false=>right;unfold chainE;rw[G];rfl
 |true=>
  left
  obtain⟨F,E⟩:=(xi h H).2 G;exact⟨_,F,(gb G).2,by unfold chainE;rw[if_pos G],E⟩
theorem zct(h:Rgt d):∀ (k:Nat) (m:Nt),m∈d.notes->m.tier.toNat<=k->∀ n∈chainE d (zn d.notes m.par),∃ c∈qd d m,c.par=n.id:=by
 intro k
 induction k with
 |zero=>
  intro m G F n E;have:=QO h _ m G (Nat.le_refl _) n E
  have H:=(JA h _ m G (Nat.le_refl _)).1 n (by rw[(xi h G).1];exact List.mem_cons_of_mem _ E)
  have:=(h.nok _ H).t0
  omega
 |succ k ih=>
  intro m G F n E;rcases Eo h G with⟨p,K,e1,e2,e3⟩ | e
  .rw[e2,(xi h K).1] at E
   rw[(xi h G).1,e2];rcases List.mem_cons.1 E with rfl | E
   .exact⟨m,List.mem_cons_self,e1.symm⟩
   .have:=(h.nok _ K).t0
    obtain⟨c,J,ec⟩:=ih p K (by omega) n E
    exact⟨c,List.mem_cons_of_mem _ J,ec⟩
  .rw[e] at E;cases E
theorem G5(h:Rgt d){m c:Nt}(H:m∈d.notes)(G:c∈qd d m):c∈d.notes:=(JA h _ m H (Nat.le_refl _)).1 c G
theorem QP(h:Rgt d):∀ (f:Nat) (n:Nt),n∈d.notes->(d.tiers.length:Int)-n.tier<=f->∀ x,x∈yQ d.notes f n.id↔∃ m∈d.notes,m.id=x/\n∈chainE d (zn d.notes m.par):=by
 intro f
 induction f with
 |zero=>intro n J L;have:=(h.nok n J).t1;omega
 |succ f ih=>
  intro n J L x;unfold yQ;rw[List.mem_flatMap];constructor
  .rintro⟨y,M,O⟩
   obtain⟨k,Q,T,rfl⟩:=YX.1 M;have V:=Zf h J Q T;have F:=G4 h J Q T;rcases List.mem_cons.1 O with rfl | O
   .refine⟨k,Q,rfl,?_⟩
    rw[T,kK h J];exact QN h J
   .obtain⟨m,X,rfl,H⟩:=(ih k Q (by omega) x).1 O
    refine⟨m,X,rfl,?_⟩
    rcases Eo h X with⟨p,E,e1,e2,e3⟩ | e
    .rw[e2] at H ⊢
     exact zcs h _ p E (Nat.le_refl _) k H n (by rw[F];exact List.mem_cons_of_mem _ (QN h J))
    .rw[e] at H;cases H
  .rintro⟨m,X,rfl,K⟩
   obtain⟨k,Q,ek⟩:=zct h _ m X (Nat.le_refl _) n K;have G:=G5 h X Q;have V:=Zf h J G ek;refine⟨k.id,YX.2 ⟨k,G,ek,rfl⟩,?_⟩
   rw[(xi h X).1] at Q;rcases List.mem_cons.1 Q with rfl | Q
   .exact List.mem_cons_self
   .exact List.mem_cons_of_mem _ ((ih k G (by omega) m.id).2 ⟨m,X,rfl,Q⟩)
theorem zcu(h:Rgt d)(id:Int):(jA d.notes id).Nodup:=by
 unfold jA
 rw[List.nodup_iff_pairwise_ne,List.pairwise_map]
 exact(h.inc.sublist List.filter_sublist).imp λ{a b} H=>by omega
theorem zgm(h:Rgt d){n:Nt}(H:n∈d.notes):n∉chainE d (zn d.notes n.par):=λG=>by
 have:=QO h _ n H (Nat.le_refl _) n G
 omega
theorem JB(h:Rgt d){n c:Nt}(H:n∈d.notes)(G:c∈qd d n):c.tier<=n.tier:=by
 rw[(xi h H).1] at G
 rcases List.mem_cons.1 G with rfl | G
 .exact Int.le_refl _
 .have:=QO h _ n H (Nat.le_refl _) c G
  omega
theorem zgn(h:Rgt d){n k1 k2 m:Nt}(H:n∈d.notes)(G:k1∈d.notes)(F:k2∈d.notes)(p1:k1.par=n.id)(p2:k2.par=n.id)(E:m∈d.notes)(c1:k1∈qd d m)(c2:k2∈qd d m):k1=k2:=by
 have t1:=Zf h H G p1
 have t2:=Zf h H F p2
 rcases zgl h _ m E (Nat.le_refl _) k1 c1 k2 c2 with e | e
 .rw[G4 h H F p2] at e
  rcases List.mem_cons.1 e with e | e
  .exact e
  .have:=JB h H e;omega
 .rw[G4 h H G p1] at e
  rcases List.mem_cons.1 e with e | e
  .exact e.symm
  .have:=JB h H e;omega
theorem Ep(h:Rgt d):∀ (f:Nat) (n:Nt),n∈d.notes->(d.tiers.length:Int)-n.tier<=f->(yQ d.notes f n.id).Nodup:=by
 intro f
 induction f with
 |zero=>intro n G F;have:=(h.nok n G).t1;omega
 |succ f ih=>
  intro n G F;unfold yQ;have key:∀ x k,k∈d.notes->k.par=n.id->x∈k.id::yQ d.notes f k.id->∃ m∈d.notes,m.id=x/\k∈qd d m:=by
   intro x k E K J;have L:=Zf h G E K;rcases List.mem_cons.1 J with rfl | J
   .exact⟨k,E,rfl,QN h E⟩
   .obtain⟨m,M,e,O⟩:=(QP h f k E (by omega) x).1 J
    exact⟨m,M,e,by rw[(xi h M).1];exact List.mem_cons_of_mem _ O⟩
  rw[List.nodup_iff_pairwise_ne,List.pairwise_flatMap];refine⟨λy Q=>?_,(zcu h n.id).imp_of_mem λ{a b} T V H x J y Q e=>?_⟩
  .obtain⟨k,E,K,rfl⟩:=YX.1 Q
   have L:=Zf h G E K;rw[List.pairwise_cons];refine⟨λx J e=>?_,ih k E (by omega)⟩
   subst e;obtain⟨m,M,e,O⟩:=(QP h f k E (by omega) k.id).1 J
   obtain rfl:=QJ h M E e;exact zgm h E O
  .subst e
   obtain⟨k1,X,p1,rfl⟩:=YX.1 T;obtain⟨k2,Y,p2,rfl⟩:=YX.1 V;obtain⟨m1,q1,e1,c1⟩:=key x k1 X p1 J;obtain⟨m2,q2,e2,c2⟩:=key x k2 Y p2 Q;obtain rfl:=QJ h q1 q2 (by rw[e1,e2])
   exact H (by rw[zgn h G X Y p1 p2 q1 c1 c2])
theorem Es:∀ {l m:List Int},l.Nodup->(∀ x∈l,x∈m)->l.length<=m.length
 | [],m,_,_=>Nat.zero_le _
 |x::l,m,H,hs=>by
  rw[List.nodup_cons] at H;have G:=hs x List.mem_cons_self;have:=Es (l:=l) (m:=m.erase x) H.2 λy F=>(List.mem_erase_of_ne λ(e:y=x)=>H.1 (by rw[<-e];exact F)).2 (hs y (List.mem_cons_of_mem _ F))
  rw[List.length_erase_of_mem G] at this;have:0<m.length:=List.length_pos_of_mem G
  simp only[List.length_cons];omega
theorem zls(h:Rgt d){f:Nat}{n:Nt}(H:n∈d.notes)(G:(d.tiers.length:Int)-n.tier<=f):(yQ d.notes f n.id).length<=d.notes.length:=by
 have:=Es (m:=yc d.notes) (Ep h f n H G) λx F=>by
  obtain⟨m,E,e,_⟩:=(QP h f n H G x).1 F;unfold yc;rw[List.mem_map];exact⟨m,E,e⟩
 unfold yc at this
 rwa [List.length_map] at this
end
end Go.V.Doc
namespace Go.V.Doc
open Go Go.Proofs
abbrev yj:=Int×Nat×List Int
def vA:List yj->Int->List Int
 | [],_=>[]
 |g::L,p=>if g.1=p then g.2.2 else vA L p
def gj(L:List yj):List (List D):=L.map λg=>[int g.1,ints g.2.2]
theorem Et(p:Int):∀ L:List yj,wM (int p) (gj L)=some (if p∈L.map (·.1) then some (ints (vA L p)) else none)
 | []=>rfl
 |g::L=>by
  have ih:=Et p L;simp only[gj,List.map_cons,wM,uG,int,vA] at ih ⊢;by_cases h:p=g.1
  .simp[h]
  .have H:¬g.1=p:=λe=>h e.symm
   simp only[decide_false,h,H,List.mem_cons,false_or,if_false];simpa using ih
theorem zei{L:List yj}{p:Int}(h:p∉L.map (·.1)):vA L p=[]:=by
 induction L with
 |nil=>rfl
 |cons g L ih=>
  simp only[List.map_cons,List.mem_cons,not_or] at h;unfold vA;rw[if_neg (λe=>h.1 e.symm),ih h.2]
abbrev zol:Sym:=.fn 115 [.bp 0 0,.bp 1 0,.bp 2 0]
def vM(L:List yj)(acc:List Int):List (Nat×Obj'):=
 [(0,.box 182 [.d (.mp (gj L))]),(1,.box 31 [.ar 3]),(2,.box 183 [zol]),(3,.arr 3 1 (acc.map λn=>[int n]))]
def JC(L:List yj)(l:List Nt)(f:Nat)(id:Int):Prop:=∀ acc:List Int,(acc++yQ l f id).length<=2^40 ->
 zI Tryz.prog 115 [.d (int id),.bp 0 0,.bp 1 0,.bp 2 0] (vM L acc) 4 (.d (.tup [])) 4 (vM L (acc++yQ l f id)) [3]
theorem zjl(L:List yj)(l:List Nt)(f:Nat)(id:Int)(O:vA L id=jA l id)(ih:∀ k∈jA l id,JC L l f k):JC L l (f+1) id:=by
 intro acc H
 refine zI.J6 (xW mixed Tryz.func115 rfl c_115 (by simp[Sym.los,Sym.lo]) ?_)
 have Q:=Et id L
 simp only[int] at Q
 unfold yQ at H ⊢
 by_cases T:id∈L.map (·.1)
 case neg=>
  rw[if_neg T] at Q;rw[<-O,zei T];simp+decide[Tryz.f115,vM,int,Q];refine xn mixed (λ_:Unit=>{n:=23,next:=4,base:=4,slots:=[(10,.d (int 0)),(11,.d (int 0))],own:=vM L acc,moved:=[3]}) (λ_=>True) (λ_=>0) () trivial ?_ ?_
  .simp+decide[int,vM]
  intro _ _;refine zL mixed ?_
  simp+decide[int,vM]
 rw[if_pos T,O] at Q
 generalize jA l id=ks at *
 have J:ks.length<=2^40:=by
  have V:ks.length<=(ks.flatMap λk=>k::yQ l f k).length:=by
   clear Q H ih O;induction ks with
   |nil=>simp
   |cons k r ih=>simp only[List.flatMap_cons,List.length_append,List.length_cons];omega
  rw[List.length_append] at H;omega
 simp+decide[Tryz.f115,vM,int,Q,ints]
 refine xn mixed (λk:Nat=>{n:=23,next:=4,base:=4,slots:=[(1,.bp 0 0),(2,.bp 1 0),(3,.bp 2 0),(9,.d (ints ks)),(10,.d (int ks.length)),(11,.d (int k))],own:=vM L (acc++(ks.take k).flatMap λk=>k::yQ l f k),moved:=[3]})
  (λk=>k<=ks.length) (λk=>ks.length-k) 0 (Nat.zero_le _) ?_ ?_
 .simp+decide[int,ints,vM]
 intro k X
 refine zL mixed ?_
 by_cases F:k<ks.length
 case neg=>
  have:k=ks.length:=by omega
  subst this;rw[List.take_length];simp+decide[int,ints,vM]
 have E:(k:Int)<ks.length:=by omega
 obtain⟨q,eq⟩:∃ q,ks[k]=q:=⟨_,rfl⟩
 have e1:ks[k]?=some q:=by rw[List.getElem?_eq_getElem F,eq]
 have hsn:(ks.take (k+1)).flatMap (λk=>k::yQ l f k)=(ks.take k).flatMap (λk=>k::yQ l f k)++(q::yQ l f q):=by
  rw[List.take_succ_eq_append_getElem F,List.flatMap_append,eq];simp
 have G:(acc++(ks.take (k+1)).flatMap λk=>k::yQ l f k).length<=2^40:=by
  have:ks.flatMap (λk=>k::yQ l f k)=(ks.take (k+1)).flatMap (λk=>k::yQ l f k)++(ks.drop (k+1)).flatMap (λk=>k::yQ l f k):=by
   rw[<-List.flatMap_append,List.take_append_drop]
  rw[this,<-List.append_assoc,List.length_append] at H;omega
 rw[hsn] at G
 have Y:=ih q (by rw[<-eq];exact List.getElem_mem F) ((acc++(ks.take k).flatMap λk=>k::yQ l f k)++[q]) (by simpa using G)
 have M:(acc++(ks.take k).flatMap λk=>k::yQ l f k).length<2^40:=by
  rw[<-List.append_assoc,List.length_append,List.length_cons] at G;omega
 have K:acc++((ks.take k).flatMap (λk=>k::yQ l f k)++q::yQ l f q)=(acc++(ks.take k).flatMap λk=>k::yQ l f k)++[q]++yQ l f q:=by simp
 generalize acc++(ks.take k).flatMap (λk=>k::yQ l f k)=A at *
 simp+decide[int,ints,vM,F,E,eq,maxLen]
 refine⟨by omega,by omega,?_⟩
 refine zG.mut [0,1,2,3] [.d (int q),.bp 0 0,.bp 1 0,.bp 2 0] (vM L (A++[q])) (by rfl) (by simp[int]) (by simp[Sym.los,Sym.lo]) (by simp[vM,int];rfl) Y ?_
 simp+decide[int,vM,I64]
 exact⟨⟨by omega,by omega⟩,k+1,F,by omega,by omega,by rw[hsn,<-List.map_append (l₁:=acc),K];simp⟩
theorem zni{d:Dc}(h:Rgt d){L:List yj}(H:∀ p,vA L p=jA d.notes p):∀ (f:Nat) (n:Nt),n∈d.notes->(d.tiers.length:Int)-n.tier<=f->JC L d.notes f n.id:=by
 intro f
 induction f with
 |zero=>intro n G F;have:=(h.nok n G).t1;omega
 |succ f ih=>
  intro n G F;refine zjl L _ f n.id (H _) λk E=>?_
  obtain⟨m,K,J,rfl⟩:=YX.1 E;have:=Zf h G K J
  exact ih m K (by omega)
def qO:List yj->Int->Int->Nat->List yj
 | [],p,x,nx=>[(p,nx,[x])]
 |g::L,p,x,nx=>if g.1=p then (g.1,g.2.1,g.2.2++[x])::L else g::qO L p x nx
def xE(L:List yj):List Int:=L.map (·.1)
def yz(L:List yj):List Sym:=L.map λg=>.ar g.2.1
def yY(L:List yj):List (Nat×Obj'):=L.map λg=>(g.2.1,.arr 3 1 (g.2.2.map λn=>[int n]))
def zK(L:List yj):List Nat:=L.map (·.2.1)
def qE:List yj->Int->Option (Nat×List Int)
 | [],_=>none
 |g::L,p=>if g.1=p then some g.2 else qE L p
theorem Eu(L:List yj)(p x:Int)(nx:Nat)(q:Int):vA (qO L p x nx) q=if p=q then vA L q++[x] else vA L q:=by
 induction L with
 |nil=>simp[qO,vA]
 |cons g L ih=>
  unfold qO;by_cases h:g.1=p
  .rw[if_pos h]
   simp only[vA];by_cases H:g.1=q
   .rw[if_pos H,if_pos H,if_pos (h.symm.trans H)]
   .rw[if_neg H,if_neg H,if_neg (λe=>H (h.trans e))]
  .rw[if_neg h]
   simp only[vA];by_cases H:g.1=q
   .rw[if_pos H,if_pos H,if_neg (λe=>h (H.trans e.symm))]
   .rw[if_neg H,if_neg H,ih]
theorem G6:∀ (L:List yj) (p:Int),wV (xE L) (yz L) p=(qE L p).map λg=>Sym.ar g.1
 | [],p=>rfl
 |g::L,p=>by
  have ih:=G6 L p;simp only[xE,yz,List.map_cons,wV,qE] at ih ⊢;split
  .rfl
  .exact ih
theorem QQ:∀ {L:List yj} {p:Int} {g:Nat×List Int},qE L p=some g->(p,g)∈L
 | [],p,g,h=>by cases h
 |a::L,p,g,h=>by
  unfold qE at h;split at h
  .rename_i e;cases h;rw[<-e];exact List.mem_cons_self
  .exact List.mem_cons_of_mem _ (QQ h)
theorem Ew:∀ {L:List yj} {p x:Int} {nx:Nat} {g:Nat×List Int},qE L p=some g->xE (qO L p x nx)=xE L/\zK (qO L p x nx)=zK L
 | [],p,x,nx,g,h=>by cases h
 |a::L,p,x,nx,g,h=>by
  unfold qE at h;unfold qO;split at h
  .rename_i e;rw[if_pos e];exact⟨rfl,rfl⟩
  .rename_i e
   rw[if_neg e];have:=Ew (x:=x) (nx:=nx) h
   simp only[xE,zK,List.map_cons] at this ⊢;exact⟨by rw[this.1],by rw[this.2]⟩
theorem Ey:∀ {L:List yj} {p x:Int} {nx:Nat} {g:Nat×List Int},qE L p=some g->(zK L).Nodup->∀ i,zc (yY (qO L p x nx)) i=if i=g.1 then some (.arr 3 1 ((g.2++[x]).map λn=>[int n])) else zc (yY L) i
 | [],p,x,nx,g,h,_,i=>by cases h
 |a::L,p,x,nx,g,h,H,i=>by
  unfold qE at h;unfold qO;simp only[zK,List.map_cons,List.nodup_cons] at H;split at h
  .rename_i e
   cases h;rw[if_pos e];simp only[yY,List.map_cons,zc];by_cases G:a.2.1=i
   .rw[if_pos G,if_pos G.symm]
   .rw[if_neg G,if_neg (λe2=>G e2.symm),if_neg G]
  .rename_i e
   rw[if_neg e];have ih:=Ey (x:=x) (nx:=nx) h H.2 i;have F:g.1∈L.map (·.2.1):=List.mem_map.2 ⟨_,QQ h,rfl⟩
   simp only[yY,List.map_cons,zc] at ih ⊢;by_cases G:a.2.1=i
   .have:¬i=g.1:=λe2=>H.1 (by rw[G,e2];exact F)
    rw[if_pos G,if_neg this,if_pos G]
   .rw[if_neg G,if_neg G,ih]
theorem YY:∀ {L:List yj} {i:Nat} {o:Obj'},zc (yY L) i=some o->i∈zK L/\∃ ks:List Int,o = .arr 3 1 (ks.map λn=>[int n])
 | [],i,o,h=>by cases h
 |g::L,i,o,h=>by
  simp only[yY,List.map_cons,zc] at h;simp only[zK,List.map_cons,List.mem_cons];split at h
  .rename_i e;cases h;exact⟨.inl e.symm,_,rfl⟩
  .have:=YY (L:=L) h;exact⟨.inr this.1,this.2⟩
theorem zgo{L:List yj}{p:Int}{g:Nat×List Int}(h:qE L p=some g)(H:(zK L).Nodup):zc (yY L) g.1=some (.arr 3 1 (g.2.map λn=>[int n])):=by
 induction L with
 |nil=>cases h
 |cons a L ih=>
  simp only[zK,List.map_cons,List.nodup_cons] at H;unfold qE at h;simp only[yY,List.map_cons,zc];split at h
  .cases h;rw[if_pos rfl]
  .have G:g.1∈L.map (·.2.1):=List.mem_map.2 ⟨_,QQ h,rfl⟩
   rw[if_neg (λe=>H.1 (by rw[e];exact G))]
   exact ih h H.2
theorem EA:∀ {L:List yj} {p x:Int} {nx:Nat} {g:Nat×List Int},qE L p=some g->(zK L).Nodup->qW (xE L) (yE g.1 (yz L)) p (.ar g.1)=(xE L,yz L)
 | [],p,x,nx,g,h,_=>by cases h
 |a::L,p,x,nx,g,h,G=>by
  simp only[zK,List.map_cons,List.nodup_cons] at G;unfold qE at h;have rest:∀ (M:List yj),g.1∉M.map (·.2.1)->yE g.1 (yz M)=yz M:=by
   intro M;induction M with
   |nil=>intro _;rfl
   |cons b M ih=>
    intro F;simp only[List.map_cons,List.mem_cons,not_or] at F;simp only[yz,List.map_cons,yE,zA] at ih ⊢;rw[if_neg (λe=>F.1 e.symm),ih F.2]
  split at h
  .rename_i e
   cases h;simp only[xE,yz,List.map_cons,yE,qW,if_pos e];have:=rest L G.1
   simp only[yz] at this;rw[this]
  .rename_i e
   have ih:=EA (x:=x) (nx:=nx) h G.2;have E:g.1∈L.map (·.2.1):=List.mem_map.2 ⟨_,QQ h,rfl⟩
   have H:¬a.2.1=g.1:=λe=>G.1 (by rw[e];exact E)
   simp only[xE,yz,List.map_cons,yE,zA,if_neg H,qW,if_neg e] at ih ⊢;rw[ih]
theorem JD:∀ {L:List yj} {p x:Int} {nx:Nat},qE L p=none->qO L p x nx=L++[(p,nx,[x])]
 | [],p,x,nx,_=>rfl
 |a::L,p,x,nx,h=>by
  unfold qE at h;unfold qO;split at h
  .cases h
  .rename_i e;rw[if_neg e,JD h];rfl
theorem EB:∀ {L:List yj} {p:Int} {s:Sym},qE L p=none->qW (xE L) (yz L) p s=(xE L++[p],yz L++[s])
 | [],p,s,_=>rfl
 |a::L,p,s,h=>by
  unfold qE at h;split at h
  .cases h
  .rename_i e
   have ih:=EB (s:=s) h;simp only[xE,yz,List.map_cons,qW,if_neg e] at ih ⊢;rw[ih];rfl
theorem EC{j:Nat}:∀ {L:List yj},j∉zK L->yE j (yz L)=yz L
 | [],_=>rfl
 |b::M,H=>by
  simp only[zK,List.map_cons,List.mem_cons,not_or] at H;have ih:=EC (L:=M) H.2;simp only[yz,List.map_cons,yE,zA] at ih ⊢;rw[if_neg (λe=>H.1 e.symm),ih]
theorem Y4{α:Type}:∀ (l m:List (Nat×α)) (i:Nat),zc (l++m) i=(zc l i).or (zc m i)
 | [],m,i=>by simp[zc]
 |(t,x)::l,m,i=>by
  simp only[List.cons_append,zc];split
  .rfl
  .exact Y4 l m i
theorem zgp{L:List yj}{p x:Int}{nx:Nat}(h:qE L p=none)(H:nx∉zK L)(i:Nat):zc (yY (qO L p x nx)) i=if i=nx then some (.arr 3 1 [[int x]]) else zc (yY L) i:=by
 rw[JD h]
 unfold yY
 rw[List.map_append,Y4]
 by_cases e:i=nx
 .subst e
  rw[if_pos rfl];cases G:zc (List.map (λg:yj=>(g.2.1,Obj'.arr 3 1 (g.2.2.map λn=>[int n]))) L) i with
  |none=>simp[zc]
  |some o=>exact absurd (YY (L:=L) G).1 H
 .rw[if_neg e]
  have e':¬nx=i:=λe2=>e e2.symm
  simp[zc,e']
end Go.V.Doc
namespace Go.V.Doc
open Go Go.Proofs Go.Sort Go.RowKit
abbrev JE(l:List Int):List (List D):=l.map λn=>[int n]
abbrev uw(l:List Int):D:=.fn 188 [.ptr [ints l]]
def qP(l:List Int):List Sym:=[.junk,.junk,.bp 1 0,.junk,.junk,.junk,.d (uw l),.junk,.junk,.junk,.junk,.junk,.junk]
@[simp] theorem znc(l:List Int):Sym.los 2 (qP l):=by simp[qP,Sym.los,Sym.lo]
@[simp] theorem znd(l:List Int):Sym.los 3 (qP l):=by simp[qP,Sym.los,Sym.lo]
@[simp] theorem zne(l:List Int):Sym.los 4 (qP l):=by simp[qP,Sym.los,Sym.lo]
noncomputable def vN(q:List Int):Obj':=.raw (.lp #[7] (vI Tryz.f224) (vJ Tryz.f224) .ready none) (qP q)
noncomputable def vB(q:List Int):List (Nat×Obj'):=[(0,vN q),(1,.box 31 [.nils])]
@[simp] theorem zo0(l:List Int):yu (yC [0,1] 2) (qP l)=qP l:=rfl
@[simp] theorem zo1(l:List Int):yu (yC [0,1,3] 4) (qP l)=qP l:=rfl
@[simp] theorem zo2(l:List Int):yu (yC [0,1,2] 3) (qP l)=qP l:=rfl
noncomputable def YZ(q l:List Int):List (Nat×Obj'):=[(0,vN q),(1,.box 31 [.ar 2]),(2,.arr 3 1 (JE l))]
noncomputable def Zg(q l:List Int):List (Nat×Obj'):=[(0,vN q),(1,.box 31 [.ar 3]),(3,.arr 3 1 (JE l))]
theorem zgq(q:List Int)(n:Int):ZF Tryz.prog 0 [.d (int n)] (vB q) 2 (.d (.bool true)) 4 (Zg q [n]) [3]:=by
 refine J2 (cells:=qP q) (ps:=#[7]) (aS := vI Tryz.f224) (bd:=vJ Tryz.f224) rfl (by simp) (by simp[qP]) (by omega) (by simp[Sym.los,Sym.lo]) ?_
 simp+decide[vB,Zg,vN,qP,vI,vJ,jL,Tryz.f224,int]
theorem zjm(q l:List Int)(n:Int)(H:l.length<2^40):ZF Tryz.prog 0 [.d (int n)] (YZ q l) 3 (.d (.bool true)) 3 (YZ q (l++[n])) [2]:=by
 refine J2 (cells:=qP q) (ps:=#[7]) (aS := vI Tryz.f224) (bd:=vJ Tryz.f224) rfl (by simp) (by simp[qP]) (by omega) (by simp[Sym.los,Sym.lo]) ?_
 simp+decide[YZ,vN,qP,vI,vJ,jL,Tryz.f224,int,maxLen]
 exact⟨by omega,by omega⟩
theorem zlt(l:List Int)(F:l≠[])(E:l.length<2^40):zI Tryz.prog 188 [.yd 0,.d (.ptr [ints l])] (vB l) 2 (.d (.tup [])) 4 (Zg l l) [3]:=by
 refine zI.J6 (xW mixed Tryz.func188 rfl c_188 (by simp[Sym.los,Sym.lo]) ?_)
 simp+decide[Tryz.f188,ints]
 refine xn mixed (λk:Nat=>{n:=16,next:=if k=0 then 2 else 4,base:=2,slots:=[(0,.yd 0),(5,.d (ints l)),(6,.d (int l.length)),(7,.d (int k))],own:=if k=0 then vB l else Zg l (l.take k),moved:=if k=0 then [] else [3]})
  (λk=>k<=l.length) (λk=>l.length-k) 0 (Nat.zero_le _) (by simp+decide[int,ints,vB,vN]) ?_
 intro k K
 refine KJ ?_
 by_cases H:k<l.length
 case neg=>
  have:k=l.length:=by omega
  subst this;have J:¬l.length=0:=λe=>F (List.eq_nil_of_length_eq_zero e)
  rw[List.take_length];simp+decide[int,ints,J,Zg,vN]
 have G:(k:Int)<l.length:=by omega
 obtain⟨m,em⟩:∃ m,l[k]=m:=⟨_,rfl⟩
 have e1:l[k]?=some m:=by rw[List.getElem?_eq_getElem H,em]
 have hsn:l.take (k+1)=l.take k++[m]:=by rw[List.take_succ_eq_append_getElem H,em]
 by_cases J:k=0
 .subst J
  have L:=zgq l m;simp+decide[int,ints,H,em,vB];refine gP.tO 0 [0,1] [.d (int m)] (vB l) (by simp[rho]) (by simp[int]) (by simp[Sym.los,Sym.lo]) (by simp[vB,vN];exact⟨rfl,rfl⟩) L ?_
  simp+decide[int,I64,Zg,vN];refine⟨1,H,by omega,?_⟩
  simp+decide
  rw[<-List.map_take,hsn];simp
 .have L:=zjm l (l.take k) m (by rw[List.length_take];omega)
  rw[<-hsn] at L;simp+decide[int,ints,H,G,em,J,Zg];refine gP.tO 0 [0,1,3] [.d (int m)] (YZ l (l.take k)) (by simp[rho]) (by simp[int]) (by simp[Sym.los,Sym.lo]) (by simp[YZ,vN,int];exact⟨rfl,rfl⟩) L ?_
  simp+decide[int,I64,YZ,vN];refine⟨⟨by omega,by omega⟩,k+1,H,by omega,?_⟩
  simp+decide
theorem zgr(l:List Int)(H:l≠[])(G:l.length<2^40):zI Tryz.prog 224 [.nils,.d (.fn 188 [.ptr [ints l]])] [] 0 (.ar 4) 5 [(4,.arr 3 1 (JE l))] [4]:=by
 refine Rb Tryz.func224 rfl c_224 (by simp[Sym.los,Sym.lo]) ?_
 refine ZE mixed 1 {n:=13,next:=2,slots:=[(1,.d (.fn 188 [.ptr [ints l]])),(2,.bp 0 0)],own:=[(0,.box 31 [.nils])]} rfl ?_ ?_
 .simp+decide[Tryz.f224,yp,ints]
 simp only[yK]
 refine KN (ZE mixed 1 {n:=13,next:=2,slots:=[(2,.bp 0 0),(6,.d (.fn 188 [.ptr [ints l]]))],own:=[(0,.box 31 [.nils])]} rfl ?_ ?_)
 .simp+decide[yp,ints]
 simp only[yK]
 refine KO (KL (k:=0) (ids:=[2,0]) (args0:=[.yd 0,.d (.ptr [ints l])]) (own0:=vB l) (by rfl) (by simp[rho]) (by simp[rho]) (by simp[Sym.los,Sym.lo]) ?_ (zlt l H G) ?_)
 .simp+decide[vB,vN,qP,vI,vJ,jL,Tryz.f224]
 .simp+decide[Zg,vN]
theorem zej(l:List Int)(H:l≠[])(G:l.length<2^40):uM Tryz.prog 186 [.fn 188 [.ptr [ints l]]] 3 1 (JE l):=by
 refine VP mixed Tryz.func186 rfl c_186 (by simp) ?_
 simp+decide[Tryz.f186]
 refine zG.mut [] [.nils,.d (.fn 188 [.ptr [ints l]])] [] (by rfl) (by simp) (by simp[Sym.los,Sym.lo]) (by simp) (zgr l H G) ?_
 simp+decide
abbrev encI(n:Int):List Value:=[.int .i64 n]
abbrev uz(n:Int):List D:=[int n]
theorem ED:RowEnc encI uz 1 where
 pos:=by decide
 len:=λ_=>rfl
 one:=λx v hv=>by simp[encI] at hv;subst hv;rfl
 rlen:=λ_=>rfl
 read:=λw E x=>by simp only[encI,int,zi,R];exact⟨_,_,rfl,rfl,rfl,rfl⟩
 uniq:=λw E x vs h=>by
  simp only[int,zi,R] at h;obtain⟨_,_,rfl,_,rfl,rfl⟩:=h;rfl
def qp(l:List Int):List Int:=l.mergeSort λx y=>decide (x<=y)
theorem EE(l:List Int):flatK encI 1 l.toArray=(l.map (Value.int .i64)).toArray:=by
 have:=ED.flatK l
 rw[<-Array.toList_inj,this]
 clear this
 induction l with
 |nil=>rfl
 |cons n r ih=>simpa[encI] using ih
theorem zbq(l:List Int):putCells id 0 (l.map (Value.int .i64)).toArray=putCells (Value.int .i64) 0 l.toArray:=by
 funext c
 unfold putCells
 congr 1
 funext k x
 by_cases h:k<l.length
 .simp[h]
 .simp[h]
theorem G7(l:List Int):(qp l).length=l.length:=List.length_mergeSort l
theorem QR(l:List Int):(qp l).Perm l:=List.mergeSort_perm l _
theorem zjn(l:List Int)(F:l≠[])(J:l.length<4611686018427387904):
  zI Tryz.prog 187 [.ar 0] [(0,.arr 3 1 (l.map uz))] 1 (.d (.tup [])) 1 [(0,.arr 3 1 ((qp l).map uz))] []:=by
 refine Fp ED c_187 F (G7 l) ?_
 intro w E β vs H G g cap L M O
 simp only[zg] at H
 subst H
 have Q:Holds (Value.int .i64) w g 0 l.toArray:=by
  unfold HoldsK at O;rw[EE] at O;intro j hj;have:=O j (by simpa using hj)
  have K:j<l.length:=by simpa using hj
  simpa[K] using this
 have:=Any.slices_Sort_int Tryz.sortInt g 0 cap l w Q L J
 change Calls Tryz.prog 187 _ _ _ at this
 refine this.mono λe w' T=>?_
 obtain⟨V,n,os,X⟩:=T
 refine⟨V,n,os,?_⟩
 rw[X]
 unfold sortWorldK putRowK putRow
 rw[EE,zbq]
 rfl
theorem zek(l:List Int)(hs:l.Pairwise λa b=>a<b)(L:l.length<2^40):
  zI Tryz.prog 128 [.ar 0] [(0,.arr 3 1 (l.map uz))] 1 (.ar 0) 1 [(0,.arr 3 1 (l.map uz))] []:=by
 refine xW mixed Tryz.func128 rfl c_128 (by simp[Sym.los,Sym.lo]) ?_
 by_cases M:l.length<2
 .have H:(l.length:Int)<2:=by omega
  simp+decide[Tryz.f128,H]
 have H:¬(l.length:Int)<2:=by omega
 simp+decide[Tryz.f128,H]
 refine zu mixed (λk:Nat=>{n:=61,next:=1,slots:=[(0,.ar 0),(3,.d (int k))],own:=[(0,.arr 3 1 (l.map uz))],base:=1})
  (λk=>1<=k/\k<=l.length) (λk=>l.length-k) 1 (by omega) (by simp+decide[int]) ?_
 rintro k ⟨J,O⟩
 by_cases G:k<l.length
 .have F:(k:Int)<l.length:=by omega
  obtain⟨j,rfl⟩:∃ j,k=j+1:=⟨k-1,by omega⟩
  have hj:j<l.length:=by omega
  have E:(j:Int)<l.length:=by omega
  have e1:l[j+1]?=some l[j+1]:=List.getElem?_eq_getElem G
  have e0:l[j]?=some l[j]:=List.getElem?_eq_getElem hj
  have K:¬l[j+1]=l[j]:=by
   have:=List.pairwise_iff_getElem.1 hs j (j+1) hj G (by omega)
   omega
  have j1:((j:Int)+1-1)=j:=by omega
  have jn:((j:Int)+1).toNat=j+1:=by omega
  have j0:(0:Int)<=(j:Int)+1:=by omega
  simp+decide[int,G,hj,E,K,j1,jn,j0,I64];exact λ_=>⟨by omega,by omega,⟨by omega,by omega⟩,j+2,⟨by omega,by omega⟩,by omega,by omega⟩
 .have:k=l.length:=by omega
  subst this;simp+decide[int]
theorem EF(l:List Int):zl Tryz.prog 130 [ints l] (uw l):=by
 refine zp mixed Tryz.func130 rfl c_130 ?_
 simp+decide[Tryz.f130,ints]
theorem Uw(l:List Int)(H:l≠[])(G:l.length<2^40):uM Tryz.prog 129 [.fn 188 [.ptr [ints l]]] 3 1 ((qp l).map uz):=by
 refine VP mixed Tryz.func129 rfl c_129 (by simp) ?_
 simp+decide[Tryz.f129]
 refine zG.fresh (by rfl) (zej l H G) (by simp) ?_
 simp+decide
 refine zG.mut [1] [.ar 0] [(0,.arr 3 1 (l.map uz))] (by rfl) (by simp) (by simp[Sym.los,Sym.lo]) (by simp) (zjn l H (by omega)) ?_
 simp+decide
theorem zbr(l:List Int)(H:l≠[])(G:l.length<2^40)(F:l.Nodup):kZ Tryz.prog 78 [ints l] (ints (qp l)):=by
 have hs:(qp l).Pairwise λa b=>a<b:=by
  have E:(qp l).Pairwise λa b=>decide (a<=b)=true:=List.pairwise_mergeSort (λa b c E K=>by simp at *;omega) (λa b=>by simp;omega) l
  have K:(qp l).Nodup:=(QR l).nodup_iff.2 F
  exact(List.pairwise_and_iff.2 ⟨E,K⟩).imp λ{a b} h=>by have:=h.1;have:=h.2;simp at *;omega
 have J:uM Tryz.prog 78 [ints l] 3 1 ((qp l).map uz):=by
  refine VP mixed Tryz.func78 rfl c_78 (by simp) ?_
  simp+decide[Tryz.f78];refine zh (EF l) ?_
  simp+decide
  refine zG.fresh (by rfl) (Uw l H G) (by simp[Jz]) ?_
  simp+decide
  refine zG.mut [1] [.ar 0] [(0,.arr 3 1 ((qp l).map uz))] (by rfl) (by simp) (by simp[Sym.los,Sym.lo]) (by simp) (zek (qp l) hs (by rw[G7];omega)) ?_
  simp+decide
 exact DJ J (Jz _)
theorem zbs{P:Program}{f:Nat}{ds:List D}(T sz:Nat){nx:Nat}{own':List (Nat×Obj')}{mv:List Nat}(h:zI P f (ds.map .d) [] 0 .nils nx own' mv):uM P f ds T sz []:=by
 refine⟨h.1,by simp,λw E vs F K=>?_⟩
 have J:Mods E (.of w) (yP [] 0 0 []) (λ_=>.pointer none) qU w:=
  ⟨⟨λb L hmay=>hmay.elim (λh=>by have:w.heap.size<=b:=h;have:=F.1 b L;omega) (λh=>h),F.2.over (Over.less λb h=>h.elim id False.elim)⟩,⟨Nat.le_refl _,λ_ _ _=>rfl⟩,λ_=>rfl,rfl,rfl,Kept.refl _,by simp[yP],by simp[yP],by simp[yP],by intro t s M;simp[yP,zc] at M⟩
 have H:Over w E w (Ex E (λ_=>Value.pointer none) []):=Over.less λb L=>L.elim id λ⟨_,_,O,_⟩=>by cases O
 refine(h.2 E (.of w) _ w vs rfl J (zg.uI (zF.over H _ _ K))).mono λe w' Q=>?_
 obtain⟨β',v,rfl,G,_,hs⟩:=Q
 simp only[Sm] at hs
 exact⟨v,[],rfl,G.below.below,⟨by simp,.inl ⟨hs,rfl⟩⟩,λb L=>by rw[hs] at L;simp[blk] at L,by simp[zi]⟩
theorem zjo:zI Tryz.prog 188 [.yd 0,.d (.ptr [ints []])] (vB []) 2 (.d (.tup [])) 2 (vB []) []:=by
 refine zI.J6 (xW mixed Tryz.func188 rfl c_188 (by simp[Sym.los,Sym.lo]) ?_)
 simp+decide[Tryz.f188,ints]
 refine xn mixed (λ_:Unit=>{n:=16,next:=2,base:=2,slots:=[(6,.d (int 0)),(7,.d (int 0))],own:=vB []}) (λ_=>True) (λ_=>0) () trivial (by simp+decide[int,vB,vN]) ?_
 intro _ _
 refine KJ ?_
 simp+decide[int,vB,vN]
theorem zel:zI Tryz.prog 224 [.nils,.d (uw [])] [] 0 .nils 3 [] []:=by
 refine Rb Tryz.func224 rfl c_224 (by simp[Sym.los,Sym.lo]) ?_
 refine ZE mixed 1 {n:=13,next:=2,slots:=[(1,.d (uw [])),(2,.bp 0 0)],own:=[(0,.box 31 [.nils])]} rfl ?_ ?_
 .simp+decide[Tryz.f224,yp]
 simp only[yK]
 refine KN (ZE mixed 1 {n:=13,next:=2,slots:=[(2,.bp 0 0),(6,.d (uw []))],own:=[(0,.box 31 [.nils])]} rfl ?_ ?_)
 .simp+decide[yp]
 simp only[yK]
 refine KO (KL (k:=0) (ids:=[2,0]) (args0:=[.yd 0,.d (.ptr [ints []])]) (own0:=vB []) (by rfl) (by simp[rho]) (by simp[rho]) (by simp[Sym.los,Sym.lo]) ?_ zjo ?_)
 .simp+decide[vB,vN,qP,vI,vJ,jL,Tryz.f224]
 .simp+decide[vB,vN]
theorem zlu:zI Tryz.prog 248 [.nils,.d (int 0),.d (int 0)] [] 0 (.tup []) 0 [] []:=by
 refine xW mixed Tryz.func248 rfl c_248 (by simp[Sym.los,Sym.lo]) ?_
 simp+decide[Tryz.f248,int]
 refine⟨by unfold I64;omega,zu mixed (λ_:Unit=>{n:=49,next:=0,slots:=[(2,.d (int 0)),(6,.d (int 1))],own:=[]})
  (λ_=>True) (λ_=>0) () trivial (by simp+decide[int]) ?_⟩
 intro _ _
 simp+decide[int]
theorem zlv:zI Tryz.prog 225 [.nils,.d (int 0),.d (int 0),.d (int 0)] [] 0 (.tup []) 0 [] []:=by
 refine xW mixed Tryz.func225 rfl c_225 (by simp[Sym.los,Sym.lo]) ?_
 simp+decide[Tryz.f225,int]
 refine zu mixed (λ_:Unit=>{n:=134,next:=0,slots:=[(0,.nils),(1,.d (int 0)),(2,.d (int 0))],own:=[]})
  (λ_=>True) (λ_=>0) () trivial (by simp+decide[int]) ?_
 intro _ _
 simp+decide[int]
 refine⟨by unfold I64;omega,?_⟩
 refine zG.mut [] [.nils,.d (int 0),.d (int 0)] [] (by rfl) (by simp[int]) (by simp) (by simp) zlu ?_
 simp+decide
theorem zjq:zI Tryz.prog 187 [.nils] [] 0 (.tup []) 0 [] []:=by
 refine xW mixed Tryz.func187 rfl c_187 (by simp[Sym.los,Sym.lo]) ?_
 simp+decide[Tryz.f187,jF,show IntKind.wrap .u64 0=0 from rfl]
 refine zh Ad ?_
 simp+decide[int]
 refine zG.mut [] [.nils,.d (int 0),.d (int 0),.d (int 0)] [] (by rfl) (by simp[int]) (by simp) (by simp) zlv ?_
 simp+decide
theorem zcv:zI Tryz.prog 128 [.nils] [] 0 .nils 0 [] []:=by
 refine xW mixed Tryz.func128 rfl c_128 (by simp[Sym.los,Sym.lo]) ?_
 simp+decide[Tryz.f128]
theorem zcw:zI Tryz.prog 186 [.d (uw [])] [] 0 .nils 3 [] []:=by
 refine xW mixed Tryz.func186 rfl c_186 (by simp[Sym.los,Sym.lo]) ?_
 simp+decide[Tryz.f186]
 refine zG.mut [] [.nils,.d (uw [])] [] (by rfl) (by simp) (by simp[Sym.los,Sym.lo]) (by simp) zel ?_
 simp+decide
theorem zem:zI Tryz.prog 129 [.d (uw [])] [] 0 .nils 3 [] []:=by
 refine xW mixed Tryz.func129 rfl c_129 (by simp[Sym.los,Sym.lo]) ?_
 simp+decide[Tryz.f129]
 refine zG.mut [] [.d (uw [])] [] (by rfl) (by simp) (by simp[Sym.los,Sym.lo]) (by simp) zcw ?_
 simp+decide
 refine zG.mut [] [.nils] [] (by rfl) (by simp) (by simp[Sym.los,Sym.lo]) (by simp) zjq ?_
 simp+decide
theorem za3:kZ Tryz.prog 78 [ints []] (ints []):=by
 have h:zI Tryz.prog 78 [.d (ints [])] [] 0 .nils 3 [] []:=by
  refine xW mixed Tryz.func78 rfl c_78 (by simp[Sym.los,Sym.lo]) ?_
  simp+decide[Tryz.f78];refine zh (EF []) ?_
  simp+decide
  refine zG.mut [] [.d (uw [])] [] (by rfl) (by simp) (by simp) (by simp) zem ?_
  simp+decide
  refine zG.mut [] [.nils] [] (by rfl) (by simp) (by simp[Sym.los,Sym.lo]) (by simp) zcv ?_
  simp+decide
 exact DJ (zbs (ds:=[.sl []]) 3 1 h) rfl
theorem zgs:qp []=[]:=by simp[qp]
theorem EG(l:List Int)(H:l.length<2^40)(G:l.Nodup):kZ Tryz.prog 78 [ints l] (ints (qp l)):=by
 by_cases h:l=[]
 .subst h;rw[zgs];exact za3
 .exact zbr l h H G
end Go.V.Doc
namespace Go.V.Doc
open Go Go.Proofs
section
variable {P:Program} {st:St} {Q:DE->St->Prop}
theorem za4{f:Nat}{fn:Func}{c:Code}(F:P.funcs[f]?=some fn)(K:fn.body=some c)(G:callable P f=true){args:List D}{r:D}
  (h:Triple P c (jI (uN P fn.results.toList r)) (jm fn.ntmps args)):zl P f args r:=by
 refine⟨G,λw E vs J L=>?_⟩
 refine calls_of_wp F K ?_
 refine wp_mono (h E (.of w) _ _ w (Mods.init J L)) ?_
 rintro e a' w' ⟨de,st',β',M,O,H⟩
 cases e <;> cases de <;> simp only[yv] at M
 .obtain⟨v,Q,T⟩:=wT H O
  exact⟨H.defers,v,Q,v,rfl,H.below.below,T⟩
 .exact O.elim
 .obtain⟨v,Q,T⟩:=wT H O
  exact⟨H.defers,v,Q,v,rfl,H.below.below,T⟩
def JF{α:Type}(S:α->St)(inv:α->Prop)(Q:DE->St->Prop):DE->St->Prop
 |.normal,st=>∃ x,inv x/\Weak st (S x)
 |e,st=>Q e st
theorem EH{α:Type}{x y:Code}(S:α->St)(inv:α->Prop)(h:Triple P x (JF S inv Q) st)(G:∀ z,inv z->Triple P y Q (S z)):Triple P (.seq x y) Q st:=by
 intro X w0 β a w F
 refine wp_seq (wp_mono (h X w0 β a w F) ?_)
 rintro e a' w' ⟨de,st',β',E,K,H⟩
 cases e <;> cases de <;> simp only[yv] at E
 .obtain⟨z,J,L⟩:=K
  exact G z J X w0 β' a' w' (H.weak L)
 .subst E;exact⟨.exit _,st',β',rfl,K,H⟩
 .exact⟨.ret,st',β',trivial,K,H⟩
theorem G8{c:Code}{id T e sz:Nat}(h:st.look id=some (.box T [.nils]))(E:Triple P c Q {st.new (.arr e sz []) with own:=zT id (.box T [.ar st.next]) (st.new (.arr e sz [])).own}):Triple P c Q st:=by
 intro X w0 β a w K
 refine E X w0 (λi=>if i=st.next then .slice none 0 0 else β i) a w ?_
 have G:=K.Vv e sz
 obtain⟨hid,_,b,vs,J,L,M,hs,O⟩:=K.obj h
 have F:¬st.next=id:=by omega
 have H:¬id=st.next:=by omega
 have V:(st.new (.arr e sz [])).look id=some (.box T [.nils]):=by simp only[St.look,St.new,zc,if_neg F];exact h
 refine G.update V (b:=b) (by simp only[if_neg H];rw[J];rfl) L (λ_ _=>rfl) rfl rfl rfl rfl (jl.refl _) (by simp[Obj'.lo,Sym.los,Sym.lo,St.new]) ?_
 refine⟨b,vs,by simp only[if_neg H];exact J,L,M,?_,O⟩
 simp only[zg,Sm] at hs ⊢
 simpa using hs
theorem EI{α:Type}{S:α->St}{inv:α->Prop}:JF S inv Q .normal st = ∃ x,inv x/\Weak st (S x):=rfl
theorem EJ{α:Type}{S:α->St}{inv:α->Prop}(i:Nat):JF S inv Q (.exit i) st=Q (.exit i) st:=rfl
theorem EK{α:Type}{S:α->St}{inv:α->Prop}:JF S inv Q .ret st=Q .ret st:=rfl
theorem zen{c:Code}{id T:Nat}(h:st.look id=some (.map T []))(H:Triple P c Q {st with own:=zT id (.raw (.mq []) []) st.own}):Triple P c Q st:=
 λX w0 β a w hm=>H X w0 β a w (hm.mq0 h)
end
theorem EL{st:St}{m:Nat}:∀ {l:List (Nat×Sym)},(∀ t s,(t,s)∈l->zc st.slots t=some s/\Sym.lo m s)->Yv st m l
 | [],_=>trivial
 |(t,s)::r,h=>by
  obtain⟨H,G⟩:=h t s List.mem_cons_self;unfold Yv;rw[H];exact⟨rfl,G,EL λt s F=>h t s (List.mem_cons_of_mem _ F)⟩
theorem EM{st:St}{m:Nat}:∀ {l:List (Nat×Obj')},(∀ t s,(t,s)∈l->zc st.own t=some s/\t<m/\s.lo m)->j6 st m l
 | [],_=>trivial
 |(t,s)::r,h=>by
  obtain⟨H,G,F⟩:=h t s List.mem_cons_self;unfold j6;rw[H];exact⟨rfl,G,F,EM λt s E=>h t s (List.mem_cons_of_mem _ E)⟩
theorem Zh{α:Type}:∀ {l:List (Nat×α)} {t:Nat} {s:α},(l.map (·.1)).Nodup->(t,s)∈l->zc l t=some s
 | [],t,s,_,h=>by cases h
 |(u,x)::r,t,s,H,h=>by
  simp only[List.map_cons,List.nodup_cons] at H;rcases List.mem_cons.1 h with e | h
  .cases e;simp[zc]
  .have:¬u=t:=λe=>H.1 (by rw[e];exact List.mem_map.2 ⟨_,h,rfl⟩)
   simp only[zc,if_neg this];exact Zh H.2 h
theorem QS{st st':St}(H:st'.n=st.n)(G:st'.base=st.base)(F:st'.base<=st'.next)(E:∀ id∈st.moved,id∈st'.moved)(K:(st'.own.map (·.1)).Nodup)
  (hs:∀ t s,(t,s)∈st'.slots->zc st.slots t=some s/\Sym.lo st'.next s) (J:∀ t s,(t,s)∈st'.own->zc st.own t=some s/\t<st'.next/\s.lo st'.next):Weak st st':=
 ⟨⟨H,G,F,E⟩,K,EL hs,EM J⟩
attribute [local simp] EI EJ EK
def yg(d:Dc)(L:List yj):List (Nat×Obj'):=[(0,.box 53 (ya d)),(2,.raw (.mq (xE L)) (yz L)),(3,.box 182 [.mp 2])]
def xj(d:Dc)(id:Int)(x:Nat×List yj×Nat):St:=
 {n:=46,next:=x.2.2,slots:=[(1,.d (int id)),(2,.bp 0 0),(5,.bp 3 0),(14,.d (zy d.notes)),(15,.d (int d.notes.length)),(16,.d (int x.1))],own:=yg d x.2.1++yY x.2.1,moved:=zK x.2.1}
structure UInv(d:Dc)(x:Nat×List yj×Nat):Prop where
 le:x.1<=d.notes.length
 nx:4<=x.2.2
 ids:∀ i∈zK x.2.1,4<=i/\i<x.2.2
 nodup:(zK x.2.1).Nodup
 kids:∀ p,vA x.2.1 p=jA (d.notes.take x.1) p
theorem UInv.own{d:Dc}{x:Nat×List yj×Nat}(h:UInv d x){id:Int}:((xj d id x).own.map (·.1)).Nodup/\∀ t s,(t,s)∈(xj d id x).own->zc (xj d id x).own t=some s/\t<x.2.2/\s.lo x.2.2:=by
 obtain⟨k,L,nx⟩:=x
 obtain⟨F,E,K,J,M⟩:=h
 simp only at F E K J M
 have H:((xj d id (k,L,nx)).own.map (·.1)).Nodup:=by
  have e:(xj d id (k,L,nx)).own.map (·.1)=[0,2,3]++zK L:=by simp[xj,yg,yY,zK,Function.comp_def]
  rw[e,List.nodup_append];refine⟨by decide,J,λa O b Q e=>?_⟩
  subst e;have:=(K a Q).1
  simp at O
  omega
 refine⟨H,λt s T=>⟨Zh H T,?_⟩⟩
 have G:Sym.los nx (yz L):=by
  clear H T J M;induction L with
  |nil=>simp[yz,Sym.los]
  |cons g L ih=>
   have:=ih λi hi=>K i (by simp only[zK,List.map_cons,List.mem_cons] at hi ⊢;exact .inr hi)
   simp only[yz,List.map_cons,Sym.los,Sym.lo] at this ⊢;exact⟨(K g.2.1 (by simp[zK])).2,this⟩
 simp only[xj,yg,List.cons_append,List.nil_append,List.mem_cons] at T
 rcases T with e | e | e | T
 .cases e;exact⟨by simp only;omega,by simp[Obj'.lo,Sym.los,Sym.lo]⟩
 .cases e;exact⟨by simp only;omega,by simpa[Obj'.lo] using G⟩
 .cases e;exact⟨by simp only;omega,by simp[Obj'.lo,Sym.los,Sym.lo];omega⟩
 .obtain⟨g,V,e⟩:=List.mem_map.1 T
  cases e;exact⟨(K g.2.1 (List.mem_map.2 ⟨g,V,rfl⟩)).2,by simp[Obj'.lo]⟩
theorem QT{d:Dc}{m:Nat}{x:Nat×List yj×Nat}(G:UInv d (m,x.2)){id:Int}{st:St}(F:st.n=46)(E:st.base=0)(K:∀ i∈st.moved,i∈zK x.2.1)
  (hs:∀ t s,(t,s)∈(xj d id x).slots->zc st.slots t=some s) (J:∀ t s,zc (xj d id x).own t=some s->zc st.own t=some s):Weak st (xj d id x):=by
 have L:=G.own (id:=id)
 refine QS F.symm E.symm (Nat.zero_le _) K L.1 (λt s M=>⟨hs t s M,?_⟩) (λt s M=>⟨J t s (L.2 t s M).1,(L.2 t s M).2⟩)
 have H:=G.nx
 simp only at H
 simp only[xj,List.mem_cons,List.not_mem_nil,or_false,Prod.mk.injEq] at M ⊢
 rcases M with⟨_,rfl⟩ | ⟨_,rfl⟩ | ⟨_,rfl⟩ | ⟨_,rfl⟩ | ⟨_,rfl⟩ | ⟨_,rfl⟩ <;> simp[Sym.lo] <;> omega
def zD(d:Dc)(id:Int)(k:Nat)(L:List yj)(nx:Nat)(n:Nt):St:=
 {n:=46,next:=nx+1,slots:=[(1,.d (int id)),(2,.bp 0 0),(5,.bp 3 0),(7,.bp nx 0),(14,.d (zy d.notes)),(15,.d (int d.notes.length)),(16,.d (int k))],own:=(nx,.box 72 (noteCells n))::(yg d L++yY L),moved:=zK L}
theorem UInv.znj{d:Dc}{x:Nat×List yj×Nat}(h:UInv d x):x.2.2∉zK x.2.1:=λH=>by have:=(h.ids _ H).2;omega
theorem zgt{d:Dc}{id:Int}{k:Nat}{L:List yj}{nx:Nat}{n:Nt}(H:UInv d (k,L,nx)){st:St}(G:st.n=46)(F:st.base=0)(E:∀ i∈st.moved,i∈zK L)
  (hs:∀ t s,(t,s)∈(zD d id k L nx n).slots->zc st.slots t=some s) (K:st.own=(zD d id k L nx n).own):Weak st (zD d id k L nx n):=by
 have J:=H.own (id:=id)
 have M:=H.nx
 simp only at M
 have O:((zD d id k L nx n).own.map (·.1)).Nodup:=by
  have e:(zD d id k L nx n).own.map (·.1)=nx::(xj d id (k,L,nx)).own.map (·.1):=rfl
  rw[e,List.nodup_cons];refine⟨λQ=>?_,J.1⟩
  obtain⟨⟨t,s⟩,T,V⟩:=List.mem_map.1 Q;have:=(J.2 t s T).2.1
  simp only at V this
  omega
 refine QS G.symm F.symm (Nat.zero_le _) E O (λt s Q=>⟨hs t s Q,?_⟩) (λt s Q=>⟨by rw[K];exact Zh O Q,?_⟩)
 .simp only[zD,List.mem_cons,List.not_mem_nil,or_false,Prod.mk.injEq] at Q ⊢
  rcases Q with⟨_,rfl⟩ | ⟨_,rfl⟩ | ⟨_,rfl⟩ | ⟨_,rfl⟩ | ⟨_,rfl⟩ | ⟨_,rfl⟩ | ⟨_,rfl⟩ <;> simp[Sym.lo] <;> omega
 .rcases List.mem_cons.1 Q with e | Q
  .cases e
   exact⟨by simp only[zD];omega,by simp[Obj'.lo,Sym.los,Sym.lo]⟩
  .have:=(J.2 t s Q).2
   simp only at this
   exact⟨by simp only[zD];omega,Obj'.vX (by simp only[zD];omega) this.2⟩
theorem EN:∀ {L:List yj} {p:Int} {g:Nat×List Int},qE L p=some g->vA L p=g.2
 | [],p,g,h=>by cases h
 |a::L,p,g,h=>by
  unfold qE at h;unfold vA;split at h
  .rename_i e;cases h;rw[if_pos e]
  .rename_i e;rw[if_neg e];exact EN h
theorem EO(L:List yj):yz L=(zK L).map Sym.ar:=by simp[yz,zK]
theorem zlw{d:Dc}{L L':List yj}{nx:Nat}{g:Nat×List Int}{ob:Obj'}{bx:Obj'}(E:xE L'=xE L)(hi:zK L'=zK L)(K:∀ i,zc (yY L') i=if i=g.1 then some ob else zc (yY L) i)
  (J:∀ i∈zK L,4<=i/\i<nx) (O:g.1∈zK L) (G:4<=nx):∀ t s,zc (yg d L'++yY L') t=some s->zc (zT 2 (.raw (.mq (xE L)) (yz L)) (xM g.1 ob ((nx,bx)::(yg d L++yY L)))) t=some s:=by
 intro t s hs
 have F:=J _ O
 rw[gG,ZD]
 rw[Y4] at hs
 by_cases t2:t=2
 .subst t2
  simp[yg,zc] at hs;rw[if_pos rfl,<-hs,E,EO,EO,hi]
 rw[if_neg t2]
 by_cases t0:t=0
 .subst t0
  have b0:¬0=g.1:=by omega
  have n0:¬nx=0:=by omega
  simp[yg,zc] at hs;subst hs;simp[yg,zc,n0,b0,xZ,yE,zA,ya]
 by_cases t3:t=3
 .subst t3
  have b0:¬3=g.1:=by omega
  have b2:¬2=g.1:=by omega
  have n0:¬nx=3:=by omega
  simp[yg,zc] at hs;subst hs;simp[yg,zc,n0,b0,b2,xZ,yE,zA]
 have e0:¬0=t:=λe=>t0 e.symm
 have e2:¬2=t:=λe=>t2 e.symm
 have e3:¬3=t:=λe=>t3 e.symm
 simp[yg,zc,e0,e2,e3] at hs
 have H:¬nx=t:=by
  intro e;rw[<-e,K,if_neg (by omega)] at hs
  have:=(J _ (YY hs).1).2
  omega
 simp only[yg,List.cons_append,List.nil_append,zc,if_neg H,if_neg e0,if_neg e2,if_neg e3]
 rw[K] at hs
 by_cases e:t=g.1
 .rw[if_pos e] at hs
  cases hs;cases Q:zc (yY L) t with
  |none=>
   exfalso
   rw[e] at Q;have:∀ M:List yj,g.1∈zK M->zc (yY M) g.1≠none:=by
    intro M;induction M with
    |nil=>intro h;simp[zK] at h
    |cons a M ih=>
     intro h;simp only[zK,List.map_cons,List.mem_cons] at h;simp only[yY,List.map_cons,zc];by_cases T:a.2.1=g.1
     .rw[if_pos T];simp
     .rw[if_neg T];exact ih (h.resolve_left λe=>T e.symm)
   exact this L O Q
  |some o=>simp[e]
 .rw[if_neg e] at hs
  obtain⟨_,ks,rfl⟩:=YY hs;rw[hs];simp[e,xZ]
theorem zjr{d:Dc}{L:List yj}{p x:Int}{nx:Nat}{bx:Obj'}{o0:Obj'}(E:qE L p=none)(K:∀ i∈zK L,4<=i/\i<nx)(F:4<=nx):
  ∀ t s,zc (yg d (qO L p x (nx+1))++yY (qO L p x (nx+1))) t=some s ->
   zc (zT 2 (.raw (.mq (xE L++[p])) (yz L++[.ar (nx+1)])) (xM (nx+1) (.arr 3 1 [[int x]]) ((nx+1,o0)::(nx,bx)::(yg d L++yY L)))) t=some s:=by
 intro t s hs
 have H:nx+1∉zK L:=λJ=>by have:=(K _ J).2;omega
 have M:=zgp (x:=x) (nx:=nx+1) E H
 rw[gG,ZD]
 rw[Y4] at hs
 by_cases t2:t=2
 .subst t2
  simp[yg,zc] at hs;rw[if_pos rfl,<-hs,JD E];simp[xE,yz]
 rw[if_neg t2]
 by_cases t0:t=0
 .subst t0
  have b0:¬0=nx+1:=by omega
  have n0:¬nx=0:=by omega
  simp[yg,zc] at hs;subst hs;simp[yg,zc,n0,xZ,yE,zA,ya]
 by_cases t3:t=3
 .subst t3
  have b0:¬nx+1=3:=by omega
  have b1:¬3=nx+1:=by omega
  have b2:¬2=nx+1:=by omega
  have n0:¬nx=3:=by omega
  simp[yg,zc] at hs;subst hs;simp only[yg,List.cons_append,List.nil_append,zc,if_neg b0,if_neg n0];simp[b1,b2,xZ,yE,zA]
 have e0:¬0=t:=λe=>t0 e.symm
 have e2:¬2=t:=λe=>t2 e.symm
 have e3:¬3=t:=λe=>t3 e.symm
 simp[yg,zc,e0,e2,e3] at hs
 rw[M] at hs
 by_cases e:t=nx+1
 .subst e
  rw[if_pos rfl] at hs;cases hs;simp[zc]
 rw[if_neg e] at hs
 have G:¬nx=t:=by
  intro e;rw[<-e] at hs;have:=(K _ (YY hs).1).2
  omega
 have en:¬nx+1=t:=λe2=>e e2.symm
 obtain⟨_,ks,rfl⟩:=YY hs
 simp only[yg,List.cons_append,List.nil_append,zc,if_neg en,if_neg G,if_neg e0,if_neg e2,if_neg e3,hs]
 simp[e,xZ]
theorem EP(id:Nat)(x:D):∀ (l:List (Nat×Obj')) (t:Nat),zc (xY id x l) t=if t=id then none else (zc l t).map (gx id x)
 | [],t=>by simp[xY,zc]
 |(k,o)::r,t=>by
  have ih:=EP id x r t;unfold xY;by_cases e:k=id
  .rw[if_pos e,ih]
   by_cases e2:t=id
   .rw[if_pos e2,if_pos e2]
   .have:¬k=t:=λe3=>e2 (e3.symm.trans e)
    rw[if_neg e2,if_neg e2];simp only[zc,if_neg this]
  .rw[if_neg e]
   simp only[zc];by_cases e2:k=t
   .have:¬t=id:=λe3=>e (e2.trans e3)
    rw[if_pos e2,if_pos e2,if_neg this];rfl
   .rw[if_neg e2,if_neg e2,ih]
def xF(d:Dc)(id:Int)(nx:Nat)(M:List Nat)(L1 L2:List yj):St:=
 {n:=46,next:=nx,slots:=[(1,.d (int id)),(2,.bp 0 0),(5,.bp 3 0)],own:=[(0,.box 53 (ya d)),(2,.raw (.mq (xE (L1++L2))) ((L1.map λg=>Sym.d (ints g.2.2))++yz L2)),(3,.box 182 [.mp 2])]++yY L2,moved:=M}
theorem ER(j:Nat)(x:D):∀ L:List yj,xT j x (L.map λg=>Sym.d (ints g.2.2))=L.map λg=>Sym.d (ints g.2.2)
 | []=>rfl
 |g::L=>by simp only[List.map_cons,xT,thaw,ER j x L]
theorem ES(j:Nat)(x:D):∀ l m:List Sym,xT j x (l++m)=xT j x l++xT j x m
 | [],m=>rfl
 |s::l,m=>by simp only[List.cons_append,xT,ES j x l m]
theorem ET{j:Nat}{x:D}:∀ {L:List yj},j∉zK L->xT j x (yz L)=yz L
 | [],_=>rfl
 |g::L,h=>by
  simp only[zK,List.map_cons,List.mem_cons,not_or] at h;have ih:=ET (x:=x) (L:=L) h.2;have:¬g.2.1=j:=λe=>h.1 e.symm
  simp only[yz,List.map_cons,xT,thaw,if_neg this] at ih ⊢;rw[ih]
theorem EU{X:Nat->Prop}{w0:Base}{β:Nat->Value}{a:Act}{w:World}{d:Dc}{id:Int}{nx:Nat}{M:List Nat}(T:4<=nx):∀ (L2 L1:List yj),(∀ i∈zK L2,4<=i/\i<nx)->(zK L2).Nodup->Mods X w0 (xF d id nx M L1 L2) β a w->Mods X w0 (xF d id nx M (L1++L2) []) β a w
 | [],L1,_,_,A=>by rw[List.append_nil];exact A
 |g::L2,L1,B,H,A=>by
  have e:L1++g::L2=(L1++[g])++L2:=by simp
  rw[e];simp only[zK,List.map_cons,List.nodup_cons] at H;have C:=B g.2.1 (by simp[zK])
  have E:g.2.1∉zK L2:=H.1
  have G:∀ i∈zK L2,4<=i/\i<nx:=λi hi=>B i (by simp only[zK,List.map_cons,List.mem_cons] at hi ⊢;exact .inr hi)
  refine EU T L2 (L1++[g]) G H.2 ?_
  have n0:¬0=g.2.1:=by omega
  have n2:¬2=g.2.1:=by omega
  have n3:¬3=g.2.1:=by omega
  have J:(xF d id nx M L1 (g::L2)).look g.2.1=some (.arr 3 1 (g.2.2.map λn=>[int n])):=by
   simp only[St.look,xF,yY,List.map_cons,List.cons_append,List.nil_append,zc,if_neg n0,if_neg n2,if_neg n3,if_true]
  have I:=A.vt g.2.1;unfold St.vt at I;rw[J] at I;refine I.weak (QS rfl rfl (Nat.zero_le _) (λ_ h=>h) ?_ ?_ ?_)
  .have:(xF d id nx M (L1++[g]) L2).own.map (·.1)=[0,2,3]++zK L2:=by simp[xF,yY,zK,Function.comp_def]
   rw[this,List.nodup_append];refine⟨by decide,H.2,λa N b P e=>?_⟩
   subst e;have:=(G a P).1
   simp at N
   omega
  .intro t s A
   simp only[xF,List.mem_cons,List.not_mem_nil,or_false,Prod.mk.injEq] at A;rcases A with⟨rfl,rfl⟩ | ⟨rfl,rfl⟩ | ⟨rfl,rfl⟩ <;> simp[xF,u7,thaw,zc,Sym.lo] <;> omega
  .intro t s F
   have V:Sym.los nx ((L1++[g]).map (λg=>Sym.d (ints g.2.2))++yz L2):=by
    have S:∀ (l m:List Sym),Sym.los nx l->Sym.los nx m->Sym.los nx (l++m):=by
     intro l;induction l with
     |nil=>intro m _ h;exact h
     |cons a l ih=>intro m S W;simp only[List.cons_append,Sym.los] at S ⊢;exact⟨S.1,ih m S.2 W⟩
    refine S _ _ ?_ ?_
    .generalize L1++[g]=L
     induction L with
     |nil=>simp[Sym.los]
     |cons a l ih=>simp only[List.map_cons,Sym.los,Sym.lo];exact⟨trivial,ih⟩
    .clear J I F H E A e
     induction L2 with
     |nil=>simp[yz,Sym.los]
     |cons a l ih=>
      simp only[yz,List.map_cons,Sym.los,Sym.lo];exact⟨(G a.2.1 (by simp[zK])).2,ih (λi hi=>B i (by simp only[zK,List.map_cons,List.mem_cons] at hi ⊢;rcases hi with h | h;exact .inl h;exact .inr (.inr h))) (λi hi=>G i (by simp only[zK,List.map_cons,List.mem_cons] at hi ⊢;exact .inr hi))⟩
   simp only[xF,List.cons_append,List.nil_append,List.mem_cons] at F;rw[EP];rcases F with e | e | e | F
   .cases e;exact⟨by rw[if_neg n0];simp[xF,zc,gx,xT,thaw,ya],by simp only[xF];omega,by simp[Obj'.lo,Sym.los,Sym.lo]⟩
   .cases e
    refine⟨?_,by simp only[xF];omega,by simp only[Obj'.lo];exact V⟩
    rw[if_neg n2];have hc:yz (g::L2)=Sym.ar g.2.1::yz L2:=rfl
    simp only[xF,List.cons_append,List.nil_append,zc,if_true,Option.map_some,gx,show ¬(0:Nat)=2 by decide,if_false,ES,ER,hc,xT,thaw,ET E]
    simp[ints,int]
   .cases e;exact⟨by rw[if_neg n3];simp[xF,zc,gx,xT,thaw,n2],by simp only[xF];omega,by simp[Obj'.lo,Sym.los,Sym.lo,xF];omega⟩
   .obtain⟨q,hq,e⟩:=List.mem_map.1 F
    cases e;have O:q.2.1∈zK L2:=List.mem_map.2 ⟨q,hq,rfl⟩
    have Z:=G _ O;have Q:¬q.2.1=g.2.1:=λe=>E (by rw[<-e];exact O)
    have K:¬g.2.1=q.2.1:=λe=>Q e.symm
    have Y:zc (yY L2) q.2.1=some (.arr 3 1 (q.2.2.map λn=>[int n])):=Zh (by simpa[yY,zK,Function.comp_def] using H.2) (List.mem_map.2 ⟨q,hq,rfl⟩)
    refine⟨?_,by simp only[xF];omega,by simp[Obj'.lo]⟩
    rw[if_neg Q];have m0:¬0=q.2.1:=by omega
    have m2:¬2=q.2.1:=by omega
    have m3:¬3=q.2.1:=by omega
    have hc:yY (g::L2)=(g.2.1,Obj'.arr 3 1 (g.2.2.map λn=>[int n]))::yY L2:=rfl
    simp only[xF,List.cons_append,List.nil_append,zc,if_neg m0,if_neg m2,if_neg m3,hc,if_neg K,Y];rfl
def Y5(d:Dc)(id:Int)(L:List yj):St:=
 {n:=46,next:=4,slots:=[(1,.d (int id)),(2,.bp 0 0),(5,.bp 3 0)],own:=[(0,.box 53 (ya d)),(3,.box 182 [.d (.mp (gj L))])],moved:=zK L}
theorem zcx{P:Program}{c:Code}{Q:DE->St->Prop}{d:Dc}{id:Int}{m:Nat}{x:Nat×List yj×Nat}(K:UInv d (m,x.2))(h:Triple P c Q (Y5 d id x.2.1)):Triple P c Q (xj d id x):=by
 intro X w0 β a w J
 obtain⟨k,L,nx⟩:=x
 have M:∀ i∈zK L,4<=i/\i<nx:=K.ids
 have G:(zK L).Nodup:=K.nodup
 have E:4<=nx:=K.nx
 have O:=K.own (id:=id)
 have m0:Mods X w0 (xF d id nx (zK L) [] L) β a w:=by
  refine J.weak (QS rfl rfl (Nat.zero_le _) (λ_ h=>h) O.1 ?_ O.2)
  intro t s J;simp only[xF,List.mem_cons,List.not_mem_nil,or_false,Prod.mk.injEq] at J;rcases J with⟨rfl,rfl⟩ | ⟨rfl,rfl⟩ | ⟨rfl,rfl⟩ <;> simp[xj,xF,zc,Sym.lo] <;> omega
 have m1:=EU E L [] M G m0
 rw[List.nil_append] at m1
 have F:(xF d id nx (zK L) L []).look 2=some (.raw (.mq (xE L)) ((L.map λg=>ints g.2.2).map Sym.d)):=by simp[xF,St.look,zc,yz,Function.comp_def]
 have m2:=(m1.mqD (T:=182) F).vt 2
 have V:((xE L).zip (L.map λg=>ints g.2.2)).map (λp=>[D.int .i64 p.1,p.2])=gj L:=by
  clear J m0 m1 m2 F O K h M G;induction L with
  |nil=>rfl
  |cons g L ih=>simp only[xE,gj,List.map_cons,List.zip_cons_cons,int] at ih ⊢;rw[ih]
 rw[V] at m2
 have H:St.look {xF d id nx (zK L) L [] with own:=zT 2 (.map 182 (gj L)) (xF d id nx (zK L) L []).own} 2=some (.map 182 (gj L)):=by simp[xF,St.look,zc,zT]
 unfold St.vt at m2
 rw[H] at m2
 refine h X w0 β a w (m2.weak (QS rfl rfl (Nat.zero_le _) (λ_ h=>h) (by simp[Y5]) ?_ ?_))
 .intro t s J
  simp only[Y5,List.mem_cons,List.not_mem_nil,or_false,Prod.mk.injEq] at J;rcases J with⟨rfl,rfl⟩ | ⟨rfl,rfl⟩ | ⟨rfl,rfl⟩ <;> simp[Y5,xF,u7,thaw,zc,Sym.lo]
 .intro t s J
  simp only[Y5,List.mem_cons,List.not_mem_nil,or_false,Prod.mk.injEq] at J;rcases J with⟨rfl,rfl⟩ | ⟨rfl,rfl⟩ <;> simp[Y5,xF,zT,xY,gx,xT,thaw,zc,Sym.lo,Sym.los,Obj'.lo,yY,ya]
end Go.V.Doc
namespace Go.V.Doc
open Go Go.Proofs
attribute [local simp] EI EJ EK
theorem zjs(d:Dc)(h:Rgt d)(hl:d.notes.length<2^40)(n:Nt)(hn:n∈d.notes)(f:Nat)(hf:(d.tiers.length:Int)-n.tier<=f)(hc:(yQ d.notes f n.id).length<2^40):zl Tryz.prog 59 [zv d,int n.id] (ints (qp (yQ d.notes f n.id))):=by
 obtain⟨id,hid⟩:∃ id,n.id=id:=⟨_,rfl⟩
 have hG:=ZR d n.id (by omega)
 rw[kK h hn] at hG
 have N:=hc
 have hS:=EG (yQ d.notes f n.id) hc (Ep h f n hn hf)
 have J:∀ L:List yj,(∀ p,vA L p=jA d.notes p)->JC L d.notes f n.id:=λL hL=>zni h hL f n hn hf
 rw[hid] at hG N hS J hc ⊢
 refine za4 Tryz.func59 rfl c_59 ?_
 refine w8 mixed 2 {n:=46,next:=4,slots:=[(1,.d (int id)),(2,.bp 0 0),(5,.bp 3 0)],own:=[(0,.box 53 (ya d)),(2,.map 182 []),(3,.box 182 [.mp 2])]} rfl ?_ ?_
 .simp+decide[Tryz.f59,yp,zv,Dc.row,int,zy,zH]
 simp only[Tryz.f59,yK]
 refine zen (id:=2) rfl ?_
 refine EH (xj d id) (λx=>UInv d x/\x.1=d.notes.length) ?_ ?_
 .refine w8 mixed 1 (xj d id (0,[],4)) rfl ?_ ?_
  .simp+decide[yp,xj,yg,xE,yz,yY,zK,zT,int,zy]
  simp only[yK];refine YC (xn mixed (xj d id) (UInv d) (λx=>d.notes.length-x.1) (0,[],4) ?_ ?_ ?_)
  .exact⟨Nat.zero_le _,by simp,by simp[zK],by simp[zK],by simp[vA,jA]⟩
  .simp+decide[xj,yg,xE,yz,yY,zK]
  intro x hx;by_cases K:x.1<d.notes.length
  case neg=>
   have hk:x.1=d.notes.length:=by have:=hx.le;omega
   refine zL mixed ?_
   simp+decide[xj,int,hk,-Weak];refine⟨x.1,x.2.1,x.2.2,⟨hx,hk⟩,?_⟩
   refine QT (x:=(x.1,x.2.1,x.2.2)) hx rfl rfl (λ_ h=>h) ?_ (λ_ _ h=>h)
   intro t s hm;simp only[xj,List.mem_cons,List.not_mem_nil,or_false,Prod.mk.injEq] at hm;rcases hm with⟨rfl,rfl⟩ | ⟨rfl,rfl⟩ | ⟨rfl,rfl⟩ | ⟨rfl,rfl⟩ | ⟨rfl,rfl⟩ | ⟨rfl,rfl⟩ <;> simp[zc,hk,int]
  refine w8 mixed 2 (xj d id x) rfl ?_ ?_
  .have G:(x.1:Int)<d.notes.length:=by omega
   simp+decide[yp,xj,int,G,-Weak];refine QT (x:=x) hx rfl rfl (λ_ h=>h) ?_ (λ_ _ h=>h)
   intro t s hm;simp only[xj,List.mem_cons,List.not_mem_nil,or_false,Prod.mk.injEq] at hm;rcases hm with⟨rfl,rfl⟩ | ⟨rfl,rfl⟩ | ⟨rfl,rfl⟩ | ⟨rfl,rfl⟩ | ⟨rfl,rfl⟩ | ⟨rfl,rfl⟩ <;> simp[zc,int]
  simp only[yK];refine EH (λy:List yj×Nat=>xj d id (x.1,y)) (λy=>UInv d (x.1+1,y)) ?_ ?_
  .refine YC ?_
   obtain⟨k,L,nx⟩:=x;obtain⟨n,en⟩:∃ n,d.notes[k]=n:=⟨_,rfl⟩;have e1:d.notes[k]?=some n:=by rw[List.getElem?_eq_getElem K,en]
   refine VV (zD d id k L nx n) ?_ ?_
   .refine zL mixed ?_
    have G:(k:Int)<d.notes.length:=by omega
    simp+decide[xj,int,zy,Nt.row,K,G,en,-Weak];refine zgt hx rfl rfl (λ_ h=>h) ?_ rfl
    intro t s hm;simp only[zD,List.mem_cons,List.not_mem_nil,or_false,Prod.mk.injEq] at hm;rcases hm with⟨rfl,rfl⟩ | ⟨rfl,rfl⟩ | ⟨rfl,rfl⟩ | ⟨rfl,rfl⟩ | ⟨rfl,rfl⟩ | ⟨rfl,rfl⟩ | ⟨rfl,rfl⟩ <;> simp[zc,int,zy]
   .have P:nx∉zK L:=hx.znj
    have h4:4<=nx:=hx.nx
    have H:∀ i∈zK L,4<=i/\i<nx:=hx.ids
    have M:(zK L).Nodup:=hx.nodup
    have a0:¬nx=0:=by omega
    have a2:¬nx=2:=by omega
    have a3:¬nx=3:=by omega
    cases hf:qE L n.par with
    |some g=>
     have T:g.1∈zK L:=List.mem_map.2 ⟨_,QQ hf,rfl⟩
     have H2:=H _ T;have b0:¬0=g.1:=by omega
     have b2:¬2=g.1:=by omega
     have b3:¬3=g.1:=by omega
     have bn:¬nx=g.1:=by omega
     have c2:¬g.1=2:=by omega
     have c3:¬g.1=3:=by omega
     have c0:¬g.1=0:=by omega
     have cn:¬g.1=nx:=by omega
     obtain⟨S,hS⟩:∃ S:St,S = {zD d id k L nx n with slots:=(20,.mp 2)::(21,.bp nx 2)::(22,.d (int n.par))::(23,.mp 2)::(24,.bp nx 2)::(25,.d (int n.par))::(26,.ar g.1)::(27,.bp nx 0)::(28,.d (int n.id))::(29,.d (.sl [[int n.id]]))::(zD d id k L nx n).slots}:=⟨_,rfl⟩;refine DX mixed 11 10 S ((S.renew g.1 (.arr 3 1 ((g.2++[n.id]).map λn=>[int n]))).put (some 30) (.ar g.1)) 30 (.ar g.1) (zA g.1) (λst=>(st.renew g.1 (.arr 3 1 ((g.2++[n.id]).map λn=>[int n]))).put (some 30) (.ar g.1)) _ (by rfl) (by rfl) (by rfl) (by rfl) (by rfl) rfl rfl rfl ?_ (R2 S g.1 30 _) ?_ ?_ ?_
     .intro X w0 β a w hm
      subst hS;refine⟨rfl,rfl,rfl,rfl,rfl,λt s hs hj hL=>?_⟩
      simp only[zc] at hs;split at hs
      .rename_i e;exact(hL 0 _ (by omega) rfl (congrArg some e)).elim
      split at hs
      .rename_i e;exact(hL 1 _ (by omega) rfl (congrArg some e)).elim
      split at hs
      .rename_i e;exact(hL 2 _ (by omega) rfl (congrArg some e)).elim
      split at hs
      .rename_i e;exact(hL 3 _ (by omega) rfl (congrArg some e)).elim
      split at hs
      .rename_i e;exact(hL 4 _ (by omega) rfl (congrArg some e)).elim
      split at hs
      .rename_i e;exact(hL 5 _ (by omega) rfl (congrArg some e)).elim
      split at hs
      .rename_i e;exact(hL 6 _ (by omega) rfl (congrArg some e)).elim
      split at hs
      .rename_i e;exact(hL 7 _ (by omega) rfl (congrArg some e)).elim
      split at hs
      .rename_i e;exact(hL 8 _ (by omega) rfl (congrArg some e)).elim
      split at hs
      .rename_i e;exact(hL 9 _ (by omega) rfl (congrArg some e)).elim
      exact hs
     .intro i o hi W ho
      have:i=0\/i=1\/i=2\/i=3\/i=4\/i=5\/i=6\/i=7\/i=8\/i=9:=by omega
      rcases this with rfl | rfl | rfl | rfl | rfl | rfl | rfl | rfl | rfl | rfl <;> simp only[List.getElem?_cons_zero,List.getElem?_cons_succ,Option.some.injEq] at ho <;> subst ho
      .refine qx (s:=.mp 2) rfl rfl (by subst hS;simp[zD]) (by subst hS;simp[Sym.lo,zD] <;> omega) ⟨by rfl,?_⟩ (by subst hS;simp[zc]) (.inr ⟨by subst hS;simp[St.put,St.renew,zD],by subst hS;simp[St.put,St.renew,Sym.lo,zD] <;> omega,⟨by rfl,?_⟩,by subst hS;simp[zc,St.put,St.renew,xg,zA,zD,b0,b2,b3,bn]⟩)
       .subst hS;simp+decide[zD,yg,zc,St.val,St.look,int,a3]
       .subst hS;simp+decide[zD,yg,zc,St.val,St.look,St.put,St.renew,xM,xZ,yE,zA,xg,int,a3,b0,b2,b3,bn]
      .refine qx (s:=.bp nx 2) rfl rfl (by subst hS;simp[zD]) (by subst hS;simp[Sym.lo,zD] <;> omega) ⟨by rfl,?_⟩ (by subst hS;simp[zc]) (.inr ⟨by subst hS;simp[St.put,St.renew,zD],by subst hS;simp[St.put,St.renew,Sym.lo,zD] <;> omega,⟨by rfl,?_⟩,by subst hS;simp[zc,St.put,St.renew,xg,zA,zD,b0,b2,b3,bn]⟩)
       .subst hS;simp+decide[zD,yg,zc,St.val,int]
       .subst hS;simp+decide[zD,yg,zc,St.val,St.put,St.renew,xM,xZ,yE,zA,xg,int,b0,b2,b3,bn]
      .refine qx (s:=.d (int n.par)) rfl rfl (by subst hS;simp[zD]) (by subst hS;simp[Sym.lo] <;> omega) ⟨by rfl,?_⟩ (by subst hS;simp[zc]) (.inr ⟨by subst hS;simp[St.put,St.renew,zD],by subst hS;simp[Sym.lo] <;> omega,⟨by rfl,?_⟩,by subst hS;simp[zc,St.put,St.renew,xg,zA,zD,b0,b2,b3,bn]⟩)
       .subst hS;simp+decide[zD,yg,zc,St.val,St.look,int]
       .subst hS;simp+decide[zD,yg,zc,St.val,St.look,St.put,St.renew,xM,xZ,yE,zA,xg,int,b0,b2,b3,bn]
      .refine qx (s:=.mp 2) rfl rfl (by subst hS;simp[zD]) (by subst hS;simp[Sym.lo,zD] <;> omega) ⟨by rfl,?_⟩ (by subst hS;simp[zc]) (.inl ⟨5,by rfl⟩)
       subst hS;simp+decide[zD,yg,zc,St.val,St.look,int,a3]
      .refine qx (s:=.bp nx 2) rfl rfl (by subst hS;simp[zD]) (by subst hS;simp[Sym.lo,zD] <;> omega) ⟨by rfl,?_⟩ (by subst hS;simp[zc]) (.inl ⟨5,by rfl⟩)
       subst hS;simp+decide[zD,yg,zc,St.val,int]
      .refine qx (s:=.d (int n.par)) rfl rfl (by subst hS;simp[zD]) (by subst hS;simp[Sym.lo] <;> omega) ⟨by rfl,?_⟩ (by subst hS;simp[zc]) (.inl ⟨5,by rfl⟩)
       subst hS;simp+decide[zD,yg,zc,St.val,St.look,int]
      .refine⟨rfl,26,.ar g.1,rfl,.inl ⟨5,by rfl⟩,?_,by subst hS;intro s' h1 _;simp[zc] at h1;exact h1.symm⟩
       intro X w0 st β a w hn H0 F hk hm;have V:st.val (.tmp 23) = .mp 2:=by simp only[St.val];rw[hk 23 (by simp[tmpsOf,Op.operands]) (.mp 2) (by subst hS;simp[zc]) (by simp)];rfl
       have Y:st.val (.tmp 25) = .d (.int .i64 n.par):=by simp only[St.val];rw[hk 25 (by simp[tmpsOf,Op.operands]) (.d (int n.par)) (by subst hS;simp[zc]) (by simp)];rfl
       have O:st.look 2=some (.raw (.mq (xE L)) (yz L)):=by simp only[St.look];rw[F];subst hS;simp[zD,yg,zc,a2]
       refine PY hm rfl (by intro t ht;cases ht;rw[hn];subst hS;simp[zD]) V O Y (kt:=3) (et:=31) (by kernel_rfl) ti_3 ti_31 rfl rfl rfl (by kernel_rfl) ?_
       rw[G6,hf];rfl
      .refine qx (s:=.bp nx 0) rfl rfl (by subst hS;simp[zD]) (by subst hS;simp[Sym.lo,zD] <;> omega) ⟨by rfl,?_⟩ (by subst hS;simp[zc]) (.inl ⟨5,by rfl⟩)
       subst hS;simp+decide[zD,yg,zc,St.val,int]
      .refine qx (s:=.d (int n.id)) rfl rfl (by subst hS;simp[zD]) (by subst hS;simp[Sym.lo] <;> omega) ⟨by rfl,?_⟩ (by subst hS;simp[zc]) (.inl ⟨5,by rfl⟩)
       subst hS;simp+decide[zD,yg,zc,St.val,St.look,int]
      .refine qx (s:=.d (.sl [[int n.id]])) rfl rfl (by subst hS;simp[zD]) (by subst hS;simp[Sym.lo] <;> omega) ⟨by rfl,?_⟩ (by subst hS;simp[zc]) (.inl ⟨5,by rfl⟩)
       subst hS;simp+decide[zD,yg,zc,St.val,int]
     .intro X w0 L' st hN hk β a w hm
      have Z:zc st.slots 26=some (.ar g.1):=hk 26 (by simp[tmpsOf,Op.operands,Call.operands]) (.ar g.1) (by subst hS;simp[zc]) (by simp)
      have A:zc st.slots 29=some (.d (.sl [[int n.id]])):=hk 29 (by simp[tmpsOf,Op.operands,Call.operands]) (.d (.sl [[int n.id]])) (by subst hS;simp[zc]) (by simp)
      have O:zc st.own g.1=some (.arr 3 1 (g.2.map λn=>[int n])):=by
       rw[hN.own];subst hS;simp only[zD,yg,List.cons_append,List.nil_append,zc,if_neg bn,if_neg b0,if_neg b2,if_neg b3];exact zgo hf M
      have Hb:g.2.length<=k:=by
       rw[<-EN hf,hx.kids n.par];unfold jA;rw[List.length_map];exact Nat.le_trans (List.length_filter_le _ _) (by rw[List.length_take];exact Nat.min_le_left _ _)
      have B:st.n=46:=by rw[hN.n];subst hS;rfl
      refine j5 hm ?_
      simp+decide[yr,B,Z,A,O,int,maxLen];exact⟨by omega,by omega⟩
     .refine R7 rfl rfl rfl ?_
      intro X w0 β a w hm;refine PZ hm rfl rfl (id:=2) (keys:=xE L) (cells:=yE g.1 (yz L)) (n:=n.par) ?_ ?_ ?_ (kt:=3) (et:=31) (by kernel_rfl) ti_3 rfl ?_
      .subst hS;simp[St.val,St.put,St.renew,xg,zA,zc,b2]
      .subst hS;simp only[St.look,St.put,St.renew];rw[ZD];simp[zD,yg,zc,a2,b2,xZ]
      .subst hS;simp[St.val,St.put,St.renew,xg,zA,zc,int]
      .have hv:((S.renew g.1 (.arr 3 1 ((g.2++[n.id]).map λn=>[int n]))).put (some 30) (.ar g.1)).val (.tmp 30) = .ar g.1:=by simp[St.val,St.put,zc]
       rw[hv,EA (x:=n.id) (nx:=nx) hf M];have hh:=Ew (x:=n.id) (nx:=nx) hf;have hU:UInv d (k+1,qO L n.par n.id nx,nx+1):=by
        refine⟨K,by simp only;omega,λi hi=>?_,by simp only;rw[hh.2];exact M,λp=>?_⟩
        .simp only at hi ⊢
         rw[hh.2] at hi;have:=H i hi
         omega
        .simp only
         rw[Eu,hx.kids p,List.take_succ_eq_append_getElem K,en];unfold jA;rw[List.filter_append,List.map_append];by_cases e:n.par=p
         .simp[e]
         .simp[e]
       refine⟨(qO L n.par n.id nx,nx+1),hU,?_⟩
       refine QT (x:=(k,qO L n.par n.id nx,nx+1)) hU (by subst hS;rfl) (by subst hS;rfl) ?_ ?_ ?_
       .subst hS
        simp only[hh.2,St.put,St.renew,zD,List.mem_cons];rintro i (rfl | hi)
        .exact T
        .exact hi
       .subst hS
        intro t s hm;simp only[xj,List.mem_cons,List.not_mem_nil,or_false,Prod.mk.injEq] at hm;rcases hm with⟨rfl,rfl⟩ | ⟨rfl,rfl⟩ | ⟨rfl,rfl⟩ | ⟨rfl,rfl⟩ | ⟨rfl,rfl⟩ | ⟨rfl,rfl⟩ <;> simp[St.put,St.renew,zc,zD,xg,zA,b0,b2,b3]
       .subst hS
        exact zlw hh.1 hh.2 (Ey hf M) H T h4
    |none=>
     have a1:¬nx=1:=by omega
     have b1:¬1=nx:=by omega
     have b2:¬2=nx:=by omega
     have b3:¬3=nx:=by omega
     have Q:nx+1∉zK L:=λhm=>by have:=(H _ hm).2;omega
     obtain⟨S,hS⟩:∃ S:St,S = {zD d id k L nx n with slots:=(20,.mp 2)::(21,.bp nx 2)::(22,.d (int n.par))::(23,.mp 2)::(24,.bp nx 2)::(25,.d (int n.par))::(26,.nils)::(27,.bp nx 0)::(28,.d (int n.id))::(29,.d (.sl [[int n.id]]))::(zD d id k L nx n).slots}:=⟨_,rfl⟩;have H1:S.next=nx+1:=by subst hS;rfl
     refine DX mixed 11 10 S (((S.new (.arr 3 1 [])).renew S.next (.arr 3 1 [[int n.id]])).put (some 30) (.ar S.next)) 30 (.ar S.next) (zA S.next) (λst=>((st.new (.arr 3 1 [])).renew st.next (.arr 3 1 [[int n.id]])).put (some 30) (.ar st.next)) _ (by rfl) (by rfl) (by rfl) (by rfl) (by rfl) rfl rfl rfl ?_ (zlo S 30 _ _) ?_ ?_ ?_
     .intro X w0 β a w hm
      subst hS;refine⟨rfl,rfl,rfl,rfl,rfl,λt s hs hj hL=>?_⟩
      simp only[zc] at hs;split at hs
      .rename_i e;exact(hL 0 _ (by omega) rfl (congrArg some e)).elim
      split at hs
      .rename_i e;exact(hL 1 _ (by omega) rfl (congrArg some e)).elim
      split at hs
      .rename_i e;exact(hL 2 _ (by omega) rfl (congrArg some e)).elim
      split at hs
      .rename_i e;exact(hL 3 _ (by omega) rfl (congrArg some e)).elim
      split at hs
      .rename_i e;exact(hL 4 _ (by omega) rfl (congrArg some e)).elim
      split at hs
      .rename_i e;exact(hL 5 _ (by omega) rfl (congrArg some e)).elim
      split at hs
      .rename_i e;exact(hL 6 _ (by omega) rfl (congrArg some e)).elim
      split at hs
      .rename_i e;exact(hL 7 _ (by omega) rfl (congrArg some e)).elim
      split at hs
      .rename_i e;exact(hL 8 _ (by omega) rfl (congrArg some e)).elim
      split at hs
      .rename_i e;exact(hL 9 _ (by omega) rfl (congrArg some e)).elim
      exact hs
     .intro i o hi W ho
      have:i=0\/i=1\/i=2\/i=3\/i=4\/i=5\/i=6\/i=7\/i=8\/i=9:=by omega
      rcases this with rfl | rfl | rfl | rfl | rfl | rfl | rfl | rfl | rfl | rfl <;> simp only[List.getElem?_cons_zero,List.getElem?_cons_succ,Option.some.injEq] at ho <;> subst ho
      .refine qx (s:=.mp 2) rfl rfl (by subst hS;simp[zD]) (by subst hS;simp[Sym.lo,zD] <;> omega) ⟨by rfl,?_⟩ (by subst hS;simp[zc]) (.inr ⟨by subst hS;simp[St.put,St.renew,St.new,zD],by subst hS;simp[St.put,St.renew,St.new,Sym.lo,zD] <;> omega,⟨by rfl,?_⟩,by subst hS;simp[zc,St.put,St.renew,St.new,xg,zA,zD,a0,a1,a2]⟩)
       .subst hS;simp+decide[zD,yg,zc,St.val,St.look,int,a3]
       .subst hS;simp+decide[zD,yg,zc,St.val,St.look,St.put,St.renew,St.new,xM,xZ,yE,zA,xg,int,a0,a1,a2,a3]
      .refine qx (s:=.bp nx 2) rfl rfl (by subst hS;simp[zD]) (by subst hS;simp[Sym.lo,zD] <;> omega) ⟨by rfl,?_⟩ (by subst hS;simp[zc]) (.inr ⟨by subst hS;simp[St.put,St.renew,St.new,zD],by subst hS;simp[St.put,St.renew,St.new,Sym.lo,zD] <;> omega,⟨by rfl,?_⟩,by subst hS;simp[zc,St.put,St.renew,St.new,xg,zA,zD,a0,a1,a2]⟩)
       .subst hS;simp+decide[zD,yg,zc,St.val,int]
       .subst hS;simp+decide[zD,yg,zc,St.val,St.put,St.renew,St.new,xM,xZ,yE,zA,xg,int,a0,a1,a2]
      .refine qx (s:=.d (int n.par)) rfl rfl (by subst hS;simp[zD]) (by subst hS;simp[Sym.lo] <;> omega) ⟨by rfl,?_⟩ (by subst hS;simp[zc]) (.inr ⟨by subst hS;simp[St.put,St.renew,St.new,zD],by subst hS;simp[Sym.lo] <;> omega,⟨by rfl,?_⟩,by subst hS;simp[zc,St.put,St.renew,St.new,xg,zA,zD,a0,a1,a2]⟩)
       .subst hS;simp+decide[zD,yg,zc,St.val,St.look,int]
       .subst hS;simp+decide[zD,yg,zc,St.val,St.look,St.put,St.renew,St.new,xM,xZ,yE,zA,xg,int,a0,a1,a2]
      .refine qx (s:=.mp 2) rfl rfl (by subst hS;simp[zD]) (by subst hS;simp[Sym.lo,zD] <;> omega) ⟨by rfl,?_⟩ (by subst hS;simp[zc]) (.inl ⟨5,by rfl⟩)
       subst hS;simp+decide[zD,yg,zc,St.val,St.look,int,a3]
      .refine qx (s:=.bp nx 2) rfl rfl (by subst hS;simp[zD]) (by subst hS;simp[Sym.lo,zD] <;> omega) ⟨by rfl,?_⟩ (by subst hS;simp[zc]) (.inl ⟨5,by rfl⟩)
       subst hS;simp+decide[zD,yg,zc,St.val,int]
      .refine qx (s:=.d (int n.par)) rfl rfl (by subst hS;simp[zD]) (by subst hS;simp[Sym.lo] <;> omega) ⟨by rfl,?_⟩ (by subst hS;simp[zc]) (.inl ⟨5,by rfl⟩)
       subst hS;simp+decide[zD,yg,zc,St.val,St.look,int]
      .refine⟨rfl,26,.nils,rfl,.inl ⟨5,by rfl⟩,?_,by subst hS;intro s' h1 _;simp[zc] at h1;exact h1.symm⟩
       intro X w0 st β a w hn H0 F hk hm;have V:st.val (.tmp 23) = .mp 2:=by simp only[St.val];rw[hk 23 (by simp[tmpsOf,Op.operands]) (.mp 2) (by subst hS;simp[zc]) (by simp)];rfl
       have Y:st.val (.tmp 25) = .d (.int .i64 n.par):=by simp only[St.val];rw[hk 25 (by simp[tmpsOf,Op.operands]) (.d (int n.par)) (by subst hS;simp[zc]) (by simp)];rfl
       have O:st.look 2=some (.raw (.mq (xE L)) (yz L)):=by simp only[St.look];rw[F];subst hS;simp[zD,yg,zc,a2]
       refine PY hm rfl (by intro t ht;cases ht;rw[hn];subst hS;simp[zD]) V O Y (kt:=3) (et:=31) (by kernel_rfl) ti_3 ti_31 rfl rfl rfl (by kernel_rfl) ?_
       rw[G6,hf];rfl
      .refine qx (s:=.bp nx 0) rfl rfl (by subst hS;simp[zD]) (by subst hS;simp[Sym.lo,zD] <;> omega) ⟨by rfl,?_⟩ (by subst hS;simp[zc]) (.inl ⟨5,by rfl⟩)
       subst hS;simp+decide[zD,yg,zc,St.val,int]
      .refine qx (s:=.d (int n.id)) rfl rfl (by subst hS;simp[zD]) (by subst hS;simp[Sym.lo] <;> omega) ⟨by rfl,?_⟩ (by subst hS;simp[zc]) (.inl ⟨5,by rfl⟩)
       subst hS;simp+decide[zD,yg,zc,St.val,St.look,int]
      .refine qx (s:=.d (.sl [[int n.id]])) rfl rfl (by subst hS;simp[zD]) (by subst hS;simp[Sym.lo] <;> omega) ⟨by rfl,?_⟩ (by subst hS;simp[zc]) (.inl ⟨5,by rfl⟩)
       subst hS;simp+decide[zD,yg,zc,St.val,int]
     .intro X w0 L' st hN hk β a w hm
      have Z:zc st.slots 26=some .nils:=hk 26 (by simp[tmpsOf,Op.operands,Call.operands]) .nils (by subst hS;simp[zc]) (by simp)
      have A:zc st.slots 29=some (.d (.sl [[int n.id]])):=hk 29 (by simp[tmpsOf,Op.operands,Call.operands]) (.d (.sl [[int n.id]])) (by subst hS;simp[zc]) (by simp)
      have B:st.n=46:=by rw[hN.n];subst hS;rfl
      refine j5 hm ?_
      simp+decide[yr,B,Z,A,int,maxLen]
     .refine R7 rfl rfl rfl ?_
      intro X w0 β a w hm;refine PZ hm rfl rfl (id:=2) (keys:=xE L) (cells:=yE (nx+1) (yz L)) (n:=n.par) ?_ ?_ ?_ (kt:=3) (et:=31) (by kernel_rfl) ti_3 rfl ?_
      .subst hS;simp[St.val,St.put,St.renew,St.new,xg,zA,zc,zD,a1]
      .subst hS;simp only[St.look,St.put,St.renew,St.new];rw[ZD];simp[zD,yg,zc,a1,a2,xZ]
      .subst hS;simp[St.val,St.put,St.renew,St.new,xg,zA,zc,int]
      .have hv:(((S.new (.arr 3 1 [])).renew S.next (.arr 3 1 [[int n.id]])).put (some 30) (.ar S.next)).val (.tmp 30) = .ar (nx+1):=by simp[St.val,St.put,zc,H1]
       rw[hv,EC Q,EB hf];have C:=JD (x:=n.id) (nx:=nx+1) hf;have E:zK (qO L n.par n.id (nx+1))=zK L++[nx+1]:=by rw[C];simp[zK]
       have hU:UInv d (k+1,qO L n.par n.id (nx+1),nx+2):=by
        refine⟨K,by simp only;omega,λi hi=>?_,?_,λp=>?_⟩
        .simp only at hi ⊢
         rw[E,List.mem_append,List.mem_singleton] at hi;rcases hi with hi | rfl
         .have:=H i hi;omega
         .omega
        .simp only
         rw[E,List.nodup_append];refine⟨M,by simp,λa ha b hb e=>?_⟩
         rw[List.mem_singleton] at hb;subst hb;subst e;exact Q ha
        .simp only
         rw[Eu,hx.kids p,List.take_succ_eq_append_getElem K,en];unfold jA;rw[List.filter_append,List.map_append];by_cases e:n.par=p
         .simp[e]
         .simp[e]
       refine⟨(qO L n.par n.id (nx+1),nx+2),hU,?_⟩
       refine QT (x:=(k,qO L n.par n.id (nx+1),nx+2)) hU (by subst hS;rfl) (by subst hS;rfl) ?_ ?_ ?_
       .subst hS
        simp only[E,St.put,St.renew,St.new,zD,List.mem_cons,List.mem_append,List.not_mem_nil,or_false];rintro i (rfl | hi)
        .exact .inr rfl
        .exact .inl hi
       .subst hS
        intro t s hm;simp only[xj,List.mem_cons,List.not_mem_nil,or_false,Prod.mk.injEq] at hm;rcases hm with⟨rfl,rfl⟩ | ⟨rfl,rfl⟩ | ⟨rfl,rfl⟩ | ⟨rfl,rfl⟩ | ⟨rfl,rfl⟩ | ⟨rfl,rfl⟩ <;> simp[St.put,St.renew,St.new,zc,zD,xg,zA,a1,a2]
       .subst hS
        exact zjr hf H h4
  .intro y hy
   refine zL mixed ?_
   simp+decide[xj,int,I64,-Weak];refine⟨⟨by omega,by omega⟩,x.1+1,y.1,y.2,hy,by omega,?_⟩
   refine QT (x:=(x.1+1,y)) hy rfl rfl (λ_ h=>h) ?_ (λ_ _ h=>h)
   intro t s hm;simp only[xj,List.mem_cons,List.not_mem_nil,or_false,Prod.mk.injEq] at hm;rcases hm with⟨rfl,rfl⟩ | ⟨rfl,rfl⟩ | ⟨rfl,rfl⟩ | ⟨rfl,rfl⟩ | ⟨rfl,rfl⟩ | ⟨rfl,rfl⟩ <;> simp[zc,int]
 .intro x hx
  refine zcx (m:=x.1) hx.1 ?_
  have hC:=J x.2.1 (λp=>by rw[hx.1.kids p,hx.2,List.take_length])
  generalize x.2.1=L at hC;refine w8 mixed 4 {n:=46,next:=7,slots:=[(1,.d (int id)),(10,.bp 5 0),(11,.bp 6 0)],own:=[(3,.box 182 [.d (.mp (gj L))]),(5,.box 31 [.nils]),(6,.box 183 [.fn 115 [.bp 3 0,.bp 5 0,.bp 6 0]])],moved:=zK L} rfl ?_ ?_
  .simp+decide[yp,Y5,int,-Weak]
   refine zh hG ?_
   simp+decide[getD',Nt.row,int]
  simp only[yK];refine G8 (id:=5) (e:=3) (sz:=1) rfl ?_
  refine zL mixed ?_
  have I:=hC [] (by rw[List.nil_append];omega)
  rw[List.nil_append] at I;generalize yQ d.notes f id=R at *;simp+decide[int];refine zG.mut [3,5,6,7] [.d (int id),.bp 0 0,.bp 1 0,.bp 2 0] (vM L []) (by rfl) (by simp[int]) (by simp[Sym.los,Sym.lo]) (by simp[vM,int];rfl) I ?_
  simp+decide[int,vM];refine zG.Qf (by rfl) hS ?_
  simp+decide
theorem zaa{P:Program}{f:Nat}{ds:List D}{s:Sym}{k T sz nx:Nat}{rows:List (List D)}{mv:List Nat}{r:D}(h:zI P f (ds.map .d) [] 0 s nx [(k,.arr T sz rows)] mv)(J:∀ w E β v,Sm w E β (thaw k (.sl rows) s) v->R w E r v):zl P f ds r:=by
 refine⟨h.1,λw E vs L M=>?_⟩
 have O:Mods E (.of w) (yP [] 0 0 []) (λ_=>.pointer none) qU w:=
  ⟨⟨λb Q hmay=>hmay.elim (λh=>by have:w.heap.size<=b:=h;have:=L.1 b Q;omega) (λh=>h),L.2.over (Over.less λb h=>h.elim id False.elim)⟩,⟨Nat.le_refl _,λ_ _ _=>rfl⟩,λ_=>rfl,rfl,rfl,Kept.refl _,by simp[yP],by simp[yP],by simp[yP],by intro t s J;simp[yP,zc] at J⟩
 have G:Over w E w (Ex E (λ_=>Value.pointer none) []):=Over.less λb Q=>Q.elim id λ⟨_,_,V,_⟩=>by cases V
 refine(h.2 E (.of w) _ w vs rfl O (zg.uI (zF.over G _ _ M))).mono λe w' X=>?_
 obtain⟨β',v,rfl,H,F,hs⟩:=X
 let st1:St:={n:=1,next:=nx,slots:=[(0,s)],own:=[(k,.arr T sz rows)],moved:=mv}
 have m1:Mods E (.of w) st1 β' {tmps:=#[v],defers:=[]} w':=by
  refine⟨H.outer,H.still,H.one,rfl,rfl,H.below,H.keys,H.own,H.apart,λt s' hs'=>?_⟩
  simp only[st1,zc] at hs';split at hs'
  .rename_i e;subst e;cases hs';exact⟨F,by simpa using hs⟩
  .cases hs'
 have m2:=m1.vt k
 have K:st1.look k=some (.arr T sz rows):=by simp[st1,St.look,zc]
 unfold St.vt at m2
 rw[K] at m2
 have Y:=(m2.slots 0 (thaw k (.sl rows) s) (by simp[st1,u7,zc])).2
 have Z:R w' (Ex E β' (xY k (.sl rows) st1.own)) r v:=J _ _ _ _ (by simpa using Y)
 exact⟨v,rfl,H.below.below,Z.over (Over.less λb Q=>Or.inl Q) _ _⟩
theorem zab{P:Program}{f:Nat}{ds:List D}{s:Sym}{k T sz nx:Nat}{rows:List (List D)}{mv:List Nat}{x y:D}(h:zI P f (ds.map .d) [] 0 s nx [(k,.arr T sz rows)] mv)(H:thaw k (.sl rows) s = .tup [.d x,.d y]):zl P f ds (.tup [x,y]):=
 zaa h λw E β v hv=>by
  rw[H] at hv;simp only[Sm,zg] at hv;simp only[R,zF];simpa using hv
def jd(d:Dc)(m:Int):List Int:=m::qp (yQ d.notes d.tiers.length m)
def X0(d:Dc)(w:Int):List Int:=(zN d w 3).flatMap (jd d)
def QU(d:Dc)(w:Int)(n:Nt):Bool:=decide (n.id∈X0 d w)
def zM(d:Dc)(w:Int):List Nt:=d.notes.filter λn=>!QU d w n
def xr(d:Dc)(w:Int):Dc:={d with notes:=zM d w}
theorem G9{d:Dc}(h:Rgt d){w r m:Int}(H:m∈zN d w r):∃ n∈d.notes,n.id=m/\n.tier=zw d.tiers r/\n.par=w:=by
 unfold zN yc yk at H
 obtain⟨n,G,rfl⟩:=List.mem_map.1 H
 have G:=List.mem_filter.1 ((gd _).mem_iff.1 G)
 have F:=G.2
 unfold yq at F
 simp only[Bool.and_eq_true,decide_eq_true_eq] at F
 exact⟨n,G.1,rfl,F.1.1.1,F.1.1.2⟩
theorem EV{d:Dc}(h:Rgt d){n:Nt}(H:n∈d.notes):(yQ d.notes d.tiers.length n.id).length<=300:=by
 have:=(h.nok n H).t0
 exact Nat.le_trans (zls h H (by omega)) h.few
theorem zgu{d:Dc}(h:Rgt d){w m:Int}(H:m∈zN d w 3):(jd d m).length<=301:=by
 obtain⟨n,G,rfl,_⟩:=G9 h H
 unfold jd
 rw[List.length_cons,G7]
 have:=EV h G
 omega
theorem EW{d:Dc}(h:Rgt d){w:Int}:∀ l:List Int,(∀ m∈l,m∈zN d w 3)->(l.flatMap (jd d)).length<=301*l.length
 | [],_=>Nat.le_refl _
 |m::l,H=>by
  have G:=zgu h (H m List.mem_cons_self);have F:=EW h l λm E=>H m (List.mem_cons_of_mem _ E)
  simp only[List.flatMap_cons,List.length_append,List.length_cons];omega
abbrev X1(l:List Int):List (List D):=l.map λn=>[int n]
theorem zeo{d:Dc}(H:d.notes.length<2^40)(G:d.tiers.length<2^40)(w:Int)(F:yw d=false):zl Tryz.prog 22 [zv d,int w] (.tup [zv ⟨0,.empty,0,0,[],[],[]⟩,int 14]):=by
 refine zp mixed Tryz.func22 rfl c_22 ?_
 have E:=Y3 d (by omega)
 rw[F] at E
 simp+decide[Tryz.f22,zv,Dc.row,int]
 refine zh E ?_
 simp+decide
 exact⟨rfl,rfl,rfl⟩
theorem zep{d:Dc}(H:d.notes.length<2^40)(G:d.tiers.length<2^40)(w:Int)(F:yw d=true)(E:yy d w=false):zl Tryz.prog 22 [zv d,int w] (.tup [zv ⟨0,.empty,0,0,[],[],[]⟩,int 9]):=by
 refine zp mixed Tryz.func22 rfl c_22 ?_
 have K:=Y3 d (by omega)
 have J:=G2 d w (by omega) (by omega)
 rw[F] at K
 rw[E] at J
 simp+decide[Tryz.f22,zv,Dc.row,int]
 refine zh K ?_
 simp+decide
 refine zh J ?_
 simp+decide[Nt.row,int]
 exact⟨rfl,rfl,rfl⟩
abbrev zeroCells:List Sym:=[.d (int 0),.d (.str ⟨#[]⟩),.d (int 0),.d (int 0),.nils,.nils,.nils]
def xu(d:Dc)(w:Int)(ks:List Int)(x:Nat×List Int):St:=
 {n:=67,next:=4,slots:=[(1,.d (int w)),(2,.bp 0 0),(4,.bp 1 0),(8,.ar 3),(32,.d (ints ks)),(33,.d (int ks.length)),(34,.d (int x.1))],own:=[(0,.box 53 (ya d)),(1,.box 53 zeroCells),(3,.arr 3 1 (X1 x.2))],moved:=[3]}
def qq(d:Dc)(w:Int)(ks:List Int)(k:Nat)(G:List Int)(m:Int):St:=
 {xu d w ks (k,G) with slots:=(10,.d (int m))::(xu d w ks (k,G)).slots}
theorem EX{d:Dc}(h:Rgt d)(w:Int)(hr:yw d=true)(hw:yy d w=true)(hc:Fw d):
  zI Tryz.prog 22 [.d (zv d),.d (int w)] [] 0 (.tup [.agg [.d (int d.id),.d (.str d.name),.d (int d.len),.d (int d.day),.d (ints d.spk),.d (zH d.tiers),.ar 4],.d (int 0)]) 6 [(4,.arr 72 7 ((zM d w).map Nt.row))] [3,4]:=by
 have Q:=h.few
 have T:=YW h
 have M:=Y3 d (by omega)
 have hg:=G2 d w (by omega) (by omega)
 have V:=Y2 d (by omega)
 have hk:=ZZ d w (zw d.tiers 3) hc
 have Y:=QL d w 3 hc
 rw[show yc (yk d w (zw d.tiers 3))=zN d w 3 from rfl] at hk
 rw[hr] at M
 rw[hw] at hg
 refine xW mixed Tryz.func22 rfl c_22 (by simp[Sym.los,Sym.lo]) ?_
 simp+decide[Tryz.f22,zv,Dc.row,int]
 refine zh M ?_
 simp+decide
 refine zh hg ?_
 simp+decide[Nt.row,int]
 refine scp V ?_
 simp+decide[wZ,int]
 refine zec (by rfl) (by rfl) hk ?_
 have hU:∀ m∈zN d w 3,zl Tryz.prog 59 [zv d,int m] (ints (qp (yQ d.notes d.tiers.length m))):=by
  intro m hm;obtain⟨n,hn,e,_⟩:=G9 h hm;have:=(h.nok n hn).t0
  have:=EV h hn
  rw[<-e];exact zjs d h (by omega) n hn _ (by omega) (by omega)
 have K:=λl hl=>EW h (w:=w) l hl
 have J:zM d w=d.notes.filter λn=>!decide (n.id∈(zN d w 3).flatMap (jd d)):=rfl
 generalize zM d w=C at J ⊢
 generalize zN d w 3=ks at Y hU K J
 simp+decide[ints]
 refine xn mixed (λk:Nat=>xu d w ks (k,(ks.take k).flatMap (jd d))) (λk=>k<=ks.length) (λk=>ks.length-k) 0 (Nat.zero_le _) ?_ ?_
 .simp+decide[xu,int,ints]
 intro k hk
 by_cases H:k<ks.length
 case neg=>
  have:k=ks.length:=by omega
  subst this;rw[List.take_length];refine zL mixed ?_
  have Z:=K ks λm hm=>hm
  generalize ks.flatMap (jd d)=G at Z J;subst J;simp+decide[xu,int,zy];refine xn mixed (λk:Nat=>{n:=67,next:=5,slots:=[(2,.bp 0 0),(4,.bp 1 0),(8,.ar 3),(11,.ar 4),(48,.d (zy d.notes)),(49,.d (int d.notes.length)),(50,.d (int k))],own:=[(0,.box 53 (ya d)),(1,.box 53 zeroCells),(3,.arr 3 1 (X1 G)),(4,.arr 72 7 (((d.notes.take k).filter λn=>!decide (n.id∈G)).map Nt.row))],moved:=[3,4]})
   (λk=>k<=d.notes.length) (λk=>d.notes.length-k) 0 (Nat.zero_le _) ?_ ?_
  .simp+decide[int,zy]
  intro k hk;refine zL mixed ?_
  by_cases H:k<d.notes.length
  case neg=>
   have:k=d.notes.length:=by omega
   subst this;rw[List.take_length];simp+decide[int,zy];exact rfl
  have E:(k:Int)<d.notes.length:=by omega
  obtain⟨n,en⟩:∃ n,d.notes[k]=n:=⟨_,rfl⟩;have e1:d.notes[k]?=some n:=by rw[List.getElem?_eq_getElem H,en]
  have hH:=CQ G n.id (by omega)
  have hsn:(d.notes.take (k+1)).filter (λn=>!decide (n.id∈G))=(d.notes.take k).filter (λn=>!decide (n.id∈G))++(if n.id∈G then [] else [n]):=by
   rw[List.take_succ_eq_append_getElem H,List.filter_append,en];by_cases e:n.id∈G <;> simp[e]
  have A:((d.notes.take k).filter λn=>!decide (n.id∈G)).length<=k:=Nat.le_trans (List.length_filter_le _ _) (by rw[List.length_take];exact Nat.min_le_left _ _)
  generalize (d.notes.take k).filter (λn=>!decide (n.id∈G))=F at hsn A
  simp+decide[int,zy,Nt.row,H,E,en];refine zh hH ?_
  by_cases hg:n.id∈G
  .rw[if_pos hg,List.append_nil] at hsn
   simp+decide[I64,hg];exact⟨⟨by omega,by omega⟩,k+1,H,by omega,by omega,by rw[hsn]⟩
  .rw[if_neg hg] at hsn
   simp+decide[int,I64,hg,maxLen];exact⟨by omega,by omega,⟨by omega,by omega⟩,k+1,H,by omega,by omega,by rw[hsn];simp[Nt.row,int]⟩
 have E:(k:Int)<ks.length:=by omega
 obtain⟨m,em⟩:∃ m,ks[k]=m:=⟨_,rfl⟩
 have em1:ks[k]?=some m:=by rw[List.getElem?_eq_getElem H,em]
 have O:m∈ks:=by rw[<-em];exact List.getElem_mem H
 have hsn:(ks.take (k+1)).flatMap (jd d)=(ks.take k).flatMap (jd d)++jd d m:=by
  rw[List.take_succ_eq_append_getElem H,List.flatMap_append,em];simp
 have B:((ks.take k).flatMap (jd d)).length<=301*20:=by
  have:=K (ks.take k) λm hm=>List.mem_of_mem_take hm
  rw[List.length_take] at this;omega
 have L:=K [m] (by simpa using O)
 simp only[List.flatMap_cons,List.flatMap_nil,List.append_nil,List.length_cons,List.length_nil] at L
 have I:=hU m O
 generalize (ks.take k).flatMap (jd d)=G at hsn B
 refine w8 mixed 2 (xu d w ks (k,G)) rfl ?_ ?_
 .simp+decide[yp,xu,int,ints,E]
 simp only[yK]
 refine VV (xu d w ks (k,G++jd d m)) ?_ ?_
 .refine YC (VV (qq d w ks k G m) ?_ ?_)
  .refine zL mixed ?_
   simp+decide[xu,qq,int,ints,H,E,em]
  .obtain⟨S,hS⟩:∃ S:St,S = {qq d w ks k G m with slots:=(38,.ar 3)::(39,.d (int m))::(40,.d (.sl [[int m]]))::(42,.d (zv d))::(43,.d (int m))::(qq d w ks k G m).slots}:=⟨_,rfl⟩
   refine DX mixed 6 3 S ((S.renew 3 (.arr 3 1 (X1 (G++[m])))).put (some 41) (.ar 3)) 41 (.ar 3) (zA 3) (λst=>(st.renew 3 (.arr 3 1 (X1 (G++[m])))).put (some 41) (.ar 3)) _ (by rfl) (by rfl) (by rfl) (by rfl) (by rfl) rfl rfl rfl ?_ (R2 S 3 41 _) ?_ ?_ ?_
   .intro X w0 β a w hm
    subst hS;refine⟨rfl,rfl,rfl,rfl,rfl,λt s hs hj hL=>?_⟩
    simp only[zc] at hs;split at hs
    .rename_i e;exact(hL 0 _ (by omega) rfl (congrArg some e)).elim
    split at hs
    .rename_i e;exact(hL 1 _ (by omega) rfl (congrArg some e)).elim
    split at hs
    .rename_i e;exact(hL 2 _ (by omega) rfl (congrArg some e)).elim
    split at hs
    .rename_i e;exact(hL 4 _ (by omega) rfl (congrArg some e)).elim
    split at hs
    .rename_i e;exact(hL 5 _ (by omega) rfl (congrArg some e)).elim
    exact hs
   .intro i o hi H2 ho
    have:i=0\/i=1\/i=2\/i=4\/i=5:=by omega
    rcases this with rfl | rfl | rfl | rfl | rfl <;> simp only[List.getElem?_cons_zero,List.getElem?_cons_succ,Option.some.injEq] at ho <;> subst ho
    .refine qx (s:=.ar 3) rfl rfl (by subst hS;simp[qq,xu]) (by subst hS;simp[Sym.lo,qq,xu]) ⟨by rfl,?_⟩ (by subst hS;simp[zc]) (.inl ⟨5,by rfl⟩)
     subst hS;simp+decide[qq,xu,zc,St.val]
    .refine qx (s:=.d (int m)) rfl rfl (by subst hS;simp[qq,xu]) (by subst hS;simp[Sym.lo]) ⟨by rfl,?_⟩ (by subst hS;simp[zc]) (.inl ⟨5,by rfl⟩)
     subst hS;simp+decide[qq,xu,zc,St.val]
    .refine qx (s:=.d (.sl [[int m]])) rfl rfl (by subst hS;simp[qq,xu]) (by subst hS;simp[Sym.lo]) ⟨by rfl,?_⟩ (by subst hS;simp[zc]) (.inl ⟨5,by rfl⟩)
     subst hS;simp+decide[qq,xu,zc,St.val,int]
    .refine qx (s:=.d (zv d)) rfl rfl (by subst hS;simp[qq,xu]) (by subst hS;simp[Sym.lo]) ⟨by rfl,?_⟩ (by subst hS;simp[zc]) (.inr ⟨by subst hS;simp[St.put,St.renew,qq,xu],by subst hS;simp[Sym.lo],⟨by rfl,?_⟩,by subst hS;simp[zc,St.put,St.renew,xg,zA,qq,xu]⟩)
     .subst hS;simp+decide[qq,xu,zc,St.val,St.look,zv,Dc.row]
     .subst hS;simp+decide[qq,xu,zc,St.val,St.look,St.put,St.renew,xM,xZ,yE,zA,xg,zv,Dc.row]
    .refine qx (s:=.d (int m)) rfl rfl (by subst hS;simp[qq,xu]) (by subst hS;simp[Sym.lo]) ⟨by rfl,?_⟩ (by subst hS;simp[zc]) (.inr ⟨by subst hS;simp[St.put,St.renew,qq,xu],by subst hS;simp[Sym.lo],⟨by rfl,?_⟩,by subst hS;simp[zc,St.put,St.renew,xg,zA,qq,xu]⟩)
     .subst hS;simp+decide[qq,xu,zc,St.val]
     .subst hS;simp+decide[qq,xu,zc,St.val,St.put,St.renew,zA,xg]
   .intro X w0 L' st hN hk β a w hm
    have N:zc st.slots 38=some (.ar 3):=hk 38 (by simp[tmpsOf,Op.operands,Call.operands]) (.ar 3) (by subst hS;simp[zc]) (by simp)
    have P:zc st.slots 40=some (.d (.sl [[int m]])):=hk 40 (by simp[tmpsOf,Op.operands,Call.operands]) (.d (.sl [[int m]])) (by subst hS;simp[zc]) (by simp)
    have W:zc st.own 3=some (.arr 3 1 (X1 G)):=by rw[hN.own];subst hS;simp[qq,xu,zc]
    have H0:st.n=67:=by rw[hN.n];subst hS;rfl
    refine j5 hm ?_
    simp+decide[yr,H0,N,P,W,int,maxLen];exact⟨by omega,by omega,rfl⟩
   .refine VZ (by simp) rfl (λi h1 h2=>?_) ?_
    .have:i=7\/i=8:=by simp at h2;omega
     rcases this with rfl | rfl <;> rfl
    subst hS;simp+decide[qq,xu,int];refine zh I ?_
    have H1:jd d m=m::qp (yQ d.notes d.tiers.length m):=rfl
    rw[H1] at L ⊢;rw[List.length_cons] at L;generalize qp (yQ d.notes d.tiers.length m)=R at *;simp+decide[int,ints,maxLen];exact⟨by omega,by omega⟩
 .refine zL mixed ?_
  simp+decide[xu,int,ints,I64];exact⟨⟨by omega,by omega⟩,k+1,H,by omega,by omega,by rw[hsn];simp[int]⟩
theorem zjt{d:Dc}(h:Rgt d)(w:Int)(H:yw d=true)(G:yy d w=true)(F:Fw d):
  zl Tryz.prog 22 [zv d,int w] (.tup [zv (xr d w),int 0]):=
 zab (ds:=[zv d,int w]) (EX h w H G F) (by simp[thaw,xT,ko,zv,Dc.row,xr,zy])
theorem uA{a b:Dc}:a=b↔a.id=b.id/\a.name=b.name/\a.len=b.len/\a.day=b.day/\a.spk=b.spk/\a.tiers=b.tiers/\a.notes=b.notes:=by cases a;cases b;simp
theorem zeq(a b:Dc)(F:b.fit):zl Tryz.prog 24 [zv a,zv b] (.bool (decide (a=b))):=by
 obtain⟨f1,f2,f3⟩:=F
 refine zp mixed Tryz.func24 rfl c_24 ?_
 simp+decide[Tryz.f24,zv,Dc.row]
 refine KI mixed 8 [] (by rfl) (by rfl) (by rfl) (by rfl) ?_
 simp+decide[int]
 refine⟨by rfl,?_⟩
 by_cases E:a.id=b.id
 case neg=>simp+decide[E,uA]
 by_cases K:a.name=b.name
 case neg=>simp+decide[E,K,uA]
 by_cases J:a.len=b.len
 case neg=>simp+decide[E,K,J,uA]
 by_cases L:a.day=b.day
 case neg=>simp+decide[E,K,J,L,uA]
 simp+decide[E,K,J,L]
 refine zh (TA a.spk b.spk (by omega)) ?_
 by_cases M:a.spk=b.spk
 case neg=>simp+decide[M,uA]
 by_cases l2:a.tiers.length=b.tiers.length
 case neg=>
  have:¬a.tiers=b.tiers:=λe=>l2 (by rw[e])
  have l2':¬(a.tiers.length:Int)=b.tiers.length:=by omega
  simp+decide[M,uA,this,l2',zH,zy]
 by_cases l3:a.notes.length=b.notes.length
 case neg=>
  have:¬a.notes=b.notes:=λe=>l3 (by rw[e])
  have l3':¬(a.notes.length:Int)=b.notes.length:=by omega
  simp+decide[M,uA,this,l2,l3',zH,zy]
 simp+decide[M,l2,l3,zH,zy]
 refine zu mixed (λk:Nat=>{n:=99,next:=2,slots:=[(2,.bp 0 0),(3,.bp 1 0),(7,.d (.int .i64 k))],own:=[(0,.box 53 (ya a)),(1,.box 53 (ya b))]})
  (λk=>k<=a.tiers.length/\a.tiers.take k=b.tiers.take k) (λk=>a.tiers.length-k) 0 (by simp) (by simp+decide[zH,zy,M,E,K,J,L,int]) ?_
 intro k ⟨O,Q⟩
 by_cases G:k<a.tiers.length
 .have e1:a.tiers[k]?=some a.tiers[k]:=List.getElem?_eq_getElem G
  have e2:b.tiers[k]?=some (b.tiers[k]'(by omega)):=List.getElem?_eq_getElem (by omega)
  have H:k<b.tiers.length:=by omega
  simp+decide[zH,Tir.row,int,G,H,I64];refine⟨λhne e=>?_,λg1 g2 g3 g4=>⟨by omega,k+1,⟨G,?_⟩,by omega,by omega⟩⟩
  .rw[uA] at e
   obtain⟨_,_,_,_,_,e,_⟩:=e;simp[e] at hne
  .have T:a.tiers[k]=b.tiers[k]:=by
    rcases V:a.tiers[k] with⟨x1,x2,x3,x4⟩;rcases X:b.tiers[k] with⟨y1,y2,y3,y4⟩;rw[V,X] at g1 g2 g3 g4;simp only at g1 g2 g3 g4
    rw[g1,g2,g3,g4]
   rw[take_snoc' G,take_snoc' H,Q,T]
 .have:k=a.tiers.length:=by omega
  subst this;have Y:a.tiers=b.tiers:=by rw[List.take_length,l2,List.take_length] at Q;exact Q
  simp+decide[zH,zy];refine zu mixed (λk:Nat=>{n:=99,next:=2,slots:=[(2,.bp 0 0),(3,.bp 1 0),(8,.d (.int .i64 k))],own:=[(0,.box 53 (ya a)),(1,.box 53 (ya b))]})
   (λk=>k<=a.notes.length/\a.notes.take k=b.notes.take k) (λk=>a.notes.length-k) 0 (by simp) (by simp+decide) ?_
  intro k ⟨O,Q⟩;by_cases G:k<a.notes.length
  .have e1:a.notes[k]?=some a.notes[k]:=List.getElem?_eq_getElem G
   have e2:b.notes[k]?=some (b.notes[k]'(by omega)):=List.getElem?_eq_getElem (by omega)
   have H:k<b.notes.length:=by omega
   simp+decide[zy,Nt.row,int,G,H,I64];refine⟨λhne e=>?_,λg1 g2 g3 g4 g5 g6 g7=>⟨by omega,k+1,⟨G,?_⟩,by omega,by omega⟩⟩
   .rw[uA] at e
    obtain⟨_,_,_,_,_,_,e⟩:=e;simp[e] at hne
   .have T:a.notes[k]=b.notes[k]:=by
     rcases V:a.notes[k] with⟨x1,x2,x3,x4,x5,x6,x7⟩;rcases X:b.notes[k] with⟨y1,y2,y3,y4,y5,y6,y7⟩;rw[V,X] at g1 g2 g3 g4 g5 g6 g7;simp only at g1 g2 g3 g4 g5 g6 g7
     rw[g1,g2,g3,g4,g5,g6,g7]
    rw[take_snoc' G,take_snoc' H,Q,T]
  .have:k=a.notes.length:=by omega
   subst this;have Z:a.notes=b.notes:=by rw[List.take_length,l3,List.take_length] at Q;exact Q
   simp+decide[zy,uA,M,E,K,J,L,Y,Z]
theorem zgv{d:Dc}(h:Rgt d){w r:Int}{c:Nt}(H:c∈d.notes)(G:c.tier=zw d.tiers r)(F:c.par=w):c.id∈zN d w r:=by
 unfold zN yc yk
 refine List.mem_map.2 ⟨c,(gd _).mem_iff.2 (List.mem_filter.2 ⟨H,?_⟩),rfl⟩
 have t0:=(h.nok c H).t0
 have t1:=(h.nok c H).t1
 rw[G] at t0 t1
 simp[yq,G,F,t0,t1]
theorem gk{d:Dc}(h:Rgt d){w:Int}{n:Nt}(E:n∈d.notes):n.id∈X0 d w↔∃ c∈qd d n,c.tier=zw d.tiers 3/\c.par=w:=by
 unfold X0
 rw[List.mem_flatMap]
 constructor
 .rintro⟨m,K,J⟩
  obtain⟨c,L,rfl,q1,q2⟩:=G9 h K;have t0:=(h.nok c L).t0;refine⟨c,?_,q1,q2⟩
  unfold jd at J;rcases List.mem_cons.1 J with e | J
  .obtain rfl:=QJ h E L e
   exact QN h E
  .have J:=(QR _).mem_iff.1 J
   obtain⟨m',G,e,F⟩:=(QP h d.tiers.length c L (by omega) n.id).1 J
   obtain rfl:=QJ h G E e;rw[(xi h G).1];exact List.mem_cons_of_mem _ F
 .rintro⟨c,L,q1,q2⟩
  have H:=G5 h E L;have t0:=(h.nok c H).t0;refine⟨c.id,zgv h H q1 q2,?_⟩
  unfold jd;rw[(xi h E).1] at L;rcases List.mem_cons.1 L with rfl | L
  .exact List.mem_cons_self
  .exact List.mem_cons_of_mem _ ((QR _).mem_iff.2 ((QP h d.tiers.length c H (by omega) n.id).2 ⟨n,E,rfl,L⟩))
def kN:Dc:=⟨0,.empty,0,0,[],[],[]⟩
def je(d:Dc)(w:Int):Dc×Int:=if yw d=false then (kN,14) else if yy d w=false then (kN,9) else (xr d w,0)
theorem EY{d:Dc}(h:Rgt d)(w:Int)(H:Fw d):zl Tryz.prog 22 [zv d,int w] (.tup [zv (je d w).1,int (je d w).2]):=by
 have:=h.few
 have:=YW h
 unfold je
 cases G:yw d with
 |false=>rw[if_pos rfl];exact zeo (by omega) (by omega) w G
 |true=>
  rw[if_neg (by decide)]
  cases F:yy d w with
  |false=>rw[if_pos rfl];exact zep (by omega) (by omega) w G F
  |true=>rw[if_neg (by decide)];exact zjt h w G F H
end Go.V.Doc
namespace Go.V.Doc
open Go Go.Proofs Go.Sort Go.RowKit
section
variable [Dr]
def Y6(a b:Nt):Int:=xO a.id b.id
theorem zju(a b:Nt):zl Tryz.prog 66 [.agg a.row,.agg b.row] (int (Y6 a b)):=by
 refine zp mixed Tryz.func66 rfl c_66 ?_
 simp+decide[Tryz.f66,Nt.row,int]
 refine zh (gX a.id b.id) ?_
 simp+decide[Y6,int]
theorem zlx{blk off size:Nat}{w:World}{E:Nat->Prop}(H:Seen w E)(G:E blk):Go.Proofs.CmpLays Tryz.prog 66 #[] Nt.enc 7 Y6 blk off size w:=by
 let d:Dr:=⟨true⟩
 exact @Nj d _ _ _ _ _ _ _ rfl _ _ Z4 (λx y=>@zju d x y) _ _ _ _ _ H G
end
def kO:Nt->Nt->Bool:=ltOf Y6
theorem zgw:∀ args w,(callFunc 66 args).run Tryz.prog w = .ok (.enter 66 args) w:=enters_of Tryz.func66 (by kernel_rfl) rfl
end Go.V.Doc

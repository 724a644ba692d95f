/- Contracts and plain laws of this seat: part MC. It needs no conditions. -/
import Derived.Test.YtknekjalbninmaaGreatMB
import Derived.Test.YtknekjalbninmaaGreatMA
import Derived.Test.YtknekjalbninmaaGreatW1
import Derived.Test.YtknekjalbninmaaGreatW3
import Derived.Test.YtknekjalbninmaaGreatS1
import Derived.Test.YtknekjalbninmaaGreatSn
set_option maxHeartbeats 32000000
set_option linter.unusedVariables false
set_option linter.unusedSimpArgs false
set_option linter.unusedSectionVars false
set_option maxRecDepth 100000
namespace Go.V.Doc
open Go Go.Proofs Go.Sort Go.RowKit
theorem Ux(l:List Nt):PermIn 0 l.length l.toArray (qY l).toArray/\SortedIn qm 0 l.length (qY l).toArray:=by
 have:=insertionSort_holds Cz l.toArray 0 l.length (Nat.zero_le _) (by simp)
 rw[Cx] at this
 exact this
theorem Qv(l:List Nt):(qY l).length=l.length:=by
 have:=(Ux l).1.1
 simpa using this
theorem uQ(l:List Nt):(qY l).Perm l:=by
 obtain⟨H,_,G⟩:=(Ux l).1
 have F:=Qv l
 have e1:(qY l).toArray.extract 0 l.length=(qY l).toArray:=by rw[show l.length=(qY l).toArray.size by simp[F]];simp
 have e2:l.toArray.extract 0 l.length=l.toArray:=by rw[show l.length=l.toArray.size by simp];simp
 rw[e1,e2] at G
 simpa using G
theorem Be(l:List Nt):(qY l).Pairwise λa b=>qm b a=false:=by
 have hs:=(Ux l).2
 have G:=Qv l
 rw[List.pairwise_iff_getElem]
 intro i j hi hj H
 have:=hs i j (Nat.zero_le _) H (by omega)
 simpa[getElem!_pos,hi,hj] using this
theorem Sc(l:List Nt)(H:l.length<2^62):
  zJ Tryz.prog 172 [.ar 0,.d (int 0),.d (int l.length),.fn 113 []] [(0,.arr 72 7 (l.map Nt.row))] 1 (.d (.tup [])) 1 [(0,.arr 72 7 ((qY l).map Nt.row))] []:=by
 cases l with
 |nil=>
  have:qY []=[]:=List.eq_nil_of_length_eq_zero (Qv [])
  rw[this];exact(zJ.unit Rw)
 |cons a r=>exact Ru 72 (a::r) (by simp) (by omega) (Qv _)
theorem Se(l:List Nt)(F:l.length<20):
  zJ Tryz.prog 165 [.ar 0,.d (int l.length),.fn 113 []] [(0,.arr 72 7 (l.map Nt.row))] 1 (.d (.tup [])) 1 [(0,.arr 72 7 ((qY l).map Nt.row))] []:=by
 refine zJ.unit (xW mixed Tryz.func165 rfl c_165 (by simp[Sym.los,Sym.lo]) ?_)
 have G:¬(20:Int)<=l.length:=by omega
 have H:¬(20:Int)<l.length:=by omega
 simp+decide[Tryz.f165,int]
 refine zr mixed (λ_:Unit=>{n:=63,next:=1,slots:=[(0,.ar 0),(1,.d (int l.length)),(2,.fn 113 []),(6,.d (int 20)),(7,.d (int 0)),(8,.d (int 20))],own:=[(0,.arr 72 7 (l.map Nt.row))],base:=1})
  (λ_=>True) (λ_=>0) () trivial (by simp+decide[int]) ?_
 intro _ _
 simp+decide[int,G]
 refine zF.mut [0] [.ar 0,.d (int 0),.d (int l.length),.fn 113 []] [(0,.arr 72 7 (l.map Nt.row))] (by rfl) (by simp[int]) (by simp) (by simp) (Sc l (by omega)) ?_
 simp+decide
 refine zr mixed (λ_:Unit=>{n:=63,next:=1,slots:=[(1,.d (int l.length)),(6,.d (int 20))],own:=[(0,.arr 72 7 ((qY l).map Nt.row))],base:=1})
  (λ_=>True) (λ_=>0) () trivial (by simp+decide[int]) ?_
 intro _ _
 simp+decide[int,H]
theorem Sf(l:List Nt)(H:l.length<20):
  zJ Tryz.prog 112 [.ar 0,.fn 113 []] [(0,.arr 72 7 (l.map Nt.row))] 1 (.d (.tup [])) 1 [(0,.arr 72 7 ((qY l).map Nt.row))] []:=by
 refine zJ.unit (xW mixed Tryz.func112 rfl c_112 (by simp[Sym.los,Sym.lo]) ?_)
 simp+decide[Tryz.f112]
 refine zF.mut [0] [.ar 0,.d (int l.length),.fn 113 []] [(0,.arr 72 7 (l.map Nt.row))] (by rfl) (by simp[int]) (by simp) (by simp) (Se l H) ?_
 simp+decide
def ym(d:Dc)(id t:Int)(n:Nt):Bool:=decide (n.tier=t)&&decide (n.par=id)&&decide (0<=t)&&decide (t<d.tiers.length)
def yf(d:Dc)(id t:Int):List Nt:=qY (d.notes.filter (ym d id t))
def y6(l:List Nt):List Int:=l.map (·.id)
theorem Sg(d:Dc)(id t:Int)(L:d.notes.length<2^40)(K:(d.notes.filter (ym d id t)).length<20):
  uC Tryz.prog 53 [zw d,int id,int t] 3 1 ((y6 (yf d id t)).map λn=>[int n]):=by
 refine VB mixed Tryz.func53 rfl c_53 (by simp) ?_
 simp+decide[Tryz.f53,zw,Dc.row,int,ints,zK,zy]
 refine zr mixed (λk:Nat=>{n:=61,next:=3,slots:=[(1,.d (int id)),(2,.d (int t)),(3,.bp 0 0),(7,.ar 2),(14,.d (zy d.notes)),(15,.d (.int .i64 d.notes.length)),(16,.d (.int .i64 k))],own:=[(0,.box 53 (yh d)),(2,.arr 72 7 (((d.notes.take k).filter (ym d id t)).map Nt.row))],moved:=[2]})
  (λk=>k<=d.notes.length) (λk=>d.notes.length-k) 0 (by simp) (by simp+decide[int,ints,zK,zy]) ?_
 intro k M
 by_cases H:k<d.notes.length
 .have G:(k:Int)<d.notes.length:=by omega
  have e1:d.notes[k]?=some d.notes[k]:=List.getElem?_eq_getElem H
  have hsn:(d.notes.take (k+1)).filter (ym d id t)=(d.notes.take k).filter (ym d id t)++(if ym d id t d.notes[k]=true then [d.notes[k]] else []):=by
   rw[take_snoc' H,List.filter_append];by_cases h:ym d id t d.notes[k]=true <;> simp[h]
  have F:((d.notes.take k).filter (ym d id t)).length<=k:=Nat.le_trans (List.length_filter_le _ _) (by rw[List.length_take];omega)
  have no:ym d id t d.notes[k]=false->(d.notes.take (k+1)).filter (ym d id t)=(d.notes.take k).filter (ym d id t):=by
   intro h;rw[hsn,if_neg (by simp[h]),List.append_nil]
  by_cases O:d.notes[k].tier=t
  case neg=>
   have:=no (by simp[ym,O])
   simp+decide[zy,Nt.row,int,H,G,I64,O];exact⟨⟨by omega,by omega⟩,k+1,H,by omega,by omega,by rw[this]⟩
  by_cases Q:d.notes[k].par=id
  case neg=>
   have:=no (by simp[ym,Q])
   simp+decide[zy,Nt.row,int,H,G,I64,O,Q];exact⟨⟨by omega,by omega⟩,k+1,H,by omega,by omega,by rw[this]⟩
  by_cases T:0<=t
  case neg=>
   have:=no (by simp[ym,T])
   simp+decide[zy,Nt.row,int,H,G,I64,O,Q,T];exact⟨⟨by omega,by omega⟩,k+1,H,by omega,by omega,by rw[this]⟩
  by_cases V:t<d.tiers.length
  case neg=>
   have:=no (by simp[ym,V])
   simp+decide[zy,zK,Nt.row,int,H,G,I64,O,Q,T,V];exact⟨⟨by omega,by omega⟩,k+1,H,by omega,by omega,by rw[this]⟩
  have X:ym d id t d.notes[k]=true:=by simp[ym,O,Q,T,V]
  rw[if_pos X] at hsn;simp+decide[zy,zK,Nt.row,int,H,G,I64,O,Q,T,V];exact⟨by omega,by unfold maxLen;omega,⟨by omega,by omega⟩,k+1,H,by omega,by omega,by rw[hsn];simp[Nt.row,int,O,Q]⟩
 .have:k=d.notes.length:=by omega
  subst this;rw[List.take_length];have E:(d.notes.filter (ym d id t)).length<=d.notes.length:=List.length_filter_le _ _
  simp+decide[int];refine zF.mut [2] [.ar 0,.fn 113 []] [(0,.arr 72 7 ((d.notes.filter (ym d id t)).map Nt.row))] (by rfl) (by simp) (by simp) (by simp) (Sf _ (by omega)) ?_
  have J:=Qv (d.notes.filter (ym d id t));unfold yf;rw[<-J] at E;generalize qY (d.notes.filter (ym d id t))=s at E ⊢;simp+decide[int];refine zr mixed (λk:Nat=>{n:=61,next:=4,slots:=[(10,.ar 3),(48,.ar 2),(49,.d (.int .i64 s.length)),(50,.d (.int .i64 k))],own:=[(2,.arr 72 7 (s.map Nt.row)),(3,.arr 3 1 ((y6 (s.take k)).map λn=>[int n]))],moved:=[3,2]})
   (λk=>k<=s.length) (λk=>s.length-k) 0 (by simp) (by simp+decide[int,y6]) ?_
  intro k M;by_cases H:k<s.length
  .have G:(k:Int)<s.length:=by omega
   have e1:s[k]?=some s[k]:=List.getElem?_eq_getElem H
   have hsn:y6 (s.take (k+1))=y6 (s.take k)++[s[k].id]:=by unfold y6;rw[take_snoc' H,List.map_append];rfl
   have F:(y6 (s.take k)).length<=k:=by unfold y6;rw[List.length_map,List.length_take];omega
   simp+decide[Nt.row,int,H,G,I64];exact⟨by omega,by unfold maxLen;omega,⟨by omega,by omega⟩,k+1,H,by omega,by omega,by rw[hsn];simp⟩
  .have:k=s.length:=by omega
   subst this;rw[List.take_length];simp+decide[int]
theorem Jq:∀ l:List Int,D.scalars ((l.map λn=>[int n]).flatten)=true
 | []=>rfl
 |n::r=>by simp only[List.map_cons,List.flatten_cons,List.cons_append,List.nil_append,D.scalars,Jq r];rfl
theorem Si(d:Dc)(id t:Int)(G:d.notes.length<2^40)(H:(d.notes.filter (ym d id t)).length<20):kT Tryz.prog 53 [zw d,int id,int t] (ints (y6 (yf d id t))):=
 FY (Sg d id t G H) (Jq _)
structure Fw(d:Dc):Prop where
 n:d.notes.length<2^40
 k:∀ id t,(d.notes.filter (ym d id t)).length<20
theorem YH{d:Dc}(H:d.notes.length<20):Fw d:=⟨by omega,λ_ _=>Nat.lt_of_le_of_lt (List.length_filter_le _ _) H⟩
theorem ZN(d:Dc)(id t:Int)(h:Fw d):kT Tryz.prog 53 [zw d,int id,int t] (ints (y6 (yf d id t))):=Si d id t h.n (h.k id t)
end Go.V.Doc
namespace Go.V.Doc
open Go Go.Proofs
section
variable {d:Dc}
theorem Z3(d:Dc){t:Nat}(h:t<d.tiers.length):zu d (t:Int)=d.tiers[t]:=by unfold zu;rw[Int.toNat_natCast,List.getElem?_eq_getElem h];rfl
theorem Rgt.kinds(h:Rgt d){t:Nat}(H:t<d.tiers.length):0<=(zu d t).kind/\(zu d t).kind<=4:=by
 have G:=h.good.tiers t H
 rw[Z3 d H]
 unfold qx at G
 split at G
 .cases G
 .split at G
  .cases G
  .split at G
   .cases G
   .omega
theorem Rgt.up(h:Rgt d){t:Nat}(H:t<d.tiers.length)(G:(zu d t).kind≠0):0<=(zu d t).par/\(zu d t).par.toNat<t:=by
 rw[Z3 d H] at G ⊢
 have:=Us (h.good.tiers t H) G
 rw[List.length_take] at this
 omega
def inT(d:Dc)(t:Nat)(n:Nt):Prop:=n∈d.notes/\n.tier=t
theorem uR{t:Nat}{n:Nt}:n∈y7 d.notes t↔inT d t n:=by
 unfold y7 inT
 rw[List.mem_filter,decide_eq_true_eq]
def qz(d:Dc)(n:Nt):Nt:=(zp d.notes n.par).1
theorem Rgt.parent(h:Rgt d){t:Nat}{n:Nt}(H:inT d t n)(G:t<d.tiers.length)(F:(zu d t).kind≠0):inT d (zu d t).par.toNat (qz d n)/\(qz d n).id=n.par:=by
 have E:=(Qq (uO h.good H.1).place).2.1
 rw[H.2] at E
 obtain⟨K,J⟩:=E F
 have L:=uP K
 have M:=h.up G F
 exact⟨⟨L.1,by rw[qz,J];omega⟩,L.2⟩
theorem Rgt.root(h:Rgt d){t:Nat}{n:Nt}(H:inT d t n)(G:(zu d t).kind=0):n.par=0:=by
 have F:=(Qq (uO h.good H.1).place).1
 rw[H.2] at F
 exact F G
def uS(d:Dc)(t:Nat)(a b:Nt):Bool:=
 if a.par≠b.par then (if h:(zu d t).par.toNat<t then uS d (zu d t).par.toNat (qz d a) (qz d b) else false)
 else if zT (zu d t).kind=true then decide (a.fr<b.fr) else decide (a.rank<b.rank)
termination_by t
def vq(d:Dc)(t:Nat)(n:Nt):Int:=if zT (zu d t).kind=true then n.fr else n.rank
theorem jv{t:Nat}{a b:Nt}(h:a.par=b.par):uS d t a b=decide (vq d t a<vq d t b):=by
 rw[uS,if_neg (by simp[h])]
 unfold vq
 split <;> rfl
theorem kE{t:Nat}{a b:Nt}(h:a.par≠b.par)(H:(zu d t).par.toNat<t):uS d t a b=uS d (zu d t).par.toNat (qz d a) (qz d b):=by
 rw[uS,if_pos h,dif_pos H]
theorem Bf{s:List Nt}{i j:Nat}(H:i<j)(hj:j<s.length)(G:(gN s i).par=(gN s j).par):j5 s i<j5 s j:=by
 have hi:i<s.length:=by omega
 have F:(s.take (i+1)).Sublist (s.take j):=by
  have:s.take (i+1)=(s.take j).take (i+1):=by rw[List.take_take];congr 1;omega
  rw[this];exact List.take_sublist _ _
 have E:=(F.filter λn=>decide (n.par=(gN s j).par)).length_le
 rw[take_snoc' hi,List.filter_append,List.length_append] at E
 have:[s[i]].filter (λn=>decide (n.par=(gN s j).par))=[s[i]]:=by
  rw[List.filter_cons_of_pos (by rw[<-qo hi];simpa using G)];rfl
 rw[this] at E
 unfold j5
 rw[G]
 simp only[List.length_singleton] at E
 omega
theorem Rgt.keys(h:Rgt d){t:Nat}(A:t<d.tiers.length){a b:Nt}(B:inT d t a)(C:inT d t b)(I:a.par=b.par)(N:vq d t a=vq d t b):a=b:=by
 apply Classical.byContradiction
 intro L
 have M:=Uw.1 (h.ter t A)
 have E:=M.1 a (uR.2 B)
 have F:=M.2 a (uR.2 B)
 have K:a∈yc d.notes t a.par:=by unfold yc;rw[List.mem_filter];exact⟨B.1,by simp[B.2]⟩
 have J:b∈yc d.notes t a.par:=by unfold yc;rw[List.mem_filter];exact⟨C.1,by simp[C.2,I]⟩
 cases G:zT (zu d t).kind with
 |true=>
  unfold wA at E;rw[G,Bool.true_and,Un] at E;have X:=Qs (uO h.good B.1) (by rw[B.2];exact G)
  have Y:=Qs (uO h.good C.1) (by rw[C.2];exact G)
  simp only[yJ,Bool.and_eq_true,decide_eq_true_eq] at X Y;unfold vq at N;rw[if_pos G,if_pos G] at N;generalize yc d.notes t a.par=S at E K J;obtain⟨i,hi,rfl⟩:=List.mem_iff_getElem.1 K;obtain⟨j,hj,rfl⟩:=List.mem_iff_getElem.1 J;have T:=List.pairwise_iff_getElem.1 E;rcases Nat.lt_trichotomy i j with P | rfl | P
  .exact T i j hi hj P ⟨by omega,by omega⟩
  .exact L rfl
  .exact T j i hj hi P ⟨by omega,by omega⟩
 |false=>
  unfold vq at N;rw[G] at N;simp only[Bool.false_eq_true,if_false] at N;have Z:=h.kinds A;have k0:(zu d t).kind≠0:=by intro e;rw[e] at G;cases G
  have k1:(zu d t).kind≠1:=by intro e;rw[e] at G;cases G
  have k2:(zu d t).kind≠2:=by intro e;rw[e] at G;cases G
  by_cases k3:(zu d t).kind=3
  .have O:∀ n∈y7 d.notes t,jQ (yc d.notes t n.par)=true:=by
    intro n W;have:=M.2 n W
    rw[k3] at this;simpa[badR] using this
   have hs:=CX (y7 d.notes t);have H:=CB (y7 d.notes t);have hl:(xx (y7 d.notes t)).length<2^40:=by
    rw[Jj];have:(y7 d.notes t).length<=d.notes.length:=List.length_filter_le _ _
    have:=h.few
    omega
   have hz:∀ n∈xx (y7 d.notes t),n.fr=0:=by
    intro n W;have W:=uR.1 (H.mem_iff.1 W);exact(Ut (uO h.good W.1) (by rw[W.2];exact G)).1
   have V:=(B5 hs hl).1 ((B6 H hs hl hz).2 O);obtain⟨i,hi,ei⟩:=List.mem_iff_getElem.1 (H.mem_iff.2 (uR.2 B));obtain⟨j,hj,ej⟩:=List.mem_iff_getElem.1 (H.mem_iff.2 (uR.2 C));rw[<-qo hi] at ei;rw[<-qo hj] at ej;have r1:=V i hi;have r2:=V j hj;rw[ei] at r1;rw[ej] at r2;rcases Nat.lt_trichotomy i j with P | rfl | P
   .have:=Bf P hj (by rw[ei,ej,I]);omega
   .exact L (ei.symm.trans ej)
   .have:=Bf P hi (by rw[ei,ej,I]);omega
  .have k4:(zu d t).kind=4:=by omega
   have Q:¬1<(yc d.notes t a.par).length:=by
    rw[k4] at F;simp[badR] at F;omega
   generalize yc d.notes t a.par=S at Q K J;obtain⟨i,hi,rfl⟩:=List.mem_iff_getElem.1 K;obtain⟨j,hj,rfl⟩:=List.mem_iff_getElem.1 J;have:i=j:=by omega
   subst this;exact L rfl
structure Wgt(d:Dc):Prop where
 good:∀ j,(h:j<d.tiers.length)->qx (d.tiers.take j) d.tiers[j]=0
 few:d.notes.length<=300
 nok:∀ n∈d.notes,0<=n.tier/\n.tier<d.tiers.length
 inc:d.notes.Pairwise λa b=>a.id<b.id
 par:∀ (t:Nat),t<d.tiers.length->(zu d t).kind≠0->∀ n,inT d t n->inT d (zu d t).par.toNat (qz d n)/\(qz d n).id=n.par
 top:∀ (t:Nat) n,inT d t n->(zu d t).kind=0->n.par=0
 flat:∀ (t:Nat) n,inT d t n->zT (zu d t).kind=false->n.fr=0
 key:∀ (t:Nat),t<d.tiers.length->∀ a b,inT d t a->inT d t b->a.par=b.par->vq d t a=vq d t b->a=b
theorem Rgt.w(h:Rgt d):Wgt d:=⟨h.good.tiers,h.few,λn G=>⟨(h.nok n G).t0,(h.nok n G).t1⟩,h.inc,λt F E n G=>h.parent G F E,λt n G E=>h.root G E,
 λt n G H=>(Ut (uO h.good G.1) (by rw[G.2];exact H)).1,λt F a b K J L E=>h.keys F K J L E⟩
theorem Wgt.up(h:Wgt d){t:Nat}(H:t<d.tiers.length)(G:(zu d t).kind≠0):0<=(zu d t).par/\(zu d t).par.toNat<t:=by
 rw[Z3 d H] at G ⊢
 have:=Us (h.good t H) G
 rw[List.length_take] at this
 omega
theorem Wgt.parent(h:Wgt d){t:Nat}{n:Nt}(H:inT d t n)(G:t<d.tiers.length)(F:(zu d t).kind≠0):inT d (zu d t).par.toNat (qz d n)/\(qz d n).id=n.par:=h.par t G F n H
theorem Wgt.root(h:Wgt d){t:Nat}{n:Nt}(H:inT d t n)(G:(zu d t).kind=0):n.par=0:=h.top t n H G
theorem Wgt.keys(h:Wgt d){t:Nat}(H:t<d.tiers.length){a b:Nt}(G:inT d t a)(F:inT d t b)(E:a.par=b.par)(K:vq d t a=vq d t b):a=b:=h.key t H a b G F E K
theorem Wgt.uniq(h:Wgt d){a b:Nt}(H:a∈d.notes)(G:b∈d.notes)(e:a.id=b.id):a=b:=by
 obtain⟨i,hi,rfl⟩:=List.mem_iff_getElem.1 H
 obtain⟨j,hj,rfl⟩:=List.mem_iff_getElem.1 G
 have F:=List.pairwise_iff_getElem.1 h.inc
 rcases Nat.lt_trichotomy i j with E | rfl | E
 .have:=F i j hi hj E;omega
 .rfl
 .have:=F j i hj hi E;omega
structure Sto(R:Nt->Nt->Bool)(M:Nt->Prop):Prop where
 asym:∀ a b,M a->M b->R a b=true->R b a=true->False
 trans:∀ a b c,M a->M b->M c->R a b=true->R b c=true->R a c=true
 total:∀ a b,M a->M b->a≠b->R a b=true\/R b a=true
theorem Wgt.qA(h:Wgt d):∀ (t:Nat),t<d.tiers.length->Sto (uS d t) (inT d t):=by
 intro t
 induction t using Nat.strongRecOn with
 |_ t ih=>
  intro K;by_cases J:(zu d t).kind=0
  .have L:∀ a b,inT d t a->inT d t b->a.par=b.par:=λa b M O=>by rw[h.root M J,h.root O J]
   refine⟨?_,?_,?_⟩
   .intro a b M O Q T
    rw[jv (L a b M O),decide_eq_true_eq] at Q;rw[jv (L b a O M),decide_eq_true_eq] at T;omega
   .intro a b c M O V Q T
    rw[jv (L a b M O),decide_eq_true_eq] at Q;rw[jv (L b c O V),decide_eq_true_eq] at T;rw[jv (L a c M V),decide_eq_true_eq];omega
   .intro a b M O F
    rw[jv (L a b M O),jv (L b a O M),decide_eq_true_eq,decide_eq_true_eq];have:¬vq d t a=vq d t b:=λe=>F (h.keys K M O (L a b M O) e)
    omega
  .have X:=h.up K J
   have ih':=ih _ X.2 (by omega)
   have pu:∀ a,inT d t a->inT d (zu d t).par.toNat (qz d a)/\(qz d a).id=a.par:=λa M=>h.parent M K J
   have une:∀ a b,inT d t a->inT d t b->a.par≠b.par->qz d a≠qz d b:=λa b M O F e=>F (by rw[<-(pu a M).2,<-(pu b O).2,e])
   have ueq:∀ a b,inT d t a->inT d t b->a.par=b.par->qz d a=qz d b:=λa b M O e=>h.uniq (pu a M).1.1 (pu b O).1.1 (by rw[(pu a M).2,(pu b O).2,e])
   refine⟨?_,?_,?_⟩
   .intro a b M O Q T
    by_cases L:a.par=b.par
    .rw[jv L,decide_eq_true_eq] at Q
     rw[jv L.symm,decide_eq_true_eq] at T;omega
    .rw[kE L X.2] at Q
     rw[kE (Ne.symm L) X.2] at T;exact ih'.asym _ _ (pu a M).1 (pu b O).1 Q T
   .intro a b c M O V Q T
    by_cases G:a.par=b.par
    .by_cases H:b.par=c.par
     .rw[jv G,decide_eq_true_eq] at Q
      rw[jv H,decide_eq_true_eq] at T;rw[jv (G.trans H),decide_eq_true_eq];omega
     .rw[kE H X.2] at T
      rw[kE (by rw[G];exact H) X.2,ueq a b M O G]
      exact T
    .rw[kE G X.2] at Q
     by_cases H:b.par=c.par
     .rw[kE (by rw[<-H];exact G) X.2,<-ueq b c O V H]
      exact Q
     .rw[kE H X.2] at T
      by_cases E:a.par=c.par
      .rw[ueq a c M V E] at Q
       exact(ih'.asym _ _ (pu c V).1 (pu b O).1 Q T).elim
      .rw[kE E X.2]
       exact ih'.trans _ _ _ (pu a M).1 (pu b O).1 (pu c V).1 Q T
   .intro a b M O F
    by_cases L:a.par=b.par
    .rw[jv L,jv L.symm,decide_eq_true_eq,decide_eq_true_eq]
     have:¬vq d t a=vq d t b:=λe=>F (h.keys K M O L e)
     omega
    .rw[kE L X.2,kE (Ne.symm L) X.2]
     exact ih'.total _ _ (pu a M).1 (pu b O).1 (une a b M O L)
theorem Sto.Bg{R:Nt->Nt->Bool}{M:Nt->Prop}(h:Sto R M){a:Nt}(H:M a)(G:R a a=true):False:=h.asym a a H H G G
theorem Sto.nodup{R:Nt->Nt->Bool}{M:Nt->Prop}(h:Sto R M){l:List Nt}(H:∀ x∈l,M x)(G:l.Pairwise λa b=>R a b=true):l.Nodup:=
 G.imp_of_mem λ{a b} F E K e=>h.Bg (H a F) (by rw[e] at K ⊢;exact K)
theorem Bh(h:Wgt d):d.notes.Nodup:=h.inc.imp λ{a b} H e=>by rw[e] at H;omega
theorem ZO{id:Int}{t:Nat}(H:t<d.tiers.length){x:Nt}:x∈yf d id t↔inT d t x/\x.par=id:=by
 unfold yf inT
 rw[(uQ _).mem_iff,List.mem_filter]
 simp only[ym,Bool.and_eq_true,decide_eq_true_eq]
 constructor
 .rintro⟨G,⟨⟨F,E⟩,_⟩,_⟩;exact⟨⟨G,F⟩,E⟩
 .rintro⟨⟨G,F⟩,E⟩;exact⟨G,⟨⟨F,E⟩,by omega⟩,by omega⟩
theorem Bi(h:Wgt d){id:Int}{t:Nat}(E:t<d.tiers.length):(yf d id t).Pairwise λa b=>uS d t a b=true:=by
 have K:=Be (d.notes.filter (ym d id t))
 have J:(yf d id t).Nodup:=(uQ _).nodup_iff.2 ((Bh h).sublist List.filter_sublist)
 have L:=List.pairwise_and_iff.2 ⟨K,J⟩
 refine L.imp_of_mem λ{a b} M O G=>?_
 obtain⟨M,pa⟩:=(ZO E).1 M
 obtain⟨O,pb⟩:=(ZO E).1 O
 have Q:a.par=b.par:=by rw[pa,pb]
 have F:=Ji.1 G.1
 have T:¬vq d t a=vq d t b:=λe=>G.2 (h.keys E M O Q e)
 rw[jv Q,decide_eq_true_eq]
 unfold vq at T ⊢
 cases H:zT (zu d t).kind with
 |true=>rw[H] at T;simp only[if_true] at T ⊢;omega
 |false=>
  rw[H] at T;simp only[Bool.false_eq_true,if_false] at T ⊢;have za:=h.flat t a M H;have zb:=h.flat t b O H;omega
def qZ(d:Dc)(t:Nat):List Nt:=
 if (zu d t).kind=0 then yf d 0 t else if h:(zu d t).par.toNat<t then (qZ d (zu d t).par.toNat).flatMap λp=>yf d p.id t else []
termination_by t
theorem Z4(h:Wgt d):∀ (t:Nat),t<d.tiers.length->∀ x,x∈qZ d t↔inT d t x:=by
 intro t
 induction t using Nat.strongRecOn with
 |_ t ih=>
  intro H x;rw[qZ];by_cases G:(zu d t).kind=0
  .rw[if_pos G,ZO H]
   exact⟨λe=>e.1,λe=>⟨e,h.root e G⟩⟩
  .have F:=h.up H G
   rw[if_neg G,dif_pos F.2,List.mem_flatMap];constructor
   .rintro⟨p,_,E⟩;exact((ZO H).1 E).1
   .intro E
    obtain⟨p1,p2⟩:=h.parent E H G;exact⟨qz d x,(ih _ F.2 (by omega) _).2 p1,(ZO H).2 ⟨E,p2.symm⟩⟩
theorem Sj(h:Wgt d):∀ (t:Nat),t<d.tiers.length->(qZ d t).Pairwise λa b=>uS d t a b=true:=by
 intro t
 induction t using Nat.strongRecOn with
 |_ t ih=>
  intro E;rw[qZ];by_cases K:(zu d t).kind=0
  .rw[if_pos K];exact Bi h E
  .have J:=h.up E K
   have H:(zu d t).par.toNat<d.tiers.length:=by omega
   rw[if_neg K,dif_pos J.2,List.pairwise_flatMap];refine⟨λp _=>Bi h E,(ih _ J.2 H).imp_of_mem λ{p q} L M G x O y Q=>?_⟩
   have L:=(Z4 h _ H p).1 L;have M:=(Z4 h _ H q).1 M;obtain⟨O,px⟩:=(ZO E).1 O;obtain⟨Q,py⟩:=(ZO E).1 Q;have F:x.par≠y.par:=by
    intro e;have:p=q:=h.uniq L.1 M.1 (by rw[<-px,<-py,e])
    subst this;exact(h.qA _ H).Bg L G
   have ux:qz d x=p:=h.uniq (h.parent O E K).1.1 L.1 (by rw[(h.parent O E K).2,px])
   have uy:qz d y=q:=h.uniq (h.parent Q E K).1.1 M.1 (by rw[(h.parent Q E K).2,py])
   rw[kE F J.2,ux,uy];exact G
theorem Bj(h:Wgt d){t:Nat}(H:t<d.tiers.length):(qZ d t).Perm (y7 d.notes t):=by
 have G:(y7 d.notes t).Nodup:=(Bh h).sublist List.filter_sublist
 rw[List.perm_ext_iff_of_nodup ((h.qA t H).nodup (λx F=>(Z4 h t H x).1 F) (Sj h t H)) G]
 intro x
 rw[Z4 h t H,uR]
theorem Uy(h:Wgt d){t:Nat}(H:t<d.tiers.length):(qZ d t).length<=d.notes.length:=by
 rw[(Bj h H).length_eq];exact List.length_filter_le _ _
theorem Bl(l:List Nt):(y6 l).length=l.length:=by simp[y6]
theorem Bm(h:Wgt d)(X:Fw d):∀ (t:Nat),t<d.tiers.length->zj Tryz.prog 72 [zw d,int t] (ints (y6 (qZ d t))):=by
 intro t
 induction t using Nat.strongRecOn with
 |_ t ih=>
  intro Y;refine Zs mixed Tryz.func72 rfl c_72 [2] ?_
  have e1:d.tiers[t]?=some d.tiers[t]:=List.getElem?_eq_getElem Y
  have J:(t:Int)<d.tiers.length:=by omega
  have M:¬(d.tiers.length:Int)<=t:=by omega
  have O:¬(t:Int)<0:=by omega
  have Q:=X.n;have G:qZ d t=if (zu d t).kind=0 then yf d 0 t else if h:(zu d t).par.toNat<t then (qZ d (zu d t).par.toNat).flatMap λp=>yf d p.id t else []:=by rw[qZ]
  by_cases Z:(zu d t).kind=0
  .rw[if_pos Z] at G
   rw[G];rw[Z3 d Y] at Z;simp+decide[Tryz.f72,zw,Dc.row,Tir.row,int,ints,zK,zy,Y,J,M,O,Z];refine zF.pure (by rfl) (ZN d 0 t X).toR (by simp+decide[ints]) ?_
   simp+decide[ints]
  .have A:=h.up Y Z
   rw[if_neg Z,dif_pos A.2] at G;have H:=Uy h Y;have B:=Uy h (t:=(zu d t).par.toNat) (by omega)
   have C:=ih _ A.2 (by omega)
   rw[G] at H ⊢;generalize qZ d (zu d t).par.toNat=L at H B C ⊢;obtain⟨p,I⟩:∃ p:Nat,(zu d t).par=p:=⟨(zu d t).par.toNat,by omega⟩
   rw[I,Int.toNat_natCast] at C;rw[Z3 d Y] at Z I;simp+decide[Tryz.f72,zw,Dc.row,Tir.row,int,ints,zK,zy,Y,J,M,O,Z,I];refine scp C ?_
   simp+decide[ints];have T:=Bl L;refine zr mixed (λk:Nat=>{n:=48,next:=3,slots:=[(1,.d (int t)),(2,.bp 0 0),(5,.ar 2),(34,.d (ints (y6 L))),(35,.d (.int .i64 L.length)),(36,.d (.int .i64 k))],own:=[(0,.box 53 (yh d)),(2,.arr 3 1 ((y6 ((L.take k).flatMap λp=>yf d p.id t)).map λn=>[int n]))],moved:=[2]})
    (λk=>k<=L.length) (λk=>L.length-k) 0 (by simp) (by simp+decide[int,ints,zK,zy,y6]) ?_
   intro k Z;by_cases F:k<L.length
   .have E:(k:Int)<L.length:=by omega
    have K:k<(y6 L).length:=by omega
    have e2:(y6 L)[k]?=some L[k].id:=by unfold y6;rw[List.getElem?_map,List.getElem?_eq_getElem F];rfl
    have hsn:y6 ((L.take (k+1)).flatMap λp=>yf d p.id t)=y6 ((L.take k).flatMap λp=>yf d p.id t)++y6 (yf d L[k].id t):=by
     rw[take_snoc' F,List.flatMap_append];unfold y6;rw[List.map_append];simp
    have N:(y6 ((L.take (k+1)).flatMap λp=>yf d p.id t)).length<=d.notes.length:=by
     rw[Bl];refine Nat.le_trans ?_ H
     have:L.flatMap (λp=>yf d p.id t)=(L.take (k+1)).flatMap (λp=>yf d p.id t)++(L.drop (k+1)).flatMap (λp=>yf d p.id t):=by rw[<-List.flatMap_append,List.take_append_drop]
     rw[this,List.length_append];omega
    rw[hsn,List.length_append] at N;have V:(y6 L)[k]'K=L[k].id:=by simp[y6]
    simp+decide[int,ints,F,E,V,T];refine zF.pure (by rfl) (ZN d L[k].id t X).toR (by simp+decide[ints]) ?_
    simp+decide[int,ints,I64];refine⟨by omega,by unfold maxLen;omega,⟨by omega,by omega⟩,k+1,F,by omega,by omega,by rw[hsn];simp⟩
   .have:k=L.length:=by omega
    subst this;rw[List.take_length];simp+decide[int,ints]
end
end Go.V.Doc
namespace Go.V.Doc
open Go Go.Proofs
theorem Uz{α:Type}{l:List α}{k:Nat}(h:k<l.length):l.take (k+1)=l.take k++[l[k]]:=by
 rw[List.take_add_one,List.getElem?_eq_getElem h];rfl
def ZP{α:Type}(p:α->Bool)(l:List α):Int:=match l.findIdx? p with
 |some k=>k
 |none=>-1
theorem Bn{α:Type}{p:α->Bool}{l:List α}{k:Nat}(h:k<l.length)(H:∀ e∈l.take k,p e=false)(G:p l[k]=true):l.findIdx? p=some k:=by
 rw[List.findIdx?_eq_some_iff_getElem]
 refine⟨h,G,λj hj=>?_⟩
 have:=H l[j] (by rw[List.mem_take_iff_getElem];exact⟨j,by omega,rfl⟩)
 simpa using this
theorem Sk{α:Type}{p:α->Bool}{l:List α}(H:∀ e∈l,p e=false):l.findIdx? p=none:=by
 rw[List.findIdx?_eq_none_iff];exact H
def zv(l:List Tir)(role:Int):Int:=if role=0 then -1 else ZP (λt=>decide (t.role=role)) l
theorem UA(l:List Tir)(role:Int)(G:l.length<2^62):zj Tryz.prog 111 [zK l,int role] (int (zv l role)):=by
 refine zn mixed Tryz.func111 rfl c_111 ?_
 simp+decide[Tryz.f111,zK,int]
 refine zr mixed (λk:Nat=>{n:=24,next:=0,slots:=[(1,.d (int role)),(7,.d (zK l)),(8,.d (.int .i64 l.length)),(9,.d (.int .i64 k))],own:=[]})
  (λk=>k<=l.length/\(role≠0->∀ t∈l.take k,decide (t.role=role)=false)) (λk=>l.length-k) 0 (by simp) (by simp+decide[zK,int]) ?_
 intro k ⟨F,E⟩
 by_cases H:k<l.length
 .have e1:l[k]?=some l[k]:=List.getElem?_eq_getElem H
  by_cases K:role=0
  .subst K
   simp+decide[zK,Tir.row,int,H,I64];exact⟨by omega,k+1,H,by omega,by omega⟩
  .by_cases J:l[k].role=role
   .have L:zv l role=k:=by
     unfold zv ZP;rw[if_neg K,Bn H (E K) (by simp[J])]
    simp+decide[zK,Tir.row,int,H,K,J,L]
   .simp+decide[zK,Tir.row,int,H,I64,K,J]
    refine⟨by omega,k+1,⟨H,λt M=>?_⟩,by omega,by omega⟩
    rw[Uz H] at M;rcases List.mem_append.1 M with h | h
    .simpa using E K t h
    .rw[List.mem_singleton] at h;rw[h];exact J
 .have:k=l.length:=by omega
  subst this;rw[List.take_length] at E;have L:zv l role = -1:=by
   unfold zv ZP;by_cases K:role=0
   .rw[if_pos K]
   .rw[if_neg K,Sk (E K)]
  simp+decide[zK,int,L]
theorem Sl{P:Program}(F:P.follows .mixedOrders=true){id:Nat}{ops:List Oper}{st:St}{Q:DE->St->Prop}(H:ops≠[])(K:yT ops=true)(E:vX ops (ops.length-1)=true)(L:(ops.getLast H).guard=none)
  (G:(st.own.map (·.1)).Nodup) (h:Yn P ops st.next (ops.getLast H) ops.dropLast st (Q .normal)):Triple P (.region id ops.toArray true) Q st:=by
 obtain⟨pre,o,rfl⟩:∃ pre o,ops=pre++[o]:=⟨ops.dropLast,ops.getLast H,(List.dropLast_concat_getLast H).symm⟩
 have J:(pre++[o]).getLast H=o:=by simp
 rw[J] at L h
 rw[List.dropLast_concat] at h
 refine Na F K ?_ L G h
 simpa using E
def wV(d:Dc):D:=.agg [int (zv d.tiers 2),int (zv d.tiers 3),int (zv d.tiers 4)]
theorem ZQ(d:Dc)(H:d.tiers.length<2^62):zj Tryz.prog 52 [zw d] (wV d):=by
 refine zn mixed Tryz.func52 rfl c_52 ?_
 have G:=UA d.tiers 2 H
 have F:=UA d.tiers 3 H
 have E:=UA d.tiers 4 H
 simp+decide[Tryz.f52,zw,Dc.row,int]
 refine Sl mixed (by simp) (by rfl) (by rfl) (by rfl) (by simp) ?_
 simp+decide
 refine scp G ?_
 simp+decide[int]
 refine scp F ?_
 simp+decide[int]
 refine scp E ?_
 simp+decide[int,wV]
def yw(d:Dc):Bool:=decide (0<=zv d.tiers 2)&&(decide (0<=zv d.tiers 3)&&decide (0<=zv d.tiers 4))
theorem ZR(d:Dc)(H:d.tiers.length<2^62):zj Tryz.prog 20 [zw d] (.bool (yw d)):=by
 refine zn mixed Tryz.func20 rfl c_20 ?_
 have h:=ZQ d H
 unfold yw
 simp+decide[Tryz.f20,zw,Dc.row,int]
 refine zg h ?_
 by_cases c2:0<=zv d.tiers 2
 .by_cases c3:0<=zv d.tiers 3
  .by_cases c4:0<=zv d.tiers 4
   .simp+decide[wV,int,c2,c3,c4]
   .simp+decide[wV,int,c2,c3,c4]
  .simp+decide[wV,int,c2,c3]
 .simp+decide[wV,int,c2]
def yo(d:Dc)(id:Int):Bool:=(zp d.notes id).2&&decide ((zp d.notes id).1.tier=zv d.tiers 2)
theorem UB(d:Dc)(id:Int)(H:d.notes.length<2^62)(G:d.tiers.length<2^62):zj Tryz.prog 51 [zw d,int id] (.tup [.agg (zp d.notes id).1.row,.bool (yo d id)]):=by
 refine zn mixed Tryz.func51 rfl c_51 ?_
 have h:=ZG d id H
 have F:=ZQ d G
 unfold yo
 simp+decide[Tryz.f51,zw,Dc.row,int]
 refine zg h ?_
 generalize zp d.notes id=r
 obtain⟨n,ok⟩:=r
 cases ok with
 |false=>
  simp+decide[getD',Nt.row,int];refine XZ mixed 10 [1] (by rfl) (by rfl) (by rfl) (by rfl) (by simp) ?_
  simp+decide
 |true=>
  simp+decide[getD',Nt.row,int];refine XZ mixed 10 [1] (by rfl) (by rfl) (by rfl) (by rfl) (by simp) ?_
  simp+decide
  refine scp F ?_
  simp+decide[int,wV]
def xa(l:List ByteArray):D:=.sl (l.map λs=>[.str s])
def xR(d:Dc)(id:Int):ByteArray:=(zp d.notes id).1.text
def kF(d:Dc)(l:List Int):ByteArray:=l.foldl (λ_ k=>xR d k) .empty
def zR(d:Dc)(id:Int)(r:Int):List Int:=y6 (yf d id (zv d.tiers r))
def YI(d:Dc)(w:Int):Bool:=yo d w&&yw d
theorem Qw(d:Dc)(id r:Int)(H:Fw d):(zR d id r).length<20:=by
 unfold zR y6 yf
 rw[List.length_map,(uQ _).length_eq]
 exact H.k _ _
theorem So{d:Dc}{K:List Int}{j:Nat}(h:j<K.length):(K.take (j+1)).foldl (λ_ k=>xR d k) ByteArray.empty=xR d K[j]:=by
 rw[Uz h,List.foldl_append]
 rfl
def fRow(d:Dc)(L:List Int):List (List D):=L.map λm=>[D.str (xR d m)]
def gRow(d:Dc)(L:List Int):List (List D):=L.map λm=>[D.str (kF d (zR d m 4))]
theorem Sq(d:Dc)(w:Int)(S:Fw d)(W:d.tiers.length<2^62):
  zj Tryz.prog 18 [zw d,int w] (if YI d w=true then .tup [xa ((zR d w 3).map (xR d)),xa ((zR d w 3).map λm=>kF d (zR d m 4))] else .tup [xa [],xa []]):=by
 refine zn mixed Tryz.func18 rfl c_18 ?_
 have B:=S.n
 have hg:=UB d w (by omega) W
 have hr:=ZR d W
 have hf:=ZQ d W
 have X:=Qw d w 3 S
 unfold YI
 simp+decide[Tryz.f18,zw,Dc.row,int]
 refine zg hg ?_
 cases hw:yo d w with
 |false=>simp+decide[Nt.row,int,xa]
 |true=>
  simp+decide[Nt.row,int];refine zg hr ?_
  cases N:yw d with
  |false=>simp+decide[xa]
  |true=>
   simp+decide
   refine zg hf ?_
   simp+decide[int,wV];refine zF.XV (by rfl) (ZN d w (zv d.tiers 3) S) ?_
   change ((zR d w 3).length<20) at X
   rw[show y6 (yf d w (zv d.tiers 3))=zR d w 3 from rfl]
   generalize zR d w 3=L at X ⊢;simp+decide[ints];have P:ints d.spk = .sl (d.spk.map λn=>[.int .i64 n]):=rfl
   refine yU mixed (λk:Nat=>{n:=82,next:=7,slots:=[(2,.bp 0 0),(8,.bp 4 0),(9,.ar 5),(10,.ar 6),(39,.d (ints L)),(40,.d (int L.length)),(41,.d (int k))],own:=[(0,.box 53 (yh d)),(4,.box 112 [.d (int (zv d.tiers 2)),.d (int (zv d.tiers 3)),.d (int (zv d.tiers 4))]),(5,.arr 9 1 (fRow d (L.take k))),(6,.arr 9 1 (gRow d (L.take k)))],moved:=[5,6]})
    (λk=>k<=L.length) (λk=>L.length-k) 0 (Nat.zero_le _) ?_ ?_
   .simp+decide[int,ints,yh,fRow,gRow]
   intro k C;refine zL mixed ?_
   by_cases H:k<L.length
   case neg=>
    have:k=L.length:=by omega
    subst this;simp+decide[int,ints,xa,fRow,gRow,yh,xR]
   have J:(k:Int)<L.length:=by omega
   obtain⟨m,em⟩:∃ m,L[k]=m:=⟨_,rfl⟩;have em1:L[k]?=some m:=by rw[List.getElem?_eq_getElem H,em]
   have Y:=ZG d m (by omega)
   have M:=ZN d m (zv d.tiers 4) S;have O:=Qw d m 4 S;have hsn:=Uz H;rw[em] at hsn;have ef:fRow d (L.take (k+1))=fRow d (L.take k)++[[.str (xR d m)]]:=by rw[hsn];simp[fRow]
   have eg:gRow d (L.take (k+1))=gRow d (L.take k)++[[.str (kF d (zR d m 4))]]:=by rw[hsn];simp[gRow]
   have lf:(fRow d (L.take k)).length=k:=by simp[fRow];omega
   have lg:(gRow d (L.take k)).length=k:=by simp[gRow];omega
   generalize fRow d (L.take k)=F at ef lf;generalize gRow d (L.take k)=G at eg lg;rw[show y6 (yf d m (zv d.tiers 4))=zR d m 4 from rfl] at M
   have Q:xR d m=(zp d.notes m).1.text:=rfl
   generalize zR d m 4=K at M O eg;generalize zp d.notes m=r at Y Q;obtain⟨nm,ok⟩:=r;simp only at Q
   simp+decide[int,ints,yh,H,J,em];refine zg Y ?_
   simp+decide[getD',Nt.row,int];refine zF.XV (by rfl) M ?_
   simp+decide[ints];refine yU mixed (λj:Nat=>{n:=82,next:=8,slots:=[(2,.bp 0 0),(8,.bp 4 0),(9,.ar 5),(10,.ar 6),(39,.d (ints L)),(40,.d (int L.length)),(41,.d (int k)),(13,.bp 7 0),(15,.d (.str (kF d (K.take j)))),(55,.d (ints K)),(56,.d (int K.length)),(57,.d (int j))],own:=[(0,.box 53 (yh d)),(4,.box 112 [.d (int (zv d.tiers 2)),.d (int (zv d.tiers 3)),.d (int (zv d.tiers 4))]),(5,.arr 9 1 F),(6,.arr 9 1 G),(7,.box 72 (nm.row.map .d))],moved:=[5,6]})
    (λj=>j<=K.length) (λj=>K.length-j) 0 (Nat.zero_le _) ?_ ?_
   .simp+decide[int,ints,yh,Nt.row,kF]
   intro j hj;refine zL mixed ?_
   by_cases E:j<K.length
   case neg=>
    have:j=K.length:=by omega
    subst this;rw[List.take_length];simp+decide[int,ints,yh,Nt.row,I64];exact⟨by omega,by unfold maxLen;omega,by omega,by unfold maxLen;omega,⟨by omega,by omega⟩,k+1,H,by omega,by omega,by rw[ef,Q],by rw[eg]⟩
   have T:(j:Int)<K.length:=by omega
   obtain⟨q,eq⟩:∃ q,K[j]=q:=⟨_,rfl⟩;have eq1:K[j]?=some q:=by rw[List.getElem?_eq_getElem E,eq]
   have Z:=So (d:=d) E;rw[eq] at Z;have A:=ZG d q (by omega)
   have V:xR d q=(zp d.notes q).1.text:=rfl
   generalize zp d.notes q=r2 at A V;obtain⟨nq,okq⟩:=r2;simp only at V
   have I:kF d (K.take (j+1))=nq.text:=by unfold kF;rw[Z,V]
   simp+decide[int,ints,yh,Nt.row,E,T,eq];refine zg A ?_
   simp+decide[getD',Nt.row,int,I64];exact⟨⟨by omega,by omega⟩,j+1,E,by omega,by rw[I],by omega⟩
theorem Bo{α:Type}{p:α->Bool}{l:List α}(h:0<=ZP p l):∃ k:Nat,ZP p l=k/\∃ H:k<l.length,p l[k]=true:=by
 unfold ZP at h ⊢
 cases G:l.findIdx? p with
 |none=>rw[G] at h;simp at h
 |some k=>
  rw[List.findIdx?_eq_some_iff_getElem] at G;obtain⟨H,F,_⟩:=G;exact⟨k,rfl,H,F⟩
theorem Sr{α:Type}:∀ {l:List α},l.Nodup->(∀ a∈l,∀ b∈l,a=b)->l.length<=1
 | [],_,_=>Nat.zero_le _
 | [a],_,_=>Nat.le_refl _
 |a::b::l,H,h=>by
  have:=h a (by simp) b (by simp)
  subst this;simp at H
theorem UC{d:Dc}(h:wU d=true):d.notes.length<=14/\d.tiers.length<=6/\d.spk.length<=6/\Rgt d:=by
 simp only[wU,Bool.and_eq_true,decide_eq_true_eq] at h
 exact⟨h.1.1.1,h.1.1.2,h.1.2,Bd.1 (by rw[Uu];exact h.2)⟩
theorem ZS{d:Dc}(h:Rgt d):d.tiers.length<=20:=by
 have:=h.tiers
 unfold wt at this
 split at this
 .cases this
 .omega
theorem Rgt.UD{d:Dc}(h:Rgt d){m:Nt}(G:m∈d.notes):∃ t:Nat,t<d.tiers.length/\m.tier=t:=by
 have H:=uO h.good G
 exact⟨m.tier.toNat,by have:=H.t0;have:=H.t1;omega,by have:=H.t0;omega⟩
def Qx(d:Dc)(t:Nat)(n:Nt):List Nt:=n::(if h:(zu d t).kind≠0/\(zu d t).par.toNat<t then Qx d (zu d t).par.toNat (qz d n) else [])
termination_by t
decreasing_by exact h.2
theorem Ss(d:Dc)(t:Nat)(n:Nt):Qx d t n=n::(if h:(zu d t).kind≠0/\(zu d t).par.toNat<t then Qx d (zu d t).par.toNat (qz d n) else []):=by rw[Qx]
def qe(d:Dc)(n:Nt):List Nt:=Qx d n.tier.toNat n
def chainE(d:Dc)(r:Nt×Bool):List Nt:=if r.2=true then qe d r.1 else []
theorem xd{d:Dc}(h:Rgt d){n:Nt}(G:n∈d.notes):qe d n=n::chainE d (zp d.notes n.par)/\((zp d.notes n.par).2=true->(zp d.notes n.par).1∈d.notes/\(zp d.notes n.par).1.tier<n.tier):=by
 obtain⟨t,H,et⟩:=h.UD G
 unfold qe
 rw[et,Int.toNat_natCast,Ss]
 by_cases F:(zu d t).kind=0
 .have E:n.par=0:=h.root ⟨G,et⟩ F
  have K:(zp d.notes n.par).2=false:=by
   cases J:(zp d.notes n.par).2 with
   |false=>rfl
   |true=>
    obtain⟨g1,g2⟩:=uP J;have:=(h.nok _ g1).lo
    omega
  rw[dif_neg (λe=>e.1 F)]
  refine⟨?_,λe=>by rw[K] at e;cases e⟩
  unfold chainE;rw[K];rfl
 .have L:=h.up H F
  obtain⟨p1,p2⟩:=h.parent ⟨G,et⟩ H F;have K:=ju h p1.1;rw[p2] at K;rw[dif_pos ⟨F,L.2⟩,K];refine⟨?_,λ_=>⟨p1.1,by have:=p1.2;rw[this];omega⟩⟩
  unfold chainE qe;rw[if_pos rfl,p1.2,Int.toNat_natCast]
theorem Jr{d:Dc}(h:Rgt d):∀ (k:Nat) (n:Nt),n∈d.notes->n.tier.toNat<=k->(∀ m∈qe d n,m∈d.notes)/\(qe d n).length<=n.tier.toNat+1:=by
 intro k
 induction k with
 |zero=>
  intro n H G;obtain⟨F,E⟩:=xd h H;have K:(zp d.notes n.par).2=false:=by
   cases J:(zp d.notes n.par).2 with
   |false=>rfl
   |true=>
    have:=E J
    have:=(h.nok _ this.1).t0
    omega
  rw[F];unfold chainE;rw[K];exact⟨by simp[H],by simp⟩
 |succ k ih=>
  intro n H G;obtain⟨F,E⟩:=xd h H;rw[F];unfold chainE;cases J:(zp d.notes n.par).2 with
  |false=>exact⟨by simp[H],by simp⟩
  |true=>
   obtain⟨g1,g2⟩:=E J;have g0:=(h.nok _ g1).t0;have:=ih _ g1 (by omega)
   rw[if_pos rfl];refine⟨λm L=>?_,by rw[List.length_cons];omega⟩
   rcases List.mem_cons.1 L with rfl | L
   .exact H
   .exact this.1 m L
theorem Qy{d:Dc}(h:Rgt d){n:Nt}(H:n∈d.notes):n∈qe d n:=by
 rw[(xd h H).1];exact List.mem_cons_self
theorem Qz{d:Dc}(h:Rgt d):∀ (k:Nat) (n:Nt),n∈d.notes->n.tier.toNat<=k->∀ m∈chainE d (zp d.notes n.par),m.tier<n.tier:=by
 intro k
 induction k with
 |zero=>
  intro n H G m F;unfold chainE at F;split at F
  .rename_i E
   have:=(xd h H).2 E
   have:=(h.nok _ this.1).t0
   omega
  .cases F
 |succ k ih=>
  intro n H G m F;unfold chainE at F;split at F
  .rename_i E
   obtain⟨K,J⟩:=(xd h H).2 E;have g0:=(h.nok _ K).t0;rw[(xd h K).1] at F;rcases List.mem_cons.1 F with rfl | F
   .exact J
   .have:=ih _ K (by omega) m F
    omega
  .cases F
theorem Sv{d:Dc}(h:Rgt d):∀ (k:Nat) (n:Nt),n∈d.notes->n.tier.toNat<=k->∀ m∈qe d n,∀ c∈qe d m,c∈qe d n:=by
 intro k
 induction k with
 |zero=>
  intro n F E m K c J;rw[(xd h F).1] at K;rcases List.mem_cons.1 K with rfl | K
  .exact J
  .have:=Qz h _ n F (Nat.le_refl _) m K
   have G:=(Jr h _ n F (Nat.le_refl _)).1 m (by rw[(xd h F).1];exact List.mem_cons_of_mem _ K)
   have:=(h.nok _ G).t0
   omega
 |succ k ih=>
  intro n F E m K c J;rw[(xd h F).1] at K ⊢;rcases List.mem_cons.1 K with rfl | K
  .rw[(xd h F).1] at J;exact J
  .refine List.mem_cons_of_mem _ ?_
   unfold chainE at K ⊢;split at K
   .rename_i H
    rw[if_pos H];obtain⟨L,M⟩:=(xd h F).2 H;have g0:=(h.nok _ L).t0;exact ih _ L (by omega) m K c J
   .cases K
theorem Sw{d:Dc}(h:Rgt d):∀ (k:Nat) (n:Nt),n∈d.notes->n.tier.toNat<=k->∀ a∈qe d n,∀ b∈qe d n,a∈qe d b\/b∈qe d a:=by
 intro k
 induction k with
 |zero=>
  intro n K J a L b M;have H:=L;have G:=M;rw[(xd h K).1] at L M;rcases List.mem_cons.1 L with e | L
  .rw[e];exact .inr G
  .rcases List.mem_cons.1 M with e | M
   .rw[e];exact .inl H
   .have:=Qz h _ n K (Nat.le_refl _) a L
    have E:=(Jr h _ n K (Nat.le_refl _)).1 a (by rw[(xd h K).1];exact List.mem_cons_of_mem _ L)
    have:=(h.nok _ E).t0
    omega
 |succ k ih=>
  intro n K J a L b M;have H:=L;have G:=M;rw[(xd h K).1] at L M;rcases List.mem_cons.1 L with e | L
  .rw[e];exact .inr G
  .rcases List.mem_cons.1 M with e | M
   .rw[e];exact .inl H
   .unfold chainE at L M
    split at L
    .rename_i F
     rw[if_pos F] at M;obtain⟨O,Q⟩:=(xd h K).2 F;have g0:=(h.nok _ O).t0;exact ih _ O (by omega) a L b M
    .cases L
end Go.V.Doc
namespace Go.V.Doc
open Go Go.Proofs
def jw(l:List Nt)(id:Int):List Int:=(l.filter λn=>decide (n.par=id)).map (·.id)
def yP(l:List Nt):Nat->Int->List Int
 |0,_=>[]
 |f+1,id=>(jw l id).flatMap λk=>k::yP l f k
section
variable {d:Dc}
theorem YJ{l:List Nt}{id x:Int}:x∈jw l id↔∃ k∈l,k.par=id/\k.id=x:=by
 unfold jw
 simp only[List.mem_map,List.mem_filter,decide_eq_true_eq]
 exact⟨λ⟨k,⟨H,G⟩,F⟩=>⟨k,H,G,F⟩,λ⟨k,H,G,F⟩=>⟨k,⟨H,G⟩,F⟩⟩
theorem Z5(h:Rgt d){n k:Nt}(H:n∈d.notes)(G:k∈d.notes)(F:k.par=n.id):n.tier<k.tier:=by
 have:=(xd h G).2
 rw[F,ju h H] at this
 exact(this rfl).2
theorem UE(h:Rgt d){n k:Nt}(H:n∈d.notes)(G:k∈d.notes)(F:k.par=n.id):qe d k=k::qe d n:=by
 rw[(xd h G).1,F,ju h H];rfl
theorem Bp(h:Rgt d){m:Nt}(H:m∈d.notes):(∃ p∈d.notes,p.id=m.par/\chainE d (zp d.notes m.par)=qe d p/\p.tier<m.tier)\/chainE d (zp d.notes m.par)=[]:=by
 cases G:(zp d.notes m.par).2 with
 |false=>right;unfold chainE;rw[G];rfl
 |true=>
  left
  obtain⟨F,E⟩:=(xd h H).2 G;exact⟨_,F,(uP G).2,by unfold chainE;rw[if_pos G],E⟩
theorem Sx(h:Rgt d):∀ (k:Nat) (m:Nt),m∈d.notes->m.tier.toNat<=k->∀ n∈chainE d (zp d.notes m.par),∃ c∈qe d m,c.par=n.id:=by
 intro k
 induction k with
 |zero=>
  intro m G F n E;have:=Qz h _ m G (Nat.le_refl _) n E
  have H:=(Jr h _ m G (Nat.le_refl _)).1 n (by rw[(xd h G).1];exact List.mem_cons_of_mem _ E)
  have:=(h.nok _ H).t0
  omega
 |succ k ih=>
  intro m G F n E;rcases Bp h G with⟨p,K,e1,e2,e3⟩ | e
  .rw[e2,(xd h K).1] at E
   rw[(xd h G).1,e2];rcases List.mem_cons.1 E with rfl | E
   .exact⟨m,List.mem_cons_self,e1.symm⟩
   .have:=(h.nok _ K).t0
    obtain⟨c,J,ec⟩:=ih p K (by omega) n E
    exact⟨c,List.mem_cons_of_mem _ J,ec⟩
  .rw[e] at E;cases E
theorem UF(h:Rgt d){m c:Nt}(H:m∈d.notes)(G:c∈qe d m):c∈d.notes:=(Jr h _ m H (Nat.le_refl _)).1 c G
theorem QA(h:Rgt d):∀ (f:Nat) (n:Nt),n∈d.notes->(d.tiers.length:Int)-n.tier<=f->∀ x,x∈yP d.notes f n.id↔∃ m∈d.notes,m.id=x/\n∈chainE d (zp d.notes m.par):=by
 intro f
 induction f with
 |zero=>intro n J L;have:=(h.nok n J).t1;omega
 |succ f ih=>
  intro n J L x;unfold yP;rw[List.mem_flatMap];constructor
  .rintro⟨y,M,O⟩
   obtain⟨k,Q,T,rfl⟩:=YJ.1 M;have V:=Z5 h J Q T;have F:=UE h J Q T;rcases List.mem_cons.1 O with rfl | O
   .refine⟨k,Q,rfl,?_⟩
    rw[T,ju h J];exact Qy h J
   .obtain⟨m,X,rfl,H⟩:=(ih k Q (by omega) x).1 O
    refine⟨m,X,rfl,?_⟩
    rcases Bp h X with⟨p,E,e1,e2,e3⟩ | e
    .rw[e2] at H ⊢
     exact Sv h _ p E (Nat.le_refl _) k H n (by rw[F];exact List.mem_cons_of_mem _ (Qy h J))
    .rw[e] at H;cases H
  .rintro⟨m,X,rfl,K⟩
   obtain⟨k,Q,ek⟩:=Sx h _ m X (Nat.le_refl _) n K;have G:=UF h X Q;have V:=Z5 h J G ek;refine⟨k.id,YJ.2 ⟨k,G,ek,rfl⟩,?_⟩
   rw[(xd h X).1] at Q;rcases List.mem_cons.1 Q with rfl | Q
   .exact List.mem_cons_self
   .exact List.mem_cons_of_mem _ ((ih k G (by omega) m.id).2 ⟨m,X,rfl,Q⟩)
theorem Sy(h:Rgt d)(id:Int):(jw d.notes id).Nodup:=by
 unfold jw
 rw[List.nodup_iff_pairwise_ne,List.pairwise_map]
 exact(h.inc.sublist List.filter_sublist).imp λ{a b} H=>by omega
theorem Sz(h:Rgt d){n:Nt}(H:n∈d.notes):n∉chainE d (zp d.notes n.par):=λG=>by
 have:=Qz h _ n H (Nat.le_refl _) n G
 omega
theorem Js(h:Rgt d){n c:Nt}(H:n∈d.notes)(G:c∈qe d n):c.tier<=n.tier:=by
 rw[(xd h H).1] at G
 rcases List.mem_cons.1 G with rfl | G
 .exact Int.le_refl _
 .have:=Qz h _ n H (Nat.le_refl _) c G
  omega
theorem SA(h:Rgt d){n k1 k2 m:Nt}(H:n∈d.notes)(G:k1∈d.notes)(F:k2∈d.notes)(p1:k1.par=n.id)(p2:k2.par=n.id)(E:m∈d.notes)(c1:k1∈qe d m)(c2:k2∈qe d m):k1=k2:=by
 have t1:=Z5 h H G p1
 have t2:=Z5 h H F p2
 rcases Sw h _ m E (Nat.le_refl _) k1 c1 k2 c2 with e | e
 .rw[UE h H F p2] at e
  rcases List.mem_cons.1 e with e | e
  .exact e
  .have:=Js h H e;omega
 .rw[UE h H G p1] at e
  rcases List.mem_cons.1 e with e | e
  .exact e.symm
  .have:=Js h H e;omega
theorem Bq(h:Rgt d):∀ (f:Nat) (n:Nt),n∈d.notes->(d.tiers.length:Int)-n.tier<=f->(yP d.notes f n.id).Nodup:=by
 intro f
 induction f with
 |zero=>intro n G F;have:=(h.nok n G).t1;omega
 |succ f ih=>
  intro n G F;unfold yP;have key:∀ x k,k∈d.notes->k.par=n.id->x∈k.id::yP d.notes f k.id->∃ m∈d.notes,m.id=x/\k∈qe d m:=by
   intro x k E K J;have L:=Z5 h G E K;rcases List.mem_cons.1 J with rfl | J
   .exact⟨k,E,rfl,Qy h E⟩
   .obtain⟨m,M,e,O⟩:=(QA h f k E (by omega) x).1 J
    exact⟨m,M,e,by rw[(xd h M).1];exact List.mem_cons_of_mem _ O⟩
  rw[List.nodup_iff_pairwise_ne,List.pairwise_flatMap];refine⟨λy Q=>?_,(Sy h n.id).imp_of_mem λ{a b} T V H x J y Q e=>?_⟩
  .obtain⟨k,E,K,rfl⟩:=YJ.1 Q
   have L:=Z5 h G E K;rw[List.pairwise_cons];refine⟨λx J e=>?_,ih k E (by omega)⟩
   subst e;obtain⟨m,M,e,O⟩:=(QA h f k E (by omega) k.id).1 J
   obtain rfl:=Qu h M E e;exact Sz h E O
  .subst e
   obtain⟨k1,X,p1,rfl⟩:=YJ.1 T;obtain⟨k2,Y,p2,rfl⟩:=YJ.1 V;obtain⟨m1,q1,e1,c1⟩:=key x k1 X p1 J;obtain⟨m2,q2,e2,c2⟩:=key x k2 Y p2 Q;obtain rfl:=Qu h q1 q2 (by rw[e1,e2])
   exact H (by rw[SA h G X Y p1 p2 q1 c1 c2])
theorem Br:∀ {l m:List Int},l.Nodup->(∀ x∈l,x∈m)->l.length<=m.length
 | [],m,_,_=>Nat.zero_le _
 |x::l,m,H,hs=>by
  rw[List.nodup_cons] at H;have G:=hs x List.mem_cons_self;have:=Br (l:=l) (m:=m.erase x) H.2 λy F=>(List.mem_erase_of_ne λ(e:y=x)=>H.1 (by rw[<-e];exact F)).2 (hs y (List.mem_cons_of_mem _ F))
  rw[List.length_erase_of_mem G] at this;have:0<m.length:=List.length_pos_of_mem G
  simp only[List.length_cons];omega
theorem SB(h:Rgt d){f:Nat}{n:Nt}(H:n∈d.notes)(G:(d.tiers.length:Int)-n.tier<=f):(yP d.notes f n.id).length<=d.notes.length:=by
 have:=Br (m:=y6 d.notes) (Bq h f n H G) λx F=>by
  obtain⟨m,E,e,_⟩:=(QA h f n H G x).1 F;unfold y6;rw[List.mem_map];exact⟨m,E,e⟩
 unfold y6 at this
 rwa [List.length_map] at this
end
end Go.V.Doc
namespace Go.V.Doc
open Go Go.Proofs
abbrev ye:=Int×Nat×List Int
def vr:List ye->Int->List Int
 | [],_=>[]
 |g::L,p=>if g.1=p then g.2.2 else vr L p
def uT(L:List ye):List (List D):=L.map λg=>[int g.1,ints g.2.2]
theorem Bs(p:Int):∀ L:List ye,wH (int p) (uT L)=some (if p∈L.map (·.1) then some (ints (vr L p)) else none)
 | []=>rfl
 |g::L=>by
  have ih:=Bs p L;simp only[uT,List.map_cons,wH,uu,int,vr] at ih ⊢;by_cases h:p=g.1
  .simp[h]
  .have H:¬g.1=p:=λe=>h e.symm
   simp only[decide_false,h,H,List.mem_cons,false_or,if_false];simpa using ih
theorem SC{L:List ye}{p:Int}(h:p∉L.map (·.1)):vr L p=[]:=by
 induction L with
 |nil=>rfl
 |cons g L ih=>
  simp only[List.map_cons,List.mem_cons,not_or] at h;unfold vr;rw[if_neg (λe=>h.1 e.symm),ih h.2]
abbrev SD:Sym:=.fn 115 [.bp 0 0,.bp 1 0,.bp 2 0]
def vH(L:List ye)(acc:List Int):List (Nat×Obj'):=
 [(0,.box 182 [.d (.mp (uT L))]),(1,.box 31 [.ar 3]),(2,.box 183 [SD]),(3,.arr 3 1 (acc.map λn=>[int n]))]
def Jt(L:List ye)(l:List Nt)(f:Nat)(id:Int):Prop:=∀ acc:List Int,(acc++yP l f id).length<=2^40 ->
 zJ Tryz.prog 115 [.d (int id),.bp 0 0,.bp 1 0,.bp 2 0] (vH L acc) 4 (.d (.tup [])) 4 (vH L (acc++yP l f id)) [3]
theorem SE(L:List ye)(l:List Nt)(f:Nat)(id:Int)(O:vr L id=jw l id)(ih:∀ k∈jw l id,Jt L l f k):Jt L l (f+1) id:=by
 intro acc H
 refine zJ.VU (xW mixed Tryz.func115 rfl c_115 (by simp[Sym.los,Sym.lo]) ?_)
 have Q:=Bs id L
 simp only[int] at Q
 unfold yP at H ⊢
 by_cases T:id∈L.map (·.1)
 case neg=>
  rw[if_neg T] at Q;rw[<-O,SC T];simp+decide[Tryz.f115,vH,int,Q];refine yU mixed (λ_:Unit=>{n:=23,next:=4,base:=4,slots:=[(10,.d (int 0)),(11,.d (int 0))],own:=vH L acc,moved:=[3]}) (λ_=>True) (λ_=>0) () trivial ?_ ?_
  .simp+decide[int,vH]
  intro _ _;refine zL mixed ?_
  simp+decide[int,vH]
 rw[if_pos T,O] at Q
 generalize jw l id=ks at *
 have J:ks.length<=2^40:=by
  have V:ks.length<=(ks.flatMap λk=>k::yP l f k).length:=by
   clear Q H ih O;induction ks with
   |nil=>simp
   |cons k r ih=>simp only[List.flatMap_cons,List.length_append,List.length_cons];omega
  rw[List.length_append] at H;omega
 simp+decide[Tryz.f115,vH,int,Q,ints]
 refine yU mixed (λk:Nat=>{n:=23,next:=4,base:=4,slots:=[(1,.bp 0 0),(2,.bp 1 0),(3,.bp 2 0),(9,.d (ints ks)),(10,.d (int ks.length)),(11,.d (int k))],own:=vH L (acc++(ks.take k).flatMap λk=>k::yP l f k),moved:=[3]})
  (λk=>k<=ks.length) (λk=>ks.length-k) 0 (Nat.zero_le _) ?_ ?_
 .simp+decide[int,ints,vH]
 intro k X
 refine zL mixed ?_
 by_cases F:k<ks.length
 case neg=>
  have:k=ks.length:=by omega
  subst this;rw[List.take_length];simp+decide[int,ints,vH]
 have E:(k:Int)<ks.length:=by omega
 obtain⟨q,eq⟩:∃ q,ks[k]=q:=⟨_,rfl⟩
 have e1:ks[k]?=some q:=by rw[List.getElem?_eq_getElem F,eq]
 have hsn:(ks.take (k+1)).flatMap (λk=>k::yP l f k)=(ks.take k).flatMap (λk=>k::yP l f k)++(q::yP l f q):=by
  rw[List.take_succ_eq_append_getElem F,List.flatMap_append,eq];simp
 have G:(acc++(ks.take (k+1)).flatMap λk=>k::yP l f k).length<=2^40:=by
  have:ks.flatMap (λk=>k::yP l f k)=(ks.take (k+1)).flatMap (λk=>k::yP l f k)++(ks.drop (k+1)).flatMap (λk=>k::yP l f k):=by
   rw[<-List.flatMap_append,List.take_append_drop]
  rw[this,<-List.append_assoc,List.length_append] at H;omega
 rw[hsn] at G
 have Y:=ih q (by rw[<-eq];exact List.getElem_mem F) ((acc++(ks.take k).flatMap λk=>k::yP l f k)++[q]) (by simpa using G)
 have M:(acc++(ks.take k).flatMap λk=>k::yP l f k).length<2^40:=by
  rw[<-List.append_assoc,List.length_append,List.length_cons] at G;omega
 have K:acc++((ks.take k).flatMap (λk=>k::yP l f k)++q::yP l f q)=(acc++(ks.take k).flatMap λk=>k::yP l f k)++[q]++yP l f q:=by simp
 generalize acc++(ks.take k).flatMap (λk=>k::yP l f k)=A at *
 simp+decide[int,ints,vH,F,E,eq,maxLen]
 refine⟨by omega,by omega,?_⟩
 refine zF.mut [0,1,2,3] [.d (int q),.bp 0 0,.bp 1 0,.bp 2 0] (vH L (A++[q])) (by rfl) (by simp[int]) (by simp[Sym.los,Sym.lo]) (by simp[vH,int];rfl) Y ?_
 simp+decide[int,vH,I64]
 exact⟨⟨by omega,by omega⟩,k+1,F,by omega,by omega,by rw[hsn,<-List.map_append (l₁:=acc),K];simp⟩
theorem SG{d:Dc}(h:Rgt d){L:List ye}(H:∀ p,vr L p=jw d.notes p):∀ (f:Nat) (n:Nt),n∈d.notes->(d.tiers.length:Int)-n.tier<=f->Jt L d.notes f n.id:=by
 intro f
 induction f with
 |zero=>intro n G F;have:=(h.nok n G).t1;omega
 |succ f ih=>
  intro n G F;refine SE L _ f n.id (H _) λk E=>?_
  obtain⟨m,K,J,rfl⟩:=YJ.1 E;have:=Z5 h G K J
  exact ih m K (by omega)
def qN:List ye->Int->Int->Nat->List ye
 | [],p,x,nx=>[(p,nx,[x])]
 |g::L,p,x,nx=>if g.1=p then (g.1,g.2.1,g.2.2++[x])::L else g::qN L p x nx
def xA(L:List ye):List Int:=L.map (·.1)
def yy(L:List ye):List Sym:=L.map λg=>.ar g.2.1
def yW(L:List ye):List (Nat×Obj'):=L.map λg=>(g.2.1,.arr 3 1 (g.2.2.map λn=>[int n]))
def zO(L:List ye):List Nat:=L.map (·.2.1)
def qB:List ye->Int->Option (Nat×List Int)
 | [],_=>none
 |g::L,p=>if g.1=p then some g.2 else qB L p
theorem Bt(L:List ye)(p x:Int)(nx:Nat)(q:Int):vr (qN L p x nx) q=if p=q then vr L q++[x] else vr L q:=by
 induction L with
 |nil=>simp[qN,vr]
 |cons g L ih=>
  unfold qN;by_cases h:g.1=p
  .rw[if_pos h]
   simp only[vr];by_cases H:g.1=q
   .rw[if_pos H,if_pos H,if_pos (h.symm.trans H)]
   .rw[if_neg H,if_neg H,if_neg (λe=>H (h.trans e))]
  .rw[if_neg h]
   simp only[vr];by_cases H:g.1=q
   .rw[if_pos H,if_pos H,if_neg (λe=>h (H.trans e.symm))]
   .rw[if_neg H,if_neg H,ih]
theorem UG:∀ (L:List ye) (p:Int),wP (xA L) (yy L) p=(qB L p).map λg=>Sym.ar g.1
 | [],p=>rfl
 |g::L,p=>by
  have ih:=UG L p;simp only[xA,yy,List.map_cons,wP,qB] at ih ⊢;split
  .rfl
  .exact ih
theorem QB:∀ {L:List ye} {p:Int} {g:Nat×List Int},qB L p=some g->(p,g)∈L
 | [],p,g,h=>by cases h
 |a::L,p,g,h=>by
  unfold qB at h;split at h
  .rename_i e;cases h;rw[<-e];exact List.mem_cons_self
  .exact List.mem_cons_of_mem _ (QB h)
theorem Bu:∀ {L:List ye} {p x:Int} {nx:Nat} {g:Nat×List Int},qB L p=some g->xA (qN L p x nx)=xA L/\zO (qN L p x nx)=zO L
 | [],p,x,nx,g,h=>by cases h
 |a::L,p,x,nx,g,h=>by
  unfold qB at h;unfold qN;split at h
  .rename_i e;rw[if_pos e];exact⟨rfl,rfl⟩
  .rename_i e
   rw[if_neg e];have:=Bu (x:=x) (nx:=nx) h
   simp only[xA,zO,List.map_cons] at this ⊢;exact⟨by rw[this.1],by rw[this.2]⟩
theorem Bv:∀ {L:List ye} {p x:Int} {nx:Nat} {g:Nat×List Int},qB L p=some g->(zO L).Nodup->∀ i,zc (yW (qN L p x nx)) i=if i=g.1 then some (.arr 3 1 ((g.2++[x]).map λn=>[int n])) else zc (yW L) i
 | [],p,x,nx,g,h,_,i=>by cases h
 |a::L,p,x,nx,g,h,H,i=>by
  unfold qB at h;unfold qN;simp only[zO,List.map_cons,List.nodup_cons] at H;split at h
  .rename_i e
   cases h;rw[if_pos e];simp only[yW,List.map_cons,zc];by_cases G:a.2.1=i
   .rw[if_pos G,if_pos G.symm]
   .rw[if_neg G,if_neg (λe2=>G e2.symm),if_neg G]
  .rename_i e
   rw[if_neg e];have ih:=Bv (x:=x) (nx:=nx) h H.2 i;have F:g.1∈L.map (·.2.1):=List.mem_map.2 ⟨_,QB h,rfl⟩
   simp only[yW,List.map_cons,zc] at ih ⊢;by_cases G:a.2.1=i
   .have:¬i=g.1:=λe2=>H.1 (by rw[G,e2];exact F)
    rw[if_pos G,if_neg this,if_pos G]
   .rw[if_neg G,if_neg G,ih]
theorem YK:∀ {L:List ye} {i:Nat} {o:Obj'},zc (yW L) i=some o->i∈zO L/\∃ ks:List Int,o = .arr 3 1 (ks.map λn=>[int n])
 | [],i,o,h=>by cases h
 |g::L,i,o,h=>by
  simp only[yW,List.map_cons,zc] at h;simp only[zO,List.map_cons,List.mem_cons];split at h
  .rename_i e;cases h;exact⟨.inl e.symm,_,rfl⟩
  .have:=YK (L:=L) h;exact⟨.inr this.1,this.2⟩
theorem SH{L:List ye}{p:Int}{g:Nat×List Int}(h:qB L p=some g)(H:(zO L).Nodup):zc (yW L) g.1=some (.arr 3 1 (g.2.map λn=>[int n])):=by
 induction L with
 |nil=>cases h
 |cons a L ih=>
  simp only[zO,List.map_cons,List.nodup_cons] at H;unfold qB at h;simp only[yW,List.map_cons,zc];split at h
  .cases h;rw[if_pos rfl]
  .have G:g.1∈L.map (·.2.1):=List.mem_map.2 ⟨_,QB h,rfl⟩
   rw[if_neg (λe=>H.1 (by rw[e];exact G))]
   exact ih h H.2
theorem Bw:∀ {L:List ye} {p x:Int} {nx:Nat} {g:Nat×List Int},qB L p=some g->(zO L).Nodup->qX (xA L) (yD g.1 (yy L)) p (.ar g.1)=(xA L,yy L)
 | [],p,x,nx,g,h,_=>by cases h
 |a::L,p,x,nx,g,h,G=>by
  simp only[zO,List.map_cons,List.nodup_cons] at G;unfold qB at h;have rest:∀ (M:List ye),g.1∉M.map (·.2.1)->yD g.1 (yy M)=yy M:=by
   intro M;induction M with
   |nil=>intro _;rfl
   |cons b M ih=>
    intro F;simp only[List.map_cons,List.mem_cons,not_or] at F;simp only[yy,List.map_cons,yD,zA] at ih ⊢;rw[if_neg (λe=>F.1 e.symm),ih F.2]
  split at h
  .rename_i e
   cases h;simp only[xA,yy,List.map_cons,yD,qX,if_pos e];have:=rest L G.1
   simp only[yy] at this;rw[this]
  .rename_i e
   have ih:=Bw (x:=x) (nx:=nx) h G.2;have E:g.1∈L.map (·.2.1):=List.mem_map.2 ⟨_,QB h,rfl⟩
   have H:¬a.2.1=g.1:=λe=>G.1 (by rw[e];exact E)
   simp only[xA,yy,List.map_cons,yD,zA,if_neg H,qX,if_neg e] at ih ⊢;rw[ih]
theorem Ju:∀ {L:List ye} {p x:Int} {nx:Nat},qB L p=none->qN L p x nx=L++[(p,nx,[x])]
 | [],p,x,nx,_=>rfl
 |a::L,p,x,nx,h=>by
  unfold qB at h;unfold qN;split at h
  .cases h
  .rename_i e;rw[if_neg e,Ju h];rfl
theorem By:∀ {L:List ye} {p:Int} {s:Sym},qB L p=none->qX (xA L) (yy L) p s=(xA L++[p],yy L++[s])
 | [],p,s,_=>rfl
 |a::L,p,s,h=>by
  unfold qB at h;split at h
  .cases h
  .rename_i e
   have ih:=By (s:=s) h;simp only[xA,yy,List.map_cons,qX,if_neg e] at ih ⊢;rw[ih];rfl
theorem Bz{j:Nat}:∀ {L:List ye},j∉zO L->yD j (yy L)=yy L
 | [],_=>rfl
 |b::M,H=>by
  simp only[zO,List.map_cons,List.mem_cons,not_or] at H;have ih:=Bz (L:=M) H.2;simp only[yy,List.map_cons,yD,zA] at ih ⊢;rw[if_neg (λe=>H.1 e.symm),ih]
theorem ZT{α:Type}:∀ (l m:List (Nat×α)) (i:Nat),zc (l++m) i=(zc l i).or (zc m i)
 | [],m,i=>by simp[zc]
 |(t,x)::l,m,i=>by
  simp only[List.cons_append,zc];split
  .rfl
  .exact ZT l m i
theorem SI{L:List ye}{p x:Int}{nx:Nat}(h:qB L p=none)(H:nx∉zO L)(i:Nat):zc (yW (qN L p x nx)) i=if i=nx then some (.arr 3 1 [[int x]]) else zc (yW L) i:=by
 rw[Ju h]
 unfold yW
 rw[List.map_append,ZT]
 by_cases e:i=nx
 .subst e
  rw[if_pos rfl];cases G:zc (List.map (λg:ye=>(g.2.1,Obj'.arr 3 1 (g.2.2.map λn=>[int n]))) L) i with
  |none=>simp[zc]
  |some o=>exact absurd (YK (L:=L) G).1 H
 .rw[if_neg e]
  have e':¬nx=i:=λe2=>e e2.symm
  simp[zc,e']
end Go.V.Doc
namespace Go.V.Doc
open Go Go.Proofs Go.Sort Go.RowKit
abbrev Jv(l:List Int):List (List D):=l.map λn=>[int n]
abbrev ui(l:List Int):D:=.fn 188 [.ptr [ints l]]
def qO(l:List Int):List Sym:=[.junk,.junk,.bp 1 0,.junk,.junk,.junk,.d (ui l),.junk,.junk,.junk,.junk,.junk,.junk]
@[simp] theorem zj5(l:List Int):Sym.los 2 (qO l):=by simp[qO,Sym.los,Sym.lo]
@[simp] theorem zj6(l:List Int):Sym.los 3 (qO l):=by simp[qO,Sym.los,Sym.lo]
@[simp] theorem zj7(l:List Int):Sym.los 4 (qO l):=by simp[qO,Sym.los,Sym.lo]
noncomputable def vI(q:List Int):Obj':=.raw (.lp #[7] (vD Tryz.f224) (vE Tryz.f224) .ready none) (qO q)
noncomputable def vt(q:List Int):List (Nat×Obj'):=[(0,vI q),(1,.box 31 [.nils])]
@[simp] theorem zlj(l:List Int):yp (yA [0,1] 2) (qO l)=qO l:=rfl
@[simp] theorem zlk(l:List Int):yp (yA [0,1,3] 4) (qO l)=qO l:=rfl
@[simp] theorem zll(l:List Int):yp (yA [0,1,2] 3) (qO l)=qO l:=rfl
noncomputable def YL(q l:List Int):List (Nat×Obj'):=[(0,vI q),(1,.box 31 [.ar 2]),(2,.arr 3 1 (Jv l))]
noncomputable def Z6(q l:List Int):List (Nat×Obj'):=[(0,vI q),(1,.box 31 [.ar 3]),(3,.arr 3 1 (Jv l))]
theorem SJ(q:List Int)(n:Int):Zv Tryz.prog 0 [.d (int n)] (vt q) 2 (.d (.bool true)) 4 (Z6 q [n]) [3]:=by
 refine VQ (cells:=qO q) (ps:=#[7]) (aS := vD Tryz.f224) (bd:=vE Tryz.f224) rfl (by simp) (by simp[qO]) (by omega) (by simp[Sym.los,Sym.lo]) ?_
 simp+decide[vt,Z6,vI,qO,vD,vE,jK,Tryz.f224,int]
theorem SK(q l:List Int)(n:Int)(H:l.length<2^40):Zv Tryz.prog 0 [.d (int n)] (YL q l) 3 (.d (.bool true)) 3 (YL q (l++[n])) [2]:=by
 refine VQ (cells:=qO q) (ps:=#[7]) (aS := vD Tryz.f224) (bd:=vE Tryz.f224) rfl (by simp) (by simp[qO]) (by omega) (by simp[Sym.los,Sym.lo]) ?_
 simp+decide[YL,vI,qO,vD,vE,jK,Tryz.f224,int,maxLen]
 exact⟨by omega,by omega⟩
theorem SL(l:List Int)(F:l≠[])(E:l.length<2^40):zJ Tryz.prog 188 [.yd 0,.d (.ptr [ints l])] (vt l) 2 (.d (.tup [])) 4 (Z6 l l) [3]:=by
 refine zJ.VU (xW mixed Tryz.func188 rfl c_188 (by simp[Sym.los,Sym.lo]) ?_)
 simp+decide[Tryz.f188,ints]
 refine yU mixed (λk:Nat=>{n:=16,next:=if k=0 then 2 else 4,base:=2,slots:=[(0,.yd 0),(5,.d (ints l)),(6,.d (int l.length)),(7,.d (int k))],own:=if k=0 then vt l else Z6 l (l.take k),moved:=if k=0 then [] else [3]})
  (λk=>k<=l.length) (λk=>l.length-k) 0 (Nat.zero_le _) (by simp+decide[int,ints,vt,vI]) ?_
 intro k K
 refine Kh ?_
 by_cases H:k<l.length
 case neg=>
  have:k=l.length:=by omega
  subst this;have J:¬l.length=0:=λe=>F (List.eq_nil_of_length_eq_zero e)
  rw[List.take_length];simp+decide[int,ints,J,Z6,vI]
 have G:(k:Int)<l.length:=by omega
 obtain⟨m,em⟩:∃ m,l[k]=m:=⟨_,rfl⟩
 have e1:l[k]?=some m:=by rw[List.getElem?_eq_getElem H,em]
 have hsn:l.take (k+1)=l.take k++[m]:=by rw[List.take_succ_eq_append_getElem H,em]
 by_cases J:k=0
 .subst J
  have L:=SJ l m;simp+decide[int,ints,H,em,vt];refine gx.tO 0 [0,1] [.d (int m)] (vt l) (by simp[rho]) (by simp[int]) (by simp[Sym.los,Sym.lo]) (by simp[vt,vI];exact⟨rfl,rfl⟩) L ?_
  simp+decide[int,I64,Z6,vI];refine⟨1,H,by omega,?_⟩
  simp+decide
  rw[<-List.map_take,hsn];simp
 .have L:=SK l (l.take k) m (by rw[List.length_take];omega)
  rw[<-hsn] at L;simp+decide[int,ints,H,G,em,J,Z6];refine gx.tO 0 [0,1,3] [.d (int m)] (YL l (l.take k)) (by simp[rho]) (by simp[int]) (by simp[Sym.los,Sym.lo]) (by simp[YL,vI,int];exact⟨rfl,rfl⟩) L ?_
  simp+decide[int,I64,YL,vI];refine⟨⟨by omega,by omega⟩,k+1,H,by omega,?_⟩
  simp+decide
theorem SN(l:List Int)(H:l≠[])(G:l.length<2^40):zJ Tryz.prog 224 [.nils,.d (.fn 188 [.ptr [ints l]])] [] 0 (.ar 4) 5 [(4,.arr 3 1 (Jv l))] [4]:=by
 refine NW Tryz.func224 rfl c_224 (by simp[Sym.los,Sym.lo]) ?_
 refine Zu mixed 1 {n:=13,next:=2,slots:=[(1,.d (.fn 188 [.ptr [ints l]])),(2,.bp 0 0)],own:=[(0,.box 31 [.nils])]} rfl ?_ ?_
 .simp+decide[Tryz.f224,yn,ints]
 simp only[yL]
 refine Kj (Zu mixed 1 {n:=13,next:=2,slots:=[(2,.bp 0 0),(6,.d (.fn 188 [.ptr [ints l]]))],own:=[(0,.box 31 [.nils])]} rfl ?_ ?_)
 .simp+decide[yn,ints]
 simp only[yL]
 refine Kk (Ki (k:=0) (ids:=[2,0]) (args0:=[.yd 0,.d (.ptr [ints l])]) (own0:=vt l) (by rfl) (by simp[rho]) (by simp[rho]) (by simp[Sym.los,Sym.lo]) ?_ (SL l H G) ?_)
 .simp+decide[vt,vI,qO,vD,vE,jK,Tryz.f224]
 .simp+decide[Z6,vI]
theorem SO(l:List Int)(H:l≠[])(G:l.length<2^40):uC Tryz.prog 186 [.fn 188 [.ptr [ints l]]] 3 1 (Jv l):=by
 refine VB mixed Tryz.func186 rfl c_186 (by simp) ?_
 simp+decide[Tryz.f186]
 refine zF.mut [] [.nils,.d (.fn 188 [.ptr [ints l]])] [] (by rfl) (by simp) (by simp[Sym.los,Sym.lo]) (by simp) (SN l H G) ?_
 simp+decide
abbrev encI(n:Int):List Value:=[.int .i64 n]
abbrev uj(n:Int):List D:=[int n]
theorem BA:RowEnc encI uj 1 where
 pos:=by decide
 len:=λ_=>rfl
 one:=λx v hv=>by simp[encI] at hv;subst hv;rfl
 rlen:=λ_=>rfl
 read:=λw E x=>by simp only[encI,int,zi,R];exact⟨_,_,rfl,rfl,rfl,rfl⟩
 uniq:=λw E x vs h=>by
  simp only[int,zi,R] at h;obtain⟨_,_,rfl,_,rfl,rfl⟩:=h;rfl
def qp(l:List Int):List Int:=l.mergeSort λx y=>decide (x<=y)
theorem BB(l:List Int):flatK encI 1 l.toArray=(l.map (Value.int .i64)).toArray:=by
 have:=BA.flatK l
 rw[<-Array.toList_inj,this]
 clear this
 induction l with
 |nil=>rfl
 |cons n r ih=>simpa[encI] using ih
theorem SQ(l:List Int):putCells id 0 (l.map (Value.int .i64)).toArray=putCells (Value.int .i64) 0 l.toArray:=by
 funext c
 unfold putCells
 congr 1
 funext k x
 by_cases h:k<l.length
 .simp[h]
 .simp[h]
theorem UH(l:List Int):(qp l).length=l.length:=List.length_mergeSort l
theorem YM(l:List Int):(qp l).Perm l:=List.mergeSort_perm l _
theorem SR(l:List Int)(F:l≠[])(J:l.length<4611686018427387904):
  zJ Tryz.prog 187 [.ar 0] [(0,.arr 3 1 (l.map uj))] 1 (.d (.tup [])) 1 [(0,.arr 3 1 ((qp l).map uj))] []:=by
 refine GK BA c_187 F (UH l) ?_
 intro w E β vs H G g cap L M O
 simp only[zh] at H
 subst H
 have Q:Holds (Value.int .i64) w g 0 l.toArray:=by
  unfold HoldsK at O;rw[BB] at O;intro j hj;have:=O j (by simpa using hj)
  have K:j<l.length:=by simpa using hj
  simpa[K] using this
 have:=Any.slices_Sort_int Tryz.sortInt g 0 cap l w Q L J
 change Calls Tryz.prog 187 _ _ _ at this
 refine this.mono λe w' T=>?_
 obtain⟨V,n,os,X⟩:=T
 refine⟨V,n,os,?_⟩
 rw[X]
 unfold sortWorldK putRowK putRow
 rw[BB,SQ]
 rfl
theorem SS(l:List Int)(hs:l.Pairwise λa b=>a<b)(L:l.length<2^40):
  zJ Tryz.prog 128 [.ar 0] [(0,.arr 3 1 (l.map uj))] 1 (.ar 0) 1 [(0,.arr 3 1 (l.map uj))] []:=by
 refine xW mixed Tryz.func128 rfl c_128 (by simp[Sym.los,Sym.lo]) ?_
 by_cases M:l.length<2
 .have H:(l.length:Int)<2:=by omega
  simp+decide[Tryz.f128,H]
 have H:¬(l.length:Int)<2:=by omega
 simp+decide[Tryz.f128,H]
 refine zr mixed (λk:Nat=>{n:=61,next:=1,slots:=[(0,.ar 0),(3,.d (int k))],own:=[(0,.arr 3 1 (l.map uj))],base:=1})
  (λk=>1<=k/\k<=l.length) (λk=>l.length-k) 1 (by omega) (by simp+decide[int]) ?_
 rintro k ⟨J,O⟩
 by_cases G:k<l.length
 .have F:(k:Int)<l.length:=by omega
  obtain⟨j,rfl⟩:∃ j,k=j+1:=⟨k-1,by omega⟩
  have hj:j<l.length:=by omega
  have E:(j:Int)<l.length:=by omega
  have e1:l[j+1]?=some l[j+1]:=List.getElem?_eq_getElem G
  have e0:l[j]?=some l[j]:=List.getElem?_eq_getElem hj
  have K:¬l[j+1]=l[j]:=by
   have:=List.pairwise_iff_getElem.1 hs j (j+1) hj G (by omega)
   omega
  have j1:((j:Int)+1-1)=j:=by omega
  have jn:((j:Int)+1).toNat=j+1:=by omega
  have j0:(0:Int)<=(j:Int)+1:=by omega
  simp+decide[int,G,hj,E,K,j1,jn,j0,I64];exact λ_=>⟨by omega,by omega,⟨by omega,by omega⟩,j+2,⟨by omega,by omega⟩,by omega,by omega⟩
 .have:k=l.length:=by omega
  subst this;simp+decide[int]
theorem BD(l:List Int):zj Tryz.prog 130 [ints l] (ui l):=by
 refine zn mixed Tryz.func130 rfl c_130 ?_
 simp+decide[Tryz.f130,ints]
theorem U6(l:List Int)(H:l≠[])(G:l.length<2^40):uC Tryz.prog 129 [.fn 188 [.ptr [ints l]]] 3 1 ((qp l).map uj):=by
 refine VB mixed Tryz.func129 rfl c_129 (by simp) ?_
 simp+decide[Tryz.f129]
 refine zF.fresh (by rfl) (SO l H G) (by simp) ?_
 simp+decide
 refine zF.mut [1] [.ar 0] [(0,.arr 3 1 (l.map uj))] (by rfl) (by simp) (by simp[Sym.los,Sym.lo]) (by simp) (SR l H (by omega)) ?_
 simp+decide
theorem SU(l:List Int)(H:l≠[])(G:l.length<2^40)(F:l.Nodup):kT Tryz.prog 78 [ints l] (ints (qp l)):=by
 have hs:(qp l).Pairwise λa b=>a<b:=by
  have E:(qp l).Pairwise λa b=>decide (a<=b)=true:=List.pairwise_mergeSort (λa b c E K=>by simp at *;omega) (λa b=>by simp;omega) l
  have K:(qp l).Nodup:=(YM l).nodup_iff.2 F
  exact(List.pairwise_and_iff.2 ⟨E,K⟩).imp λ{a b} h=>by have:=h.1;have:=h.2;simp at *;omega
 have J:uC Tryz.prog 78 [ints l] 3 1 ((qp l).map uj):=by
  refine VB mixed Tryz.func78 rfl c_78 (by simp) ?_
  simp+decide[Tryz.f78];refine zg (BD l) ?_
  simp+decide
  refine zF.fresh (by rfl) (U6 l H G) (by simp[Jq]) ?_
  simp+decide
  refine zF.mut [1] [.ar 0] [(0,.arr 3 1 ((qp l).map uj))] (by rfl) (by simp) (by simp[Sym.los,Sym.lo]) (by simp) (SS (qp l) hs (by rw[UH];omega)) ?_
  simp+decide
 exact FY J (Jq _)
theorem SV{P:Program}{f:Nat}{ds:List D}(T sz:Nat){nx:Nat}{own':List (Nat×Obj')}{mv:List Nat}(h:zJ P f (ds.map .d) [] 0 .nils nx own' mv):uC P f ds T sz []:=by
 refine⟨h.1,by simp,λw E vs F K=>?_⟩
 have J:Mods E (.of w) (yN [] 0 0 []) (λ_=>.pointer none) qU w:=
  ⟨⟨λb L hmay=>hmay.elim (λh=>by have:w.heap.size<=b:=h;have:=F.1 b L;omega) (λh=>h),F.2.over (Over.less λb h=>h.elim id False.elim)⟩,⟨Nat.le_refl _,λ_ _ _=>rfl⟩,λ_=>rfl,rfl,rfl,Kept.refl _,by simp[yN],by simp[yN],by simp[yN],by intro t s M;simp[yN,zc] at M⟩
 have H:Over w E w (Ex E (λ_=>Value.pointer none) []):=Over.less λb L=>L.elim id λ⟨_,_,O,_⟩=>by cases O
 refine(h.2 E (.of w) _ w vs rfl J (zh.uw (zH.over H _ _ K))).mono λe w' Q=>?_
 obtain⟨β',v,rfl,G,_,hs⟩:=Q
 simp only[Sm] at hs
 exact⟨v,[],rfl,G.below.below,⟨by simp,.inl ⟨hs,rfl⟩⟩,λb L=>by rw[hs] at L;simp[blk] at L,by simp[zi]⟩
theorem SX:zJ Tryz.prog 188 [.yd 0,.d (.ptr [ints []])] (vt []) 2 (.d (.tup [])) 2 (vt []) []:=by
 refine zJ.VU (xW mixed Tryz.func188 rfl c_188 (by simp[Sym.los,Sym.lo]) ?_)
 simp+decide[Tryz.f188,ints]
 refine yU mixed (λ_:Unit=>{n:=16,next:=2,base:=2,slots:=[(6,.d (int 0)),(7,.d (int 0))],own:=vt []}) (λ_=>True) (λ_=>0) () trivial (by simp+decide[int,vt,vI]) ?_
 intro _ _
 refine Kh ?_
 simp+decide[int,vt,vI]
theorem SY:zJ Tryz.prog 224 [.nils,.d (ui [])] [] 0 .nils 3 [] []:=by
 refine NW Tryz.func224 rfl c_224 (by simp[Sym.los,Sym.lo]) ?_
 refine Zu mixed 1 {n:=13,next:=2,slots:=[(1,.d (ui [])),(2,.bp 0 0)],own:=[(0,.box 31 [.nils])]} rfl ?_ ?_
 .simp+decide[Tryz.f224,yn]
 simp only[yL]
 refine Kj (Zu mixed 1 {n:=13,next:=2,slots:=[(2,.bp 0 0),(6,.d (ui []))],own:=[(0,.box 31 [.nils])]} rfl ?_ ?_)
 .simp+decide[yn]
 simp only[yL]
 refine Kk (Ki (k:=0) (ids:=[2,0]) (args0:=[.yd 0,.d (.ptr [ints []])]) (own0:=vt []) (by rfl) (by simp[rho]) (by simp[rho]) (by simp[Sym.los,Sym.lo]) ?_ SX ?_)
 .simp+decide[vt,vI,qO,vD,vE,jK,Tryz.f224]
 .simp+decide[vt,vI]
theorem SZ:zJ Tryz.prog 248 [.nils,.d (int 0),.d (int 0)] [] 0 (.tup []) 0 [] []:=by
 refine xW mixed Tryz.func248 rfl c_248 (by simp[Sym.los,Sym.lo]) ?_
 simp+decide[Tryz.f248,int]
 refine⟨by unfold I64;omega,zr mixed (λ_:Unit=>{n:=49,next:=0,slots:=[(2,.d (int 0)),(6,.d (int 1))],own:=[]})
  (λ_=>True) (λ_=>0) () trivial (by simp+decide[int]) ?_⟩
 intro _ _
 simp+decide[int]
theorem T0:zJ Tryz.prog 225 [.nils,.d (int 0),.d (int 0),.d (int 0)] [] 0 (.tup []) 0 [] []:=by
 refine xW mixed Tryz.func225 rfl c_225 (by simp[Sym.los,Sym.lo]) ?_
 simp+decide[Tryz.f225,int]
 refine zr mixed (λ_:Unit=>{n:=134,next:=0,slots:=[(0,.nils),(1,.d (int 0)),(2,.d (int 0))],own:=[]})
  (λ_=>True) (λ_=>0) () trivial (by simp+decide[int]) ?_
 intro _ _
 simp+decide[int]
 refine⟨by unfold I64;omega,?_⟩
 refine zF.mut [] [.nils,.d (int 0),.d (int 0)] [] (by rfl) (by simp[int]) (by simp) (by simp) SZ ?_
 simp+decide
theorem T8:zJ Tryz.prog 187 [.nils] [] 0 (.tup []) 0 [] []:=by
 refine xW mixed Tryz.func187 rfl c_187 (by simp[Sym.los,Sym.lo]) ?_
 simp+decide[Tryz.f187,jD,show IntKind.wrap .u64 0=0 from rfl]
 refine zg Ry ?_
 simp+decide[int]
 refine zF.mut [] [.nils,.d (int 0),.d (int 0),.d (int 0)] [] (by rfl) (by simp[int]) (by simp) (by simp) T0 ?_
 simp+decide
theorem T9:zJ Tryz.prog 128 [.nils] [] 0 .nils 0 [] []:=by
 refine xW mixed Tryz.func128 rfl c_128 (by simp[Sym.los,Sym.lo]) ?_
 simp+decide[Tryz.f128]
theorem Ta:zJ Tryz.prog 186 [.d (ui [])] [] 0 .nils 3 [] []:=by
 refine xW mixed Tryz.func186 rfl c_186 (by simp[Sym.los,Sym.lo]) ?_
 simp+decide[Tryz.f186]
 refine zF.mut [] [.nils,.d (ui [])] [] (by rfl) (by simp) (by simp[Sym.los,Sym.lo]) (by simp) SY ?_
 simp+decide
theorem Tb:zJ Tryz.prog 129 [.d (ui [])] [] 0 .nils 3 [] []:=by
 refine xW mixed Tryz.func129 rfl c_129 (by simp[Sym.los,Sym.lo]) ?_
 simp+decide[Tryz.f129]
 refine zF.mut [] [.d (ui [])] [] (by rfl) (by simp) (by simp[Sym.los,Sym.lo]) (by simp) Ta ?_
 simp+decide
 refine zF.mut [] [.nils] [] (by rfl) (by simp) (by simp[Sym.los,Sym.lo]) (by simp) T8 ?_
 simp+decide
theorem Tc:kT Tryz.prog 78 [ints []] (ints []):=by
 have h:zJ Tryz.prog 78 [.d (ints [])] [] 0 .nils 3 [] []:=by
  refine xW mixed Tryz.func78 rfl c_78 (by simp[Sym.los,Sym.lo]) ?_
  simp+decide[Tryz.f78];refine zg (BD []) ?_
  simp+decide
  refine zF.mut [] [.d (ui [])] [] (by rfl) (by simp) (by simp) (by simp) Tb ?_
  simp+decide
  refine zF.mut [] [.nils] [] (by rfl) (by simp) (by simp[Sym.los,Sym.lo]) (by simp) T9 ?_
  simp+decide
 exact FY (SV (ds:=[.sl []]) 3 1 h) rfl
theorem Td:qp []=[]:=by simp[qp]
theorem BE(l:List Int)(H:l.length<2^40)(G:l.Nodup):kT Tryz.prog 78 [ints l] (ints (qp l)):=by
 by_cases h:l=[]
 .subst h;rw[Td];exact Tc
 .exact SU l h H G
end Go.V.Doc
namespace Go.V.Doc
open Go Go.Proofs
section
variable {P:Program} {st:St} {Q:DE->St->Prop}
theorem Te{f:Nat}{fn:Func}{c:Code}(F:P.funcs[f]?=some fn)(K:fn.body=some c)(G:callable P f=true){args:List D}{r:D}
  (h:Triple P c (jG (uD P fn.results.toList r)) (jj fn.ntmps args)):zj P f args r:=by
 refine⟨G,λw E vs J L=>?_⟩
 refine calls_of_wp F K ?_
 refine wp_mono (h E (.of w) _ _ w (Mods.init J L)) ?_
 rintro e a' w' ⟨de,st',β',M,O,H⟩
 cases e <;> cases de <;> simp only[yr] at M
 .obtain⟨v,Q,T⟩:=wN H O
  exact⟨H.defers,v,Q,v,rfl,H.below.below,T⟩
 .exact O.elim
 .obtain⟨v,Q,T⟩:=wN H O
  exact⟨H.defers,v,Q,v,rfl,H.below.below,T⟩
def Jw{α:Type}(S:α->St)(inv:α->Prop)(Q:DE->St->Prop):DE->St->Prop
 |.normal,st=>∃ x,inv x/\Weak st (S x)
 |e,st=>Q e st
theorem BF{α:Type}{x y:Code}(S:α->St)(inv:α->Prop)(h:Triple P x (Jw S inv Q) st)(G:∀ z,inv z->Triple P y Q (S z)):Triple P (.seq x y) Q st:=by
 intro X w0 β a w F
 refine wp_seq (wp_mono (h X w0 β a w F) ?_)
 rintro e a' w' ⟨de,st',β',E,K,H⟩
 cases e <;> cases de <;> simp only[yr] at E
 .obtain⟨z,J,L⟩:=K
  exact G z J X w0 β' a' w' (H.weak L)
 .subst E;exact⟨.exit _,st',β',rfl,K,H⟩
 .exact⟨.ret,st',β',trivial,K,H⟩
theorem UI{c:Code}{id T e sz:Nat}(h:st.look id=some (.box T [.nils]))(E:Triple P c Q {st.new (.arr e sz []) with own:=zV id (.box T [.ar st.next]) (st.new (.arr e sz [])).own}):Triple P c Q st:=by
 intro X w0 β a w K
 refine E X w0 (λi=>if i=st.next then .slice none 0 0 else β i) a w ?_
 have G:=K.Vg e sz
 obtain⟨hid,_,b,vs,J,L,M,hs,O⟩:=K.obj h
 have F:¬st.next=id:=by omega
 have H:¬id=st.next:=by omega
 have V:(st.new (.arr e sz [])).look id=some (.box T [.nils]):=by simp only[St.look,St.new,zc,if_neg F];exact h
 refine G.update V (b:=b) (by simp only[if_neg H];rw[J];rfl) L (λ_ _=>rfl) rfl rfl rfl rfl (jg.refl _) (by simp[Obj'.lo,Sym.los,Sym.lo,St.new]) ?_
 refine⟨b,vs,by simp only[if_neg H];exact J,L,M,?_,O⟩
 simp only[zh,Sm] at hs ⊢
 simpa using hs
theorem BG{α:Type}{S:α->St}{inv:α->Prop}:Jw S inv Q .normal st = ∃ x,inv x/\Weak st (S x):=rfl
theorem BH{α:Type}{S:α->St}{inv:α->Prop}(i:Nat):Jw S inv Q (.exit i) st=Q (.exit i) st:=rfl
theorem BI{α:Type}{S:α->St}{inv:α->Prop}:Jw S inv Q .ret st=Q .ret st:=rfl
theorem Tf{c:Code}{id T:Nat}(h:st.look id=some (.map T []))(H:Triple P c Q {st with own:=zV id (.raw (.mq []) []) st.own}):Triple P c Q st:=
 λX w0 β a w hm=>H X w0 β a w (hm.mq0 h)
end
theorem BJ{st:St}{m:Nat}:∀ {l:List (Nat×Sym)},(∀ t s,(t,s)∈l->zc st.slots t=some s/\Sym.lo m s)->Yh st m l
 | [],_=>trivial
 |(t,s)::r,h=>by
  obtain⟨H,G⟩:=h t s List.mem_cons_self;unfold Yh;rw[H];exact⟨rfl,G,BJ λt s F=>h t s (List.mem_cons_of_mem _ F)⟩
theorem BK{st:St}{m:Nat}:∀ {l:List (Nat×Obj')},(∀ t s,(t,s)∈l->zc st.own t=some s/\t<m/\s.lo m)->vV st m l
 | [],_=>trivial
 |(t,s)::r,h=>by
  obtain⟨H,G,F⟩:=h t s List.mem_cons_self;unfold vV;rw[H];exact⟨rfl,G,F,BK λt s E=>h t s (List.mem_cons_of_mem _ E)⟩
theorem Z7{α:Type}:∀ {l:List (Nat×α)} {t:Nat} {s:α},(l.map (·.1)).Nodup->(t,s)∈l->zc l t=some s
 | [],t,s,_,h=>by cases h
 |(u,x)::r,t,s,H,h=>by
  simp only[List.map_cons,List.nodup_cons] at H;rcases List.mem_cons.1 h with e | h
  .cases e;simp[zc]
  .have:¬u=t:=λe=>H.1 (by rw[e];exact List.mem_map.2 ⟨_,h,rfl⟩)
   simp only[zc,if_neg this];exact Z7 H.2 h
theorem QC{st st':St}(H:st'.n=st.n)(G:st'.base=st.base)(F:st'.base<=st'.next)(E:∀ id∈st.moved,id∈st'.moved)(K:(st'.own.map (·.1)).Nodup)
  (hs:∀ t s,(t,s)∈st'.slots->zc st.slots t=some s/\Sym.lo st'.next s) (J:∀ t s,(t,s)∈st'.own->zc st.own t=some s/\t<st'.next/\s.lo st'.next):Weak st st':=
 ⟨⟨H,G,F,E⟩,K,BJ hs,BK J⟩
attribute [local simp] BG BH BI
def y8(d:Dc)(L:List ye):List (Nat×Obj'):=[(0,.box 53 (yh d)),(2,.raw (.mq (xA L)) (yy L)),(3,.box 182 [.mp 2])]
def xe(d:Dc)(id:Int)(x:Nat×List ye×Nat):St:=
 {n:=46,next:=x.2.2,slots:=[(1,.d (int id)),(2,.bp 0 0),(5,.bp 3 0),(14,.d (zy d.notes)),(15,.d (int d.notes.length)),(16,.d (int x.1))],own:=y8 d x.2.1++yW x.2.1,moved:=zO x.2.1}
structure UInv(d:Dc)(x:Nat×List ye×Nat):Prop where
 le:x.1<=d.notes.length
 nx:4<=x.2.2
 ids:∀ i∈zO x.2.1,4<=i/\i<x.2.2
 nodup:(zO x.2.1).Nodup
 kids:∀ p,vr x.2.1 p=jw (d.notes.take x.1) p
theorem UInv.own{d:Dc}{x:Nat×List ye×Nat}(h:UInv d x){id:Int}:((xe d id x).own.map (·.1)).Nodup/\∀ t s,(t,s)∈(xe d id x).own->zc (xe d id x).own t=some s/\t<x.2.2/\s.lo x.2.2:=by
 obtain⟨k,L,nx⟩:=x
 obtain⟨F,E,K,J,M⟩:=h
 simp only at F E K J M
 have H:((xe d id (k,L,nx)).own.map (·.1)).Nodup:=by
  have e:(xe d id (k,L,nx)).own.map (·.1)=[0,2,3]++zO L:=by simp[xe,y8,yW,zO,Function.comp_def]
  rw[e,List.nodup_append];refine⟨by decide,J,λa O b Q e=>?_⟩
  subst e;have:=(K a Q).1
  simp at O
  omega
 refine⟨H,λt s T=>⟨Z7 H T,?_⟩⟩
 have G:Sym.los nx (yy L):=by
  clear H T J M;induction L with
  |nil=>simp[yy,Sym.los]
  |cons g L ih=>
   have:=ih λi hi=>K i (by simp only[zO,List.map_cons,List.mem_cons] at hi ⊢;exact .inr hi)
   simp only[yy,List.map_cons,Sym.los,Sym.lo] at this ⊢;exact⟨(K g.2.1 (by simp[zO])).2,this⟩
 simp only[xe,y8,List.cons_append,List.nil_append,List.mem_cons] at T
 rcases T with e | e | e | T
 .cases e;exact⟨by simp only;omega,by simp[Obj'.lo,Sym.los,Sym.lo]⟩
 .cases e;exact⟨by simp only;omega,by simpa[Obj'.lo] using G⟩
 .cases e;exact⟨by simp only;omega,by simp[Obj'.lo,Sym.los,Sym.lo];omega⟩
 .obtain⟨g,V,e⟩:=List.mem_map.1 T
  cases e;exact⟨(K g.2.1 (List.mem_map.2 ⟨g,V,rfl⟩)).2,by simp[Obj'.lo]⟩
theorem QD{d:Dc}{m:Nat}{x:Nat×List ye×Nat}(G:UInv d (m,x.2)){id:Int}{st:St}(F:st.n=46)(E:st.base=0)(K:∀ i∈st.moved,i∈zO x.2.1)
  (hs:∀ t s,(t,s)∈(xe d id x).slots->zc st.slots t=some s) (J:∀ t s,zc (xe d id x).own t=some s->zc st.own t=some s):Weak st (xe d id x):=by
 have L:=G.own (id:=id)
 refine QC F.symm E.symm (Nat.zero_le _) K L.1 (λt s M=>⟨hs t s M,?_⟩) (λt s M=>⟨J t s (L.2 t s M).1,(L.2 t s M).2⟩)
 have H:=G.nx
 simp only at H
 simp only[xe,List.mem_cons,List.not_mem_nil,or_false,Prod.mk.injEq] at M ⊢
 rcases M with⟨_,rfl⟩ | ⟨_,rfl⟩ | ⟨_,rfl⟩ | ⟨_,rfl⟩ | ⟨_,rfl⟩ | ⟨_,rfl⟩ <;> simp[Sym.lo] <;> omega
def zE(d:Dc)(id:Int)(k:Nat)(L:List ye)(nx:Nat)(n:Nt):St:=
 {n:=46,next:=nx+1,slots:=[(1,.d (int id)),(2,.bp 0 0),(5,.bp 3 0),(7,.bp nx 0),(14,.d (zy d.notes)),(15,.d (int d.notes.length)),(16,.d (int k))],own:=(nx,.box 72 (noteCells n))::(y8 d L++yW L),moved:=zO L}
theorem UInv.Tg{d:Dc}{x:Nat×List ye×Nat}(h:UInv d x):x.2.2∉zO x.2.1:=λH=>by have:=(h.ids _ H).2;omega
theorem Ti{d:Dc}{id:Int}{k:Nat}{L:List ye}{nx:Nat}{n:Nt}(H:UInv d (k,L,nx)){st:St}(G:st.n=46)(F:st.base=0)(E:∀ i∈st.moved,i∈zO L)
  (hs:∀ t s,(t,s)∈(zE d id k L nx n).slots->zc st.slots t=some s) (K:st.own=(zE d id k L nx n).own):Weak st (zE d id k L nx n):=by
 have J:=H.own (id:=id)
 have M:=H.nx
 simp only at M
 have O:((zE d id k L nx n).own.map (·.1)).Nodup:=by
  have e:(zE d id k L nx n).own.map (·.1)=nx::(xe d id (k,L,nx)).own.map (·.1):=rfl
  rw[e,List.nodup_cons];refine⟨λQ=>?_,J.1⟩
  obtain⟨⟨t,s⟩,T,V⟩:=List.mem_map.1 Q;have:=(J.2 t s T).2.1
  simp only at V this
  omega
 refine QC G.symm F.symm (Nat.zero_le _) E O (λt s Q=>⟨hs t s Q,?_⟩) (λt s Q=>⟨by rw[K];exact Z7 O Q,?_⟩)
 .simp only[zE,List.mem_cons,List.not_mem_nil,or_false,Prod.mk.injEq] at Q ⊢
  rcases Q with⟨_,rfl⟩ | ⟨_,rfl⟩ | ⟨_,rfl⟩ | ⟨_,rfl⟩ | ⟨_,rfl⟩ | ⟨_,rfl⟩ | ⟨_,rfl⟩ <;> simp[Sym.lo] <;> omega
 .rcases List.mem_cons.1 Q with e | Q
  .cases e
   exact⟨by simp only[zE];omega,by simp[Obj'.lo,Sym.los,Sym.lo]⟩
  .have:=(J.2 t s Q).2
   simp only at this
   exact⟨by simp only[zE];omega,Obj'.vR (by simp only[zE];omega) this.2⟩
theorem BL:∀ {L:List ye} {p:Int} {g:Nat×List Int},qB L p=some g->vr L p=g.2
 | [],p,g,h=>by cases h
 |a::L,p,g,h=>by
  unfold qB at h;unfold vr;split at h
  .rename_i e;cases h;rw[if_pos e]
  .rename_i e;rw[if_neg e];exact BL h
theorem BM(L:List ye):yy L=(zO L).map Sym.ar:=by simp[yy,zO]
theorem Tj{d:Dc}{L L':List ye}{nx:Nat}{g:Nat×List Int}{ob:Obj'}{bx:Obj'}(E:xA L'=xA L)(hi:zO L'=zO L)(K:∀ i,zc (yW L') i=if i=g.1 then some ob else zc (yW L) i)
  (J:∀ i∈zO L,4<=i/\i<nx) (O:g.1∈zO L) (G:4<=nx):∀ t s,zc (y8 d L'++yW L') t=some s->zc (zV 2 (.raw (.mq (xA L)) (yy L)) (xI g.1 ob ((nx,bx)::(y8 d L++yW L)))) t=some s:=by
 intro t s hs
 have F:=J _ O
 rw[gp,Zt]
 rw[ZT] at hs
 by_cases t2:t=2
 .subst t2
  simp[y8,zc] at hs;rw[if_pos rfl,<-hs,E,BM,BM,hi]
 rw[if_neg t2]
 by_cases t0:t=0
 .subst t0
  have b0:¬0=g.1:=by omega
  have n0:¬nx=0:=by omega
  simp[y8,zc] at hs;subst hs;simp[y8,zc,n0,b0,qa,yD,zA,yh]
 by_cases t3:t=3
 .subst t3
  have b0:¬3=g.1:=by omega
  have b2:¬2=g.1:=by omega
  have n0:¬nx=3:=by omega
  simp[y8,zc] at hs;subst hs;simp[y8,zc,n0,b0,b2,qa,yD,zA]
 have e0:¬0=t:=λe=>t0 e.symm
 have e2:¬2=t:=λe=>t2 e.symm
 have e3:¬3=t:=λe=>t3 e.symm
 simp[y8,zc,e0,e2,e3] at hs
 have H:¬nx=t:=by
  intro e;rw[<-e,K,if_neg (by omega)] at hs
  have:=(J _ (YK hs).1).2
  omega
 simp only[y8,List.cons_append,List.nil_append,zc,if_neg H,if_neg e0,if_neg e2,if_neg e3]
 rw[K] at hs
 by_cases e:t=g.1
 .rw[if_pos e] at hs
  cases hs;cases Q:zc (yW L) t with
  |none=>
   exfalso
   rw[e] at Q;have:∀ M:List ye,g.1∈zO M->zc (yW M) g.1≠none:=by
    intro M;induction M with
    |nil=>intro h;simp[zO] at h
    |cons a M ih=>
     intro h;simp only[zO,List.map_cons,List.mem_cons] at h;simp only[yW,List.map_cons,zc];by_cases T:a.2.1=g.1
     .rw[if_pos T];simp
     .rw[if_neg T];exact ih (h.resolve_left λe=>T e.symm)
   exact this L O Q
  |some o=>simp[e]
 .rw[if_neg e] at hs
  obtain⟨_,ks,rfl⟩:=YK hs;rw[hs];simp[e,qa]
theorem Tk{d:Dc}{L:List ye}{p x:Int}{nx:Nat}{bx:Obj'}{o0:Obj'}(E:qB L p=none)(K:∀ i∈zO L,4<=i/\i<nx)(F:4<=nx):
  ∀ t s,zc (y8 d (qN L p x (nx+1))++yW (qN L p x (nx+1))) t=some s ->
   zc (zV 2 (.raw (.mq (xA L++[p])) (yy L++[.ar (nx+1)])) (xI (nx+1) (.arr 3 1 [[int x]]) ((nx+1,o0)::(nx,bx)::(y8 d L++yW L)))) t=some s:=by
 intro t s hs
 have H:nx+1∉zO L:=λJ=>by have:=(K _ J).2;omega
 have M:=SI (x:=x) (nx:=nx+1) E H
 rw[gp,Zt]
 rw[ZT] at hs
 by_cases t2:t=2
 .subst t2
  simp[y8,zc] at hs;rw[if_pos rfl,<-hs,Ju E];simp[xA,yy]
 rw[if_neg t2]
 by_cases t0:t=0
 .subst t0
  have b0:¬0=nx+1:=by omega
  have n0:¬nx=0:=by omega
  simp[y8,zc] at hs;subst hs;simp[y8,zc,n0,qa,yD,zA,yh]
 by_cases t3:t=3
 .subst t3
  have b0:¬nx+1=3:=by omega
  have b1:¬3=nx+1:=by omega
  have b2:¬2=nx+1:=by omega
  have n0:¬nx=3:=by omega
  simp[y8,zc] at hs;subst hs;simp only[y8,List.cons_append,List.nil_append,zc,if_neg b0,if_neg n0];simp[b1,b2,qa,yD,zA]
 have e0:¬0=t:=λe=>t0 e.symm
 have e2:¬2=t:=λe=>t2 e.symm
 have e3:¬3=t:=λe=>t3 e.symm
 simp[y8,zc,e0,e2,e3] at hs
 rw[M] at hs
 by_cases e:t=nx+1
 .subst e
  rw[if_pos rfl] at hs;cases hs;simp[zc]
 rw[if_neg e] at hs
 have G:¬nx=t:=by
  intro e;rw[<-e] at hs;have:=(K _ (YK hs).1).2
  omega
 have en:¬nx+1=t:=λe2=>e e2.symm
 obtain⟨_,ks,rfl⟩:=YK hs
 simp only[y8,List.cons_append,List.nil_append,zc,if_neg en,if_neg G,if_neg e0,if_neg e2,if_neg e3,hs]
 simp[e,qa]
theorem BN(id:Nat)(x:D):∀ (l:List (Nat×Obj')) (t:Nat),zc (xZ id x l) t=if t=id then none else (zc l t).map (gi id x)
 | [],t=>by simp[xZ,zc]
 |(k,o)::r,t=>by
  have ih:=BN id x r t;unfold xZ;by_cases e:k=id
  .rw[if_pos e,ih]
   by_cases e2:t=id
   .rw[if_pos e2,if_pos e2]
   .have:¬k=t:=λe3=>e2 (e3.symm.trans e)
    rw[if_neg e2,if_neg e2];simp only[zc,if_neg this]
  .rw[if_neg e]
   simp only[zc];by_cases e2:k=t
   .have:¬t=id:=λe3=>e (e2.trans e3)
    rw[if_pos e2,if_pos e2,if_neg this];rfl
   .rw[if_neg e2,if_neg e2,ih]
def xB(d:Dc)(id:Int)(nx:Nat)(M:List Nat)(L1 L2:List ye):St:=
 {n:=46,next:=nx,slots:=[(1,.d (int id)),(2,.bp 0 0),(5,.bp 3 0)],own:=[(0,.box 53 (yh d)),(2,.raw (.mq (xA (L1++L2))) ((L1.map λg=>Sym.d (ints g.2.2))++yy L2)),(3,.box 182 [.mp 2])]++yW L2,moved:=M}
theorem BO(j:Nat)(x:D):∀ L:List ye,xT j x (L.map λg=>Sym.d (ints g.2.2))=L.map λg=>Sym.d (ints g.2.2)
 | []=>rfl
 |g::L=>by simp only[List.map_cons,xT,thaw,BO j x L]
theorem BP(j:Nat)(x:D):∀ l m:List Sym,xT j x (l++m)=xT j x l++xT j x m
 | [],m=>rfl
 |s::l,m=>by simp only[List.cons_append,xT,BP j x l m]
theorem BQ{j:Nat}{x:D}:∀ {L:List ye},j∉zO L->xT j x (yy L)=yy L
 | [],_=>rfl
 |g::L,h=>by
  simp only[zO,List.map_cons,List.mem_cons,not_or] at h;have ih:=BQ (x:=x) (L:=L) h.2;have:¬g.2.1=j:=λe=>h.1 e.symm
  simp only[yy,List.map_cons,xT,thaw,if_neg this] at ih ⊢;rw[ih]
theorem BR{X:Nat->Prop}{w0:Base}{β:Nat->Value}{a:Act}{w:World}{d:Dc}{id:Int}{nx:Nat}{M:List Nat}(T:4<=nx):∀ (L2 L1:List ye),(∀ i∈zO L2,4<=i/\i<nx)->(zO L2).Nodup->Mods X w0 (xB d id nx M L1 L2) β a w->Mods X w0 (xB d id nx M (L1++L2) []) β a w
 | [],L1,_,_,A=>by rw[List.append_nil];exact A
 |g::L2,L1,B,H,A=>by
  have e:L1++g::L2=(L1++[g])++L2:=by simp
  rw[e];simp only[zO,List.map_cons,List.nodup_cons] at H;have C:=B g.2.1 (by simp[zO])
  have E:g.2.1∉zO L2:=H.1
  have G:∀ i∈zO L2,4<=i/\i<nx:=λi hi=>B i (by simp only[zO,List.map_cons,List.mem_cons] at hi ⊢;exact .inr hi)
  refine BR T L2 (L1++[g]) G H.2 ?_
  have n0:¬0=g.2.1:=by omega
  have n2:¬2=g.2.1:=by omega
  have n3:¬3=g.2.1:=by omega
  have J:(xB d id nx M L1 (g::L2)).look g.2.1=some (.arr 3 1 (g.2.2.map λn=>[int n])):=by
   simp only[St.look,xB,yW,List.map_cons,List.cons_append,List.nil_append,zc,if_neg n0,if_neg n2,if_neg n3,if_true]
  have I:=A.vk g.2.1;unfold St.vk at I;rw[J] at I;refine I.weak (QC rfl rfl (Nat.zero_le _) (λ_ h=>h) ?_ ?_ ?_)
  .have:(xB d id nx M (L1++[g]) L2).own.map (·.1)=[0,2,3]++zO L2:=by simp[xB,yW,zO,Function.comp_def]
   rw[this,List.nodup_append];refine⟨by decide,H.2,λa N b P e=>?_⟩
   subst e;have:=(G a P).1
   simp at N
   omega
  .intro t s A
   simp only[xB,List.mem_cons,List.not_mem_nil,or_false,Prod.mk.injEq] at A;rcases A with⟨rfl,rfl⟩ | ⟨rfl,rfl⟩ | ⟨rfl,rfl⟩ <;> simp[xB,kV,thaw,zc,Sym.lo] <;> omega
  .intro t s F
   have V:Sym.los nx ((L1++[g]).map (λg=>Sym.d (ints g.2.2))++yy L2):=by
    have S:∀ (l m:List Sym),Sym.los nx l->Sym.los nx m->Sym.los nx (l++m):=by
     intro l;induction l with
     |nil=>intro m _ h;exact h
     |cons a l ih=>intro m S W;simp only[List.cons_append,Sym.los] at S ⊢;exact⟨S.1,ih m S.2 W⟩
    refine S _ _ ?_ ?_
    .generalize L1++[g]=L
     induction L with
     |nil=>simp[Sym.los]
     |cons a l ih=>simp only[List.map_cons,Sym.los,Sym.lo];exact⟨trivial,ih⟩
    .clear J I F H E A e
     induction L2 with
     |nil=>simp[yy,Sym.los]
     |cons a l ih=>
      simp only[yy,List.map_cons,Sym.los,Sym.lo];exact⟨(G a.2.1 (by simp[zO])).2,ih (λi hi=>B i (by simp only[zO,List.map_cons,List.mem_cons] at hi ⊢;rcases hi with h | h;exact .inl h;exact .inr (.inr h))) (λi hi=>G i (by simp only[zO,List.map_cons,List.mem_cons] at hi ⊢;exact .inr hi))⟩
   simp only[xB,List.cons_append,List.nil_append,List.mem_cons] at F;rw[BN];rcases F with e | e | e | F
   .cases e;exact⟨by rw[if_neg n0];simp[xB,zc,gi,xT,thaw,yh],by simp only[xB];omega,by simp[Obj'.lo,Sym.los,Sym.lo]⟩
   .cases e
    refine⟨?_,by simp only[xB];omega,by simp only[Obj'.lo];exact V⟩
    rw[if_neg n2];have hc:yy (g::L2)=Sym.ar g.2.1::yy L2:=rfl
    simp only[xB,List.cons_append,List.nil_append,zc,if_true,Option.map_some,gi,show ¬(0:Nat)=2 by decide,if_false,BP,BO,hc,xT,thaw,BQ E]
    simp[ints,int]
   .cases e;exact⟨by rw[if_neg n3];simp[xB,zc,gi,xT,thaw,n2],by simp only[xB];omega,by simp[Obj'.lo,Sym.los,Sym.lo,xB];omega⟩
   .obtain⟨q,hq,e⟩:=List.mem_map.1 F
    cases e;have O:q.2.1∈zO L2:=List.mem_map.2 ⟨q,hq,rfl⟩
    have Z:=G _ O;have Q:¬q.2.1=g.2.1:=λe=>E (by rw[<-e];exact O)
    have K:¬g.2.1=q.2.1:=λe=>Q e.symm
    have Y:zc (yW L2) q.2.1=some (.arr 3 1 (q.2.2.map λn=>[int n])):=Z7 (by simpa[yW,zO,Function.comp_def] using H.2) (List.mem_map.2 ⟨q,hq,rfl⟩)
    refine⟨?_,by simp only[xB];omega,by simp[Obj'.lo]⟩
    rw[if_neg Q];have m0:¬0=q.2.1:=by omega
    have m2:¬2=q.2.1:=by omega
    have m3:¬3=q.2.1:=by omega
    have hc:yW (g::L2)=(g.2.1,Obj'.arr 3 1 (g.2.2.map λn=>[int n]))::yW L2:=rfl
    simp only[xB,List.cons_append,List.nil_append,zc,if_neg m0,if_neg m2,if_neg m3,hc,if_neg K,Y];rfl
def ZU(d:Dc)(id:Int)(L:List ye):St:=
 {n:=46,next:=4,slots:=[(1,.d (int id)),(2,.bp 0 0),(5,.bp 3 0)],own:=[(0,.box 53 (yh d)),(3,.box 182 [.d (.mp (uT L))])],moved:=zO L}
theorem Tl{P:Program}{c:Code}{Q:DE->St->Prop}{d:Dc}{id:Int}{m:Nat}{x:Nat×List ye×Nat}(K:UInv d (m,x.2))(h:Triple P c Q (ZU d id x.2.1)):Triple P c Q (xe d id x):=by
 intro X w0 β a w J
 obtain⟨k,L,nx⟩:=x
 have M:∀ i∈zO L,4<=i/\i<nx:=K.ids
 have G:(zO L).Nodup:=K.nodup
 have E:4<=nx:=K.nx
 have O:=K.own (id:=id)
 have m0:Mods X w0 (xB d id nx (zO L) [] L) β a w:=by
  refine J.weak (QC rfl rfl (Nat.zero_le _) (λ_ h=>h) O.1 ?_ O.2)
  intro t s J;simp only[xB,List.mem_cons,List.not_mem_nil,or_false,Prod.mk.injEq] at J;rcases J with⟨rfl,rfl⟩ | ⟨rfl,rfl⟩ | ⟨rfl,rfl⟩ <;> simp[xe,xB,zc,Sym.lo] <;> omega
 have m1:=BR E L [] M G m0
 rw[List.nil_append] at m1
 have F:(xB d id nx (zO L) L []).look 2=some (.raw (.mq (xA L)) ((L.map λg=>ints g.2.2).map Sym.d)):=by simp[xB,St.look,zc,yy,Function.comp_def]
 have m2:=(m1.mqD (T:=182) F).vk 2
 have V:((xA L).zip (L.map λg=>ints g.2.2)).map (λp=>[D.int .i64 p.1,p.2])=uT L:=by
  clear J m0 m1 m2 F O K h M G;induction L with
  |nil=>rfl
  |cons g L ih=>simp only[xA,uT,List.map_cons,List.zip_cons_cons,int] at ih ⊢;rw[ih]
 rw[V] at m2
 have H:St.look {xB d id nx (zO L) L [] with own:=zV 2 (.map 182 (uT L)) (xB d id nx (zO L) L []).own} 2=some (.map 182 (uT L)):=by simp[xB,St.look,zc,zV]
 unfold St.vk at m2
 rw[H] at m2
 refine h X w0 β a w (m2.weak (QC rfl rfl (Nat.zero_le _) (λ_ h=>h) (by simp[ZU]) ?_ ?_))
 .intro t s J
  simp only[ZU,List.mem_cons,List.not_mem_nil,or_false,Prod.mk.injEq] at J;rcases J with⟨rfl,rfl⟩ | ⟨rfl,rfl⟩ | ⟨rfl,rfl⟩ <;> simp[ZU,xB,kV,thaw,zc,Sym.lo]
 .intro t s J
  simp only[ZU,List.mem_cons,List.not_mem_nil,or_false,Prod.mk.injEq] at J;rcases J with⟨rfl,rfl⟩ | ⟨rfl,rfl⟩ <;> simp[ZU,xB,zV,xZ,gi,xT,thaw,zc,Sym.lo,Sym.los,Obj'.lo,yW,yh]
end Go.V.Doc
namespace Go.V.Doc
open Go Go.Proofs
attribute [local simp] BG BH BI
theorem Tn(d:Dc)(h:Rgt d)(hl:d.notes.length<2^40)(n:Nt)(hn:n∈d.notes)(f:Nat)(hf:(d.tiers.length:Int)-n.tier<=f)(hc:(yP d.notes f n.id).length<2^40):zj Tryz.prog 59 [zw d,int n.id] (ints (qp (yP d.notes f n.id))):=by
 obtain⟨id,hid⟩:∃ id,n.id=id:=⟨_,rfl⟩
 have hG:=ZG d n.id (by omega)
 rw[ju h hn] at hG
 have N:=hc
 have hS:=BE (yP d.notes f n.id) hc (Bq h f n hn hf)
 have J:∀ L:List ye,(∀ p,vr L p=jw d.notes p)->Jt L d.notes f n.id:=λL hL=>SG h hL f n hn hf
 rw[hid] at hG N hS J hc ⊢
 refine Te Tryz.func59 rfl c_59 ?_
 refine jI mixed 2 {n:=46,next:=4,slots:=[(1,.d (int id)),(2,.bp 0 0),(5,.bp 3 0)],own:=[(0,.box 53 (yh d)),(2,.map 182 []),(3,.box 182 [.mp 2])]} rfl ?_ ?_
 .simp+decide[Tryz.f59,yn,zw,Dc.row,int,zy,zK]
 simp only[Tryz.f59,yL]
 refine Tf (id:=2) rfl ?_
 refine BF (xe d id) (λx=>UInv d x/\x.1=d.notes.length) ?_ ?_
 .refine jI mixed 1 (xe d id (0,[],4)) rfl ?_ ?_
  .simp+decide[yn,xe,y8,xA,yy,yW,zO,zV,int,zy]
  simp only[yL];refine Yo (yU mixed (xe d id) (UInv d) (λx=>d.notes.length-x.1) (0,[],4) ?_ ?_ ?_)
  .exact⟨Nat.zero_le _,by simp,by simp[zO],by simp[zO],by simp[vr,jw]⟩
  .simp+decide[xe,y8,xA,yy,yW,zO]
  intro x hx;by_cases K:x.1<d.notes.length
  case neg=>
   have hk:x.1=d.notes.length:=by have:=hx.le;omega
   refine zL mixed ?_
   simp+decide[xe,int,hk,-Weak];refine⟨x.1,x.2.1,x.2.2,⟨hx,hk⟩,?_⟩
   refine QD (x:=(x.1,x.2.1,x.2.2)) hx rfl rfl (λ_ h=>h) ?_ (λ_ _ h=>h)
   intro t s hm;simp only[xe,List.mem_cons,List.not_mem_nil,or_false,Prod.mk.injEq] at hm;rcases hm with⟨rfl,rfl⟩ | ⟨rfl,rfl⟩ | ⟨rfl,rfl⟩ | ⟨rfl,rfl⟩ | ⟨rfl,rfl⟩ | ⟨rfl,rfl⟩ <;> simp[zc,hk,int]
  refine jI mixed 2 (xe d id x) rfl ?_ ?_
  .have G:(x.1:Int)<d.notes.length:=by omega
   simp+decide[yn,xe,int,G,-Weak];refine QD (x:=x) hx rfl rfl (λ_ h=>h) ?_ (λ_ _ h=>h)
   intro t s hm;simp only[xe,List.mem_cons,List.not_mem_nil,or_false,Prod.mk.injEq] at hm;rcases hm with⟨rfl,rfl⟩ | ⟨rfl,rfl⟩ | ⟨rfl,rfl⟩ | ⟨rfl,rfl⟩ | ⟨rfl,rfl⟩ | ⟨rfl,rfl⟩ <;> simp[zc,int]
  simp only[yL];refine BF (λy:List ye×Nat=>xe d id (x.1,y)) (λy=>UInv d (x.1+1,y)) ?_ ?_
  .refine Yo ?_
   obtain⟨k,L,nx⟩:=x;obtain⟨n,en⟩:∃ n,d.notes[k]=n:=⟨_,rfl⟩;have e1:d.notes[k]?=some n:=by rw[List.getElem?_eq_getElem K,en]
   refine Ka (zE d id k L nx n) ?_ ?_
   .refine zL mixed ?_
    have G:(k:Int)<d.notes.length:=by omega
    simp+decide[xe,int,zy,Nt.row,K,G,en,-Weak];refine Ti hx rfl rfl (λ_ h=>h) ?_ rfl
    intro t s hm;simp only[zE,List.mem_cons,List.not_mem_nil,or_false,Prod.mk.injEq] at hm;rcases hm with⟨rfl,rfl⟩ | ⟨rfl,rfl⟩ | ⟨rfl,rfl⟩ | ⟨rfl,rfl⟩ | ⟨rfl,rfl⟩ | ⟨rfl,rfl⟩ | ⟨rfl,rfl⟩ <;> simp[zc,int,zy]
   .have P:nx∉zO L:=hx.Tg
    have h4:4<=nx:=hx.nx
    have H:∀ i∈zO L,4<=i/\i<nx:=hx.ids
    have M:(zO L).Nodup:=hx.nodup
    have a0:¬nx=0:=by omega
    have a2:¬nx=2:=by omega
    have a3:¬nx=3:=by omega
    cases hf:qB L n.par with
    |some g=>
     have T:g.1∈zO L:=List.mem_map.2 ⟨_,QB hf,rfl⟩
     have Hc:=H _ T;have b0:¬0=g.1:=by omega
     have b2:¬2=g.1:=by omega
     have b3:¬3=g.1:=by omega
     have bn:¬nx=g.1:=by omega
     have c2:¬g.1=2:=by omega
     have c3:¬g.1=3:=by omega
     have c0:¬g.1=0:=by omega
     have cn:¬g.1=nx:=by omega
     obtain⟨S,hS⟩:∃ S:St,S = {zE d id k L nx n with slots:=(20,.mp 2)::(21,.bp nx 2)::(22,.d (int n.par))::(23,.mp 2)::(24,.bp nx 2)::(25,.d (int n.par))::(26,.ar g.1)::(27,.bp nx 0)::(28,.d (int n.id))::(29,.d (.sl [[int n.id]]))::(zE d id k L nx n).slots}:=⟨_,rfl⟩;refine Da mixed 11 10 S ((S.renew g.1 (.arr 3 1 ((g.2++[n.id]).map λn=>[int n]))).put (some 30) (.ar g.1)) 30 (.ar g.1) (zA g.1) (λst=>(st.renew g.1 (.arr 3 1 ((g.2++[n.id]).map λn=>[int n]))).put (some 30) (.ar g.1)) _ (by rfl) (by rfl) (by rfl) (by rfl) (by rfl) rfl rfl rfl ?_ (NT S g.1 30 _) ?_ ?_ ?_
     .intro X w0 β a w hm
      subst hS;refine⟨rfl,rfl,rfl,rfl,rfl,λt s hs hj hL=>?_⟩
      simp only[zc] at hs;split at hs
      .rename_i e;exact(hL 0 _ (by omega) rfl (congrArg some e)).elim
      split at hs
      .rename_i e;exact(hL 1 _ (by omega) rfl (congrArg some e)).elim
      split at hs
      .rename_i e;exact(hL 2 _ (by omega) rfl (congrArg some e)).elim
      split at hs
      .rename_i e;exact(hL 3 _ (by omega) rfl (congrArg some e)).elim
      split at hs
      .rename_i e;exact(hL 4 _ (by omega) rfl (congrArg some e)).elim
      split at hs
      .rename_i e;exact(hL 5 _ (by omega) rfl (congrArg some e)).elim
      split at hs
      .rename_i e;exact(hL 6 _ (by omega) rfl (congrArg some e)).elim
      split at hs
      .rename_i e;exact(hL 7 _ (by omega) rfl (congrArg some e)).elim
      split at hs
      .rename_i e;exact(hL 8 _ (by omega) rfl (congrArg some e)).elim
      split at hs
      .rename_i e;exact(hL 9 _ (by omega) rfl (congrArg some e)).elim
      exact hs
     .intro i o hi W ho
      have:i=0\/i=1\/i=2\/i=3\/i=4\/i=5\/i=6\/i=7\/i=8\/i=9:=by omega
      rcases this with rfl | rfl | rfl | rfl | rfl | rfl | rfl | rfl | rfl | rfl <;> simp only[List.getElem?_cons_zero,List.getElem?_cons_succ,Option.some.injEq] at ho <;> subst ho
      .refine qu (s:=.mp 2) rfl rfl (by subst hS;simp[zE]) (by subst hS;simp[Sym.lo,zE] <;> omega) ⟨by rfl,?_⟩ (by subst hS;simp[zc]) (.inr ⟨by subst hS;simp[St.put,St.renew,zE],by subst hS;simp[St.put,St.renew,Sym.lo,zE] <;> omega,⟨by rfl,?_⟩,by subst hS;simp[zc,St.put,St.renew,x8,zA,zE,b0,b2,b3,bn]⟩)
       .subst hS;simp+decide[zE,y8,zc,St.val,St.look,int,a3]
       .subst hS;simp+decide[zE,y8,zc,St.val,St.look,St.put,St.renew,xI,qa,yD,zA,x8,int,a3,b0,b2,b3,bn]
      .refine qu (s:=.bp nx 2) rfl rfl (by subst hS;simp[zE]) (by subst hS;simp[Sym.lo,zE] <;> omega) ⟨by rfl,?_⟩ (by subst hS;simp[zc]) (.inr ⟨by subst hS;simp[St.put,St.renew,zE],by subst hS;simp[St.put,St.renew,Sym.lo,zE] <;> omega,⟨by rfl,?_⟩,by subst hS;simp[zc,St.put,St.renew,x8,zA,zE,b0,b2,b3,bn]⟩)
       .subst hS;simp+decide[zE,y8,zc,St.val,int]
       .subst hS;simp+decide[zE,y8,zc,St.val,St.put,St.renew,xI,qa,yD,zA,x8,int,b0,b2,b3,bn]
      .refine qu (s:=.d (int n.par)) rfl rfl (by subst hS;simp[zE]) (by subst hS;simp[Sym.lo] <;> omega) ⟨by rfl,?_⟩ (by subst hS;simp[zc]) (.inr ⟨by subst hS;simp[St.put,St.renew,zE],by subst hS;simp[Sym.lo] <;> omega,⟨by rfl,?_⟩,by subst hS;simp[zc,St.put,St.renew,x8,zA,zE,b0,b2,b3,bn]⟩)
       .subst hS;simp+decide[zE,y8,zc,St.val,St.look,int]
       .subst hS;simp+decide[zE,y8,zc,St.val,St.look,St.put,St.renew,xI,qa,yD,zA,x8,int,b0,b2,b3,bn]
      .refine qu (s:=.mp 2) rfl rfl (by subst hS;simp[zE]) (by subst hS;simp[Sym.lo,zE] <;> omega) ⟨by rfl,?_⟩ (by subst hS;simp[zc]) (.inl ⟨5,by rfl⟩)
       subst hS;simp+decide[zE,y8,zc,St.val,St.look,int,a3]
      .refine qu (s:=.bp nx 2) rfl rfl (by subst hS;simp[zE]) (by subst hS;simp[Sym.lo,zE] <;> omega) ⟨by rfl,?_⟩ (by subst hS;simp[zc]) (.inl ⟨5,by rfl⟩)
       subst hS;simp+decide[zE,y8,zc,St.val,int]
      .refine qu (s:=.d (int n.par)) rfl rfl (by subst hS;simp[zE]) (by subst hS;simp[Sym.lo] <;> omega) ⟨by rfl,?_⟩ (by subst hS;simp[zc]) (.inl ⟨5,by rfl⟩)
       subst hS;simp+decide[zE,y8,zc,St.val,St.look,int]
      .refine⟨rfl,26,.ar g.1,rfl,.inl ⟨5,by rfl⟩,?_,by subst hS;intro s' h1 _;simp[zc] at h1;exact h1.symm⟩
       intro X w0 st β a w hn H0 F hk hm;have V:st.val (.tmp 23) = .mp 2:=by simp only[St.val];rw[hk 23 (by simp[tmpsOf,Op.operands]) (.mp 2) (by subst hS;simp[zc]) (by simp)];rfl
       have Y:st.val (.tmp 25) = .d (.int .i64 n.par):=by simp only[St.val];rw[hk 25 (by simp[tmpsOf,Op.operands]) (.d (int n.par)) (by subst hS;simp[zc]) (by simp)];rfl
       have O:st.look 2=some (.raw (.mq (xA L)) (yy L)):=by simp only[St.look];rw[F];subst hS;simp[zE,y8,zc,a2]
       refine NQ hm rfl (by intro t ht;cases ht;rw[hn];subst hS;simp[zE]) V O Y (kt:=3) (et:=31) (by kernel_rfl) ti_3 ti_31 rfl rfl rfl (by kernel_rfl) ?_
       rw[UG,hf];rfl
      .refine qu (s:=.bp nx 0) rfl rfl (by subst hS;simp[zE]) (by subst hS;simp[Sym.lo,zE] <;> omega) ⟨by rfl,?_⟩ (by subst hS;simp[zc]) (.inl ⟨5,by rfl⟩)
       subst hS;simp+decide[zE,y8,zc,St.val,int]
      .refine qu (s:=.d (int n.id)) rfl rfl (by subst hS;simp[zE]) (by subst hS;simp[Sym.lo] <;> omega) ⟨by rfl,?_⟩ (by subst hS;simp[zc]) (.inl ⟨5,by rfl⟩)
       subst hS;simp+decide[zE,y8,zc,St.val,St.look,int]
      .refine qu (s:=.d (.sl [[int n.id]])) rfl rfl (by subst hS;simp[zE]) (by subst hS;simp[Sym.lo] <;> omega) ⟨by rfl,?_⟩ (by subst hS;simp[zc]) (.inl ⟨5,by rfl⟩)
       subst hS;simp+decide[zE,y8,zc,St.val,int]
     .intro X w0 L' st hN hk β a w hm
      have Z:zc st.slots 26=some (.ar g.1):=hk 26 (by simp[tmpsOf,Op.operands,Call.operands]) (.ar g.1) (by subst hS;simp[zc]) (by simp)
      have A:zc st.slots 29=some (.d (.sl [[int n.id]])):=hk 29 (by simp[tmpsOf,Op.operands,Call.operands]) (.d (.sl [[int n.id]])) (by subst hS;simp[zc]) (by simp)
      have O:zc st.own g.1=some (.arr 3 1 (g.2.map λn=>[int n])):=by
       rw[hN.own];subst hS;simp only[zE,y8,List.cons_append,List.nil_append,zc,if_neg bn,if_neg b0,if_neg b2,if_neg b3];exact SH hf M
      have Hi:g.2.length<=k:=by
       rw[<-BL hf,hx.kids n.par];unfold jw;rw[List.length_map];exact Nat.le_trans (List.length_filter_le _ _) (by rw[List.length_take];exact Nat.min_le_left _ _)
      have B:st.n=46:=by rw[hN.n];subst hS;rfl
      refine ji hm ?_
      simp+decide[yq,B,Z,A,O,int,maxLen];exact⟨by omega,by omega⟩
     .refine NU rfl rfl rfl ?_
      intro X w0 β a w hm;refine NR hm rfl rfl (id:=2) (keys:=xA L) (cells:=yD g.1 (yy L)) (n:=n.par) ?_ ?_ ?_ (kt:=3) (et:=31) (by kernel_rfl) ti_3 rfl ?_
      .subst hS;simp[St.val,St.put,St.renew,x8,zA,zc,b2]
      .subst hS;simp only[St.look,St.put,St.renew];rw[Zt];simp[zE,y8,zc,a2,b2,qa]
      .subst hS;simp[St.val,St.put,St.renew,x8,zA,zc,int]
      .have hv:((S.renew g.1 (.arr 3 1 ((g.2++[n.id]).map λn=>[int n]))).put (some 30) (.ar g.1)).val (.tmp 30) = .ar g.1:=by simp[St.val,St.put,zc]
       rw[hv,Bw (x:=n.id) (nx:=nx) hf M];have hh:=Bu (x:=n.id) (nx:=nx) hf;have hU:UInv d (k+1,qN L n.par n.id nx,nx+1):=by
        refine⟨K,by simp only;omega,λi hi=>?_,by simp only;rw[hh.2];exact M,λp=>?_⟩
        .simp only at hi ⊢
         rw[hh.2] at hi;have:=H i hi
         omega
        .simp only
         rw[Bt,hx.kids p,List.take_succ_eq_append_getElem K,en];unfold jw;rw[List.filter_append,List.map_append];by_cases e:n.par=p
         .simp[e]
         .simp[e]
       refine⟨(qN L n.par n.id nx,nx+1),hU,?_⟩
       refine QD (x:=(k,qN L n.par n.id nx,nx+1)) hU (by subst hS;rfl) (by subst hS;rfl) ?_ ?_ ?_
       .subst hS
        simp only[hh.2,St.put,St.renew,zE,List.mem_cons];rintro i (rfl | hi)
        .exact T
        .exact hi
       .subst hS
        intro t s hm;simp only[xe,List.mem_cons,List.not_mem_nil,or_false,Prod.mk.injEq] at hm;rcases hm with⟨rfl,rfl⟩ | ⟨rfl,rfl⟩ | ⟨rfl,rfl⟩ | ⟨rfl,rfl⟩ | ⟨rfl,rfl⟩ | ⟨rfl,rfl⟩ <;> simp[St.put,St.renew,zc,zE,x8,zA,b0,b2,b3]
       .subst hS
        exact Tj hh.1 hh.2 (Bv hf M) H T h4
    |none=>
     have a1:¬nx=1:=by omega
     have b1:¬1=nx:=by omega
     have b2:¬2=nx:=by omega
     have b3:¬3=nx:=by omega
     have Q:nx+1∉zO L:=λhm=>by have:=(H _ hm).2;omega
     obtain⟨S,hS⟩:∃ S:St,S = {zE d id k L nx n with slots:=(20,.mp 2)::(21,.bp nx 2)::(22,.d (int n.par))::(23,.mp 2)::(24,.bp nx 2)::(25,.d (int n.par))::(26,.nils)::(27,.bp nx 0)::(28,.d (int n.id))::(29,.d (.sl [[int n.id]]))::(zE d id k L nx n).slots}:=⟨_,rfl⟩;have H1:S.next=nx+1:=by subst hS;rfl
     refine Da mixed 11 10 S (((S.new (.arr 3 1 [])).renew S.next (.arr 3 1 [[int n.id]])).put (some 30) (.ar S.next)) 30 (.ar S.next) (zA S.next) (λst=>((st.new (.arr 3 1 [])).renew st.next (.arr 3 1 [[int n.id]])).put (some 30) (.ar st.next)) _ (by rfl) (by rfl) (by rfl) (by rfl) (by rfl) rfl rfl rfl ?_ (ziu S 30 _ _) ?_ ?_ ?_
     .intro X w0 β a w hm
      subst hS;refine⟨rfl,rfl,rfl,rfl,rfl,λt s hs hj hL=>?_⟩
      simp only[zc] at hs;split at hs
      .rename_i e;exact(hL 0 _ (by omega) rfl (congrArg some e)).elim
      split at hs
      .rename_i e;exact(hL 1 _ (by omega) rfl (congrArg some e)).elim
      split at hs
      .rename_i e;exact(hL 2 _ (by omega) rfl (congrArg some e)).elim
      split at hs
      .rename_i e;exact(hL 3 _ (by omega) rfl (congrArg some e)).elim
      split at hs
      .rename_i e;exact(hL 4 _ (by omega) rfl (congrArg some e)).elim
      split at hs
      .rename_i e;exact(hL 5 _ (by omega) rfl (congrArg some e)).elim
      split at hs
      .rename_i e;exact(hL 6 _ (by omega) rfl (congrArg some e)).elim
      split at hs
      .rename_i e;exact(hL 7 _ (by omega) rfl (congrArg some e)).elim
      split at hs
      .rename_i e;exact(hL 8 _ (by omega) rfl (congrArg some e)).elim
      split at hs
      .rename_i e;exact(hL 9 _ (by omega) rfl (congrArg some e)).elim
      exact hs
     .intro i o hi W ho
      have:i=0\/i=1\/i=2\/i=3\/i=4\/i=5\/i=6\/i=7\/i=8\/i=9:=by omega
      rcases this with rfl | rfl | rfl | rfl | rfl | rfl | rfl | rfl | rfl | rfl <;> simp only[List.getElem?_cons_zero,List.getElem?_cons_succ,Option.some.injEq] at ho <;> subst ho
      .refine qu (s:=.mp 2) rfl rfl (by subst hS;simp[zE]) (by subst hS;simp[Sym.lo,zE] <;> omega) ⟨by rfl,?_⟩ (by subst hS;simp[zc]) (.inr ⟨by subst hS;simp[St.put,St.renew,St.new,zE],by subst hS;simp[St.put,St.renew,St.new,Sym.lo,zE] <;> omega,⟨by rfl,?_⟩,by subst hS;simp[zc,St.put,St.renew,St.new,x8,zA,zE,a0,a1,a2]⟩)
       .subst hS;simp+decide[zE,y8,zc,St.val,St.look,int,a3]
       .subst hS;simp+decide[zE,y8,zc,St.val,St.look,St.put,St.renew,St.new,xI,qa,yD,zA,x8,int,a0,a1,a2,a3]
      .refine qu (s:=.bp nx 2) rfl rfl (by subst hS;simp[zE]) (by subst hS;simp[Sym.lo,zE] <;> omega) ⟨by rfl,?_⟩ (by subst hS;simp[zc]) (.inr ⟨by subst hS;simp[St.put,St.renew,St.new,zE],by subst hS;simp[St.put,St.renew,St.new,Sym.lo,zE] <;> omega,⟨by rfl,?_⟩,by subst hS;simp[zc,St.put,St.renew,St.new,x8,zA,zE,a0,a1,a2]⟩)
       .subst hS;simp+decide[zE,y8,zc,St.val,int]
       .subst hS;simp+decide[zE,y8,zc,St.val,St.put,St.renew,St.new,xI,qa,yD,zA,x8,int,a0,a1,a2]
      .refine qu (s:=.d (int n.par)) rfl rfl (by subst hS;simp[zE]) (by subst hS;simp[Sym.lo] <;> omega) ⟨by rfl,?_⟩ (by subst hS;simp[zc]) (.inr ⟨by subst hS;simp[St.put,St.renew,St.new,zE],by subst hS;simp[Sym.lo] <;> omega,⟨by rfl,?_⟩,by subst hS;simp[zc,St.put,St.renew,St.new,x8,zA,zE,a0,a1,a2]⟩)
       .subst hS;simp+decide[zE,y8,zc,St.val,St.look,int]
       .subst hS;simp+decide[zE,y8,zc,St.val,St.look,St.put,St.renew,St.new,xI,qa,yD,zA,x8,int,a0,a1,a2]
      .refine qu (s:=.mp 2) rfl rfl (by subst hS;simp[zE]) (by subst hS;simp[Sym.lo,zE] <;> omega) ⟨by rfl,?_⟩ (by subst hS;simp[zc]) (.inl ⟨5,by rfl⟩)
       subst hS;simp+decide[zE,y8,zc,St.val,St.look,int,a3]
      .refine qu (s:=.bp nx 2) rfl rfl (by subst hS;simp[zE]) (by subst hS;simp[Sym.lo,zE] <;> omega) ⟨by rfl,?_⟩ (by subst hS;simp[zc]) (.inl ⟨5,by rfl⟩)
       subst hS;simp+decide[zE,y8,zc,St.val,int]
      .refine qu (s:=.d (int n.par)) rfl rfl (by subst hS;simp[zE]) (by subst hS;simp[Sym.lo] <;> omega) ⟨by rfl,?_⟩ (by subst hS;simp[zc]) (.inl ⟨5,by rfl⟩)
       subst hS;simp+decide[zE,y8,zc,St.val,St.look,int]
      .refine⟨rfl,26,.nils,rfl,.inl ⟨5,by rfl⟩,?_,by subst hS;intro s' h1 _;simp[zc] at h1;exact h1.symm⟩
       intro X w0 st β a w hn H0 F hk hm;have V:st.val (.tmp 23) = .mp 2:=by simp only[St.val];rw[hk 23 (by simp[tmpsOf,Op.operands]) (.mp 2) (by subst hS;simp[zc]) (by simp)];rfl
       have Y:st.val (.tmp 25) = .d (.int .i64 n.par):=by simp only[St.val];rw[hk 25 (by simp[tmpsOf,Op.operands]) (.d (int n.par)) (by subst hS;simp[zc]) (by simp)];rfl
       have O:st.look 2=some (.raw (.mq (xA L)) (yy L)):=by simp only[St.look];rw[F];subst hS;simp[zE,y8,zc,a2]
       refine NQ hm rfl (by intro t ht;cases ht;rw[hn];subst hS;simp[zE]) V O Y (kt:=3) (et:=31) (by kernel_rfl) ti_3 ti_31 rfl rfl rfl (by kernel_rfl) ?_
       rw[UG,hf];rfl
      .refine qu (s:=.bp nx 0) rfl rfl (by subst hS;simp[zE]) (by subst hS;simp[Sym.lo,zE] <;> omega) ⟨by rfl,?_⟩ (by subst hS;simp[zc]) (.inl ⟨5,by rfl⟩)
       subst hS;simp+decide[zE,y8,zc,St.val,int]
      .refine qu (s:=.d (int n.id)) rfl rfl (by subst hS;simp[zE]) (by subst hS;simp[Sym.lo] <;> omega) ⟨by rfl,?_⟩ (by subst hS;simp[zc]) (.inl ⟨5,by rfl⟩)
       subst hS;simp+decide[zE,y8,zc,St.val,St.look,int]
      .refine qu (s:=.d (.sl [[int n.id]])) rfl rfl (by subst hS;simp[zE]) (by subst hS;simp[Sym.lo] <;> omega) ⟨by rfl,?_⟩ (by subst hS;simp[zc]) (.inl ⟨5,by rfl⟩)
       subst hS;simp+decide[zE,y8,zc,St.val,int]
     .intro X w0 L' st hN hk β a w hm
      have Z:zc st.slots 26=some .nils:=hk 26 (by simp[tmpsOf,Op.operands,Call.operands]) .nils (by subst hS;simp[zc]) (by simp)
      have A:zc st.slots 29=some (.d (.sl [[int n.id]])):=hk 29 (by simp[tmpsOf,Op.operands,Call.operands]) (.d (.sl [[int n.id]])) (by subst hS;simp[zc]) (by simp)
      have B:st.n=46:=by rw[hN.n];subst hS;rfl
      refine ji hm ?_
      simp+decide[yq,B,Z,A,int,maxLen]
     .refine NU rfl rfl rfl ?_
      intro X w0 β a w hm;refine NR hm rfl rfl (id:=2) (keys:=xA L) (cells:=yD (nx+1) (yy L)) (n:=n.par) ?_ ?_ ?_ (kt:=3) (et:=31) (by kernel_rfl) ti_3 rfl ?_
      .subst hS;simp[St.val,St.put,St.renew,St.new,x8,zA,zc,zE,a1]
      .subst hS;simp only[St.look,St.put,St.renew,St.new];rw[Zt];simp[zE,y8,zc,a1,a2,qa]
      .subst hS;simp[St.val,St.put,St.renew,St.new,x8,zA,zc,int]
      .have hv:(((S.new (.arr 3 1 [])).renew S.next (.arr 3 1 [[int n.id]])).put (some 30) (.ar S.next)).val (.tmp 30) = .ar (nx+1):=by simp[St.val,St.put,zc,H1]
       rw[hv,Bz Q,By hf];have C:=Ju (x:=n.id) (nx:=nx+1) hf;have E:zO (qN L n.par n.id (nx+1))=zO L++[nx+1]:=by rw[C];simp[zO]
       have hU:UInv d (k+1,qN L n.par n.id (nx+1),nx+2):=by
        refine⟨K,by simp only;omega,λi hi=>?_,?_,λp=>?_⟩
        .simp only at hi ⊢
         rw[E,List.mem_append,List.mem_singleton] at hi;rcases hi with hi | rfl
         .have:=H i hi;omega
         .omega
        .simp only
         rw[E,List.nodup_append];refine⟨M,by simp,λa ha b hb e=>?_⟩
         rw[List.mem_singleton] at hb;subst hb;subst e;exact Q ha
        .simp only
         rw[Bt,hx.kids p,List.take_succ_eq_append_getElem K,en];unfold jw;rw[List.filter_append,List.map_append];by_cases e:n.par=p
         .simp[e]
         .simp[e]
       refine⟨(qN L n.par n.id (nx+1),nx+2),hU,?_⟩
       refine QD (x:=(k,qN L n.par n.id (nx+1),nx+2)) hU (by subst hS;rfl) (by subst hS;rfl) ?_ ?_ ?_
       .subst hS
        simp only[E,St.put,St.renew,St.new,zE,List.mem_cons,List.mem_append,List.not_mem_nil,or_false];rintro i (rfl | hi)
        .exact .inr rfl
        .exact .inl hi
       .subst hS
        intro t s hm;simp only[xe,List.mem_cons,List.not_mem_nil,or_false,Prod.mk.injEq] at hm;rcases hm with⟨rfl,rfl⟩ | ⟨rfl,rfl⟩ | ⟨rfl,rfl⟩ | ⟨rfl,rfl⟩ | ⟨rfl,rfl⟩ | ⟨rfl,rfl⟩ <;> simp[St.put,St.renew,St.new,zc,zE,x8,zA,a1,a2]
       .subst hS
        exact Tk hf H h4
  .intro y hy
   refine zL mixed ?_
   simp+decide[xe,int,I64,-Weak];refine⟨⟨by omega,by omega⟩,x.1+1,y.1,y.2,hy,by omega,?_⟩
   refine QD (x:=(x.1+1,y)) hy rfl rfl (λ_ h=>h) ?_ (λ_ _ h=>h)
   intro t s hm;simp only[xe,List.mem_cons,List.not_mem_nil,or_false,Prod.mk.injEq] at hm;rcases hm with⟨rfl,rfl⟩ | ⟨rfl,rfl⟩ | ⟨rfl,rfl⟩ | ⟨rfl,rfl⟩ | ⟨rfl,rfl⟩ | ⟨rfl,rfl⟩ <;> simp[zc,int]
 .intro x hx
  refine Tl (m:=x.1) hx.1 ?_
  have hC:=J x.2.1 (λp=>by rw[hx.1.kids p,hx.2,List.take_length])
  generalize x.2.1=L at hC;refine jI mixed 4 {n:=46,next:=7,slots:=[(1,.d (int id)),(10,.bp 5 0),(11,.bp 6 0)],own:=[(3,.box 182 [.d (.mp (uT L))]),(5,.box 31 [.nils]),(6,.box 183 [.fn 115 [.bp 3 0,.bp 5 0,.bp 6 0]])],moved:=zO L} rfl ?_ ?_
  .simp+decide[yn,ZU,int,-Weak]
   refine zg hG ?_
   simp+decide[getD',Nt.row,int]
  simp only[yL];refine UI (id:=5) (e:=3) (sz:=1) rfl ?_
  refine zL mixed ?_
  have I:=hC [] (by rw[List.nil_append];omega)
  rw[List.nil_append] at I;generalize yP d.notes f id=R at *;simp+decide[int];refine zF.mut [3,5,6,7] [.d (int id),.bp 0 0,.bp 1 0,.bp 2 0] (vH L []) (by rfl) (by simp[int]) (by simp[Sym.los,Sym.lo]) (by simp[vH,int];rfl) I ?_
  simp+decide[int,vH];refine zF.XV (by rfl) hS ?_
  simp+decide
theorem Tp{P:Program}{f:Nat}{ds:List D}{s:Sym}{k T sz nx:Nat}{rows:List (List D)}{mv:List Nat}{r:D}(h:zJ P f (ds.map .d) [] 0 s nx [(k,.arr T sz rows)] mv)(J:∀ w E β v,Sm w E β (thaw k (.sl rows) s) v->R w E r v):zj P f ds r:=by
 refine⟨h.1,λw E vs L M=>?_⟩
 have O:Mods E (.of w) (yN [] 0 0 []) (λ_=>.pointer none) qU w:=
  ⟨⟨λb Q hmay=>hmay.elim (λh=>by have:w.heap.size<=b:=h;have:=L.1 b Q;omega) (λh=>h),L.2.over (Over.less λb h=>h.elim id False.elim)⟩,⟨Nat.le_refl _,λ_ _ _=>rfl⟩,λ_=>rfl,rfl,rfl,Kept.refl _,by simp[yN],by simp[yN],by simp[yN],by intro t s J;simp[yN,zc] at J⟩
 have G:Over w E w (Ex E (λ_=>Value.pointer none) []):=Over.less λb Q=>Q.elim id λ⟨_,_,V,_⟩=>by cases V
 refine(h.2 E (.of w) _ w vs rfl O (zh.uw (zH.over G _ _ M))).mono λe w' X=>?_
 obtain⟨β',v,rfl,H,F,hs⟩:=X
 let st1:St:={n:=1,next:=nx,slots:=[(0,s)],own:=[(k,.arr T sz rows)],moved:=mv}
 have m1:Mods E (.of w) st1 β' {tmps:=#[v],defers:=[]} w':=by
  refine⟨H.outer,H.still,H.one,rfl,rfl,H.below,H.keys,H.own,H.apart,λt s' hs'=>?_⟩
  simp only[st1,zc] at hs';split at hs'
  .rename_i e;subst e;cases hs';exact⟨F,by simpa using hs⟩
  .cases hs'
 have m2:=m1.vk k
 have K:st1.look k=some (.arr T sz rows):=by simp[st1,St.look,zc]
 unfold St.vk at m2
 rw[K] at m2
 have Y:=(m2.slots 0 (thaw k (.sl rows) s) (by simp[st1,kV,zc])).2
 have Z:R w' (Ex E β' (xZ k (.sl rows) st1.own)) r v:=J _ _ _ _ (by simpa using Y)
 exact⟨v,rfl,H.below.below,Z.over (Over.less λb Q=>Or.inl Q) _ _⟩
theorem Tq{P:Program}{f:Nat}{ds:List D}{s:Sym}{k T sz nx:Nat}{rows:List (List D)}{mv:List Nat}{x y:D}(h:zJ P f (ds.map .d) [] 0 s nx [(k,.arr T sz rows)] mv)(H:thaw k (.sl rows) s = .tup [.d x,.d y]):zj P f ds (.tup [x,y]):=
 Tp h λw E β v hv=>by
  rw[H] at hv;simp only[Sm,zh] at hv;simp only[R,zH];simpa using hv
def j6(d:Dc)(m:Int):List Int:=m::qp (yP d.notes d.tiers.length m)
def YN(d:Dc)(w:Int):List Int:=(zR d w 3).flatMap (j6 d)
def QE(d:Dc)(w:Int)(n:Nt):Bool:=decide (n.id∈YN d w)
def zQ(d:Dc)(w:Int):List Nt:=d.notes.filter λn=>!QE d w n
def xm(d:Dc)(w:Int):Dc:={d with notes:=zQ d w}
theorem UJ{d:Dc}(h:Rgt d){w r m:Int}(H:m∈zR d w r):∃ n∈d.notes,n.id=m/\n.tier=zv d.tiers r/\n.par=w:=by
 unfold zR y6 yf at H
 obtain⟨n,G,rfl⟩:=List.mem_map.1 H
 have G:=List.mem_filter.1 ((uQ _).mem_iff.1 G)
 have F:=G.2
 unfold ym at F
 simp only[Bool.and_eq_true,decide_eq_true_eq] at F
 exact⟨n,G.1,rfl,F.1.1.1,F.1.1.2⟩
theorem BS{d:Dc}(h:Rgt d){n:Nt}(H:n∈d.notes):(yP d.notes d.tiers.length n.id).length<=300:=by
 have:=(h.nok n H).t0
 exact Nat.le_trans (SB h H (by omega)) h.few
theorem Ts{d:Dc}(h:Rgt d){w m:Int}(H:m∈zR d w 3):(j6 d m).length<=301:=by
 obtain⟨n,G,rfl,_⟩:=UJ h H
 unfold j6
 rw[List.length_cons,UH]
 have:=BS h G
 omega
theorem BU{d:Dc}(h:Rgt d){w:Int}:∀ l:List Int,(∀ m∈l,m∈zR d w 3)->(l.flatMap (j6 d)).length<=301*l.length
 | [],_=>Nat.le_refl _
 |m::l,H=>by
  have G:=Ts h (H m List.mem_cons_self);have F:=BU h l λm E=>H m (List.mem_cons_of_mem _ E)
  simp only[List.flatMap_cons,List.length_append,List.length_cons];omega
abbrev YO(l:List Int):List (List D):=l.map λn=>[int n]
theorem Tt{d:Dc}(H:d.notes.length<2^40)(G:d.tiers.length<2^40)(w:Int)(F:yw d=false):zj Tryz.prog 22 [zw d,int w] (.tup [zw ⟨0,.empty,0,0,[],[],[]⟩,int 14]):=by
 refine zn mixed Tryz.func22 rfl c_22 ?_
 have E:=ZR d (by omega)
 rw[F] at E
 simp+decide[Tryz.f22,zw,Dc.row,int]
 refine zg E ?_
 simp+decide
 exact⟨rfl,rfl,rfl⟩
theorem Tv{d:Dc}(H:d.notes.length<2^40)(G:d.tiers.length<2^40)(w:Int)(F:yw d=true)(E:yo d w=false):zj Tryz.prog 22 [zw d,int w] (.tup [zw ⟨0,.empty,0,0,[],[],[]⟩,int 9]):=by
 refine zn mixed Tryz.func22 rfl c_22 ?_
 have K:=ZR d (by omega)
 have J:=UB d w (by omega) (by omega)
 rw[F] at K
 rw[E] at J
 simp+decide[Tryz.f22,zw,Dc.row,int]
 refine zg K ?_
 simp+decide
 refine zg J ?_
 simp+decide[Nt.row,int]
 exact⟨rfl,rfl,rfl⟩
abbrev zeroCells:List Sym:=[.d (int 0),.d (.str ⟨#[]⟩),.d (int 0),.d (int 0),.nils,.nils,.nils]
def xn(d:Dc)(w:Int)(ks:List Int)(x:Nat×List Int):St:=
 {n:=67,next:=4,slots:=[(1,.d (int w)),(2,.bp 0 0),(4,.bp 1 0),(8,.ar 3),(32,.d (ints ks)),(33,.d (int ks.length)),(34,.d (int x.1))],own:=[(0,.box 53 (yh d)),(1,.box 53 zeroCells),(3,.arr 3 1 (YO x.2))],moved:=[3]}
def qq(d:Dc)(w:Int)(ks:List Int)(k:Nat)(G:List Int)(m:Int):St:=
 {xn d w ks (k,G) with slots:=(10,.d (int m))::(xn d w ks (k,G)).slots}
theorem BV{d:Dc}(h:Rgt d)(w:Int)(hr:yw d=true)(hw:yo d w=true)(hc:Fw d):
  zJ Tryz.prog 22 [.d (zw d),.d (int w)] [] 0 (.tup [.agg [.d (int d.id),.d (.str d.name),.d (int d.len),.d (int d.day),.d (ints d.spk),.d (zK d.tiers),.ar 4],.d (int 0)]) 6 [(4,.arr 72 7 ((zQ d w).map Nt.row))] [3,4]:=by
 have Q:=h.few
 have T:=ZS h
 have M:=ZR d (by omega)
 have hg:=UB d w (by omega) (by omega)
 have V:=ZQ d (by omega)
 have hk:=ZN d w (zv d.tiers 3) hc
 have Y:=Qw d w 3 hc
 rw[show y6 (yf d w (zv d.tiers 3))=zR d w 3 from rfl] at hk
 rw[hr] at M
 rw[hw] at hg
 refine xW mixed Tryz.func22 rfl c_22 (by simp[Sym.los,Sym.lo]) ?_
 simp+decide[Tryz.f22,zw,Dc.row,int]
 refine zg M ?_
 simp+decide
 refine zg hg ?_
 simp+decide[Nt.row,int]
 refine scp V ?_
 simp+decide[wV,int]
 refine zdo (by rfl) (by rfl) hk ?_
 have hU:∀ m∈zR d w 3,zj Tryz.prog 59 [zw d,int m] (ints (qp (yP d.notes d.tiers.length m))):=by
  intro m hm;obtain⟨n,hn,e,_⟩:=UJ h hm;have:=(h.nok n hn).t0
  have:=BS h hn
  rw[<-e];exact Tn d h (by omega) n hn _ (by omega) (by omega)
 have K:=λl hl=>BU h (w:=w) l hl
 have J:zQ d w=d.notes.filter λn=>!decide (n.id∈(zR d w 3).flatMap (j6 d)):=rfl
 generalize zQ d w=C at J ⊢
 generalize zR d w 3=ks at Y hU K J
 simp+decide[ints]
 refine yU mixed (λk:Nat=>xn d w ks (k,(ks.take k).flatMap (j6 d))) (λk=>k<=ks.length) (λk=>ks.length-k) 0 (Nat.zero_le _) ?_ ?_
 .simp+decide[xn,int,ints]
 intro k hk
 by_cases H:k<ks.length
 case neg=>
  have:k=ks.length:=by omega
  subst this;rw[List.take_length];refine zL mixed ?_
  have Z:=K ks λm hm=>hm
  generalize ks.flatMap (j6 d)=G at Z J;subst J;simp+decide[xn,int,zy];refine yU mixed (λk:Nat=>{n:=67,next:=5,slots:=[(2,.bp 0 0),(4,.bp 1 0),(8,.ar 3),(11,.ar 4),(48,.d (zy d.notes)),(49,.d (int d.notes.length)),(50,.d (int k))],own:=[(0,.box 53 (yh d)),(1,.box 53 zeroCells),(3,.arr 3 1 (YO G)),(4,.arr 72 7 (((d.notes.take k).filter λn=>!decide (n.id∈G)).map Nt.row))],moved:=[3,4]})
   (λk=>k<=d.notes.length) (λk=>d.notes.length-k) 0 (Nat.zero_le _) ?_ ?_
  .simp+decide[int,zy]
  intro k hk;refine zL mixed ?_
  by_cases H:k<d.notes.length
  case neg=>
   have:k=d.notes.length:=by omega
   subst this;rw[List.take_length];simp+decide[int,zy];exact rfl
  have E:(k:Int)<d.notes.length:=by omega
  obtain⟨n,en⟩:∃ n,d.notes[k]=n:=⟨_,rfl⟩;have e1:d.notes[k]?=some n:=by rw[List.getElem?_eq_getElem H,en]
  have hH:=DG G n.id (by omega)
  have hsn:(d.notes.take (k+1)).filter (λn=>!decide (n.id∈G))=(d.notes.take k).filter (λn=>!decide (n.id∈G))++(if n.id∈G then [] else [n]):=by
   rw[List.take_succ_eq_append_getElem H,List.filter_append,en];by_cases e:n.id∈G <;> simp[e]
  have A:((d.notes.take k).filter λn=>!decide (n.id∈G)).length<=k:=Nat.le_trans (List.length_filter_le _ _) (by rw[List.length_take];exact Nat.min_le_left _ _)
  generalize (d.notes.take k).filter (λn=>!decide (n.id∈G))=F at hsn A
  simp+decide[int,zy,Nt.row,H,E,en];refine zg hH ?_
  by_cases hg:n.id∈G
  .rw[if_pos hg,List.append_nil] at hsn
   simp+decide[I64,hg];exact⟨⟨by omega,by omega⟩,k+1,H,by omega,by omega,by rw[hsn]⟩
  .rw[if_neg hg] at hsn
   simp+decide[int,I64,hg,maxLen];exact⟨by omega,by omega,⟨by omega,by omega⟩,k+1,H,by omega,by omega,by rw[hsn];simp[Nt.row,int]⟩
 have E:(k:Int)<ks.length:=by omega
 obtain⟨m,em⟩:∃ m,ks[k]=m:=⟨_,rfl⟩
 have em1:ks[k]?=some m:=by rw[List.getElem?_eq_getElem H,em]
 have O:m∈ks:=by rw[<-em];exact List.getElem_mem H
 have hsn:(ks.take (k+1)).flatMap (j6 d)=(ks.take k).flatMap (j6 d)++j6 d m:=by
  rw[List.take_succ_eq_append_getElem H,List.flatMap_append,em];simp
 have B:((ks.take k).flatMap (j6 d)).length<=301*20:=by
  have:=K (ks.take k) λm hm=>List.mem_of_mem_take hm
  rw[List.length_take] at this;omega
 have L:=K [m] (by simpa using O)
 simp only[List.flatMap_cons,List.flatMap_nil,List.append_nil,List.length_cons,List.length_nil] at L
 have I:=hU m O
 generalize (ks.take k).flatMap (j6 d)=G at hsn B
 refine jI mixed 2 (xn d w ks (k,G)) rfl ?_ ?_
 .simp+decide[yn,xn,int,ints,E]
 simp only[yL]
 refine Ka (xn d w ks (k,G++j6 d m)) ?_ ?_
 .refine Yo (Ka (qq d w ks k G m) ?_ ?_)
  .refine zL mixed ?_
   simp+decide[xn,qq,int,ints,H,E,em]
  .obtain⟨S,hS⟩:∃ S:St,S = {qq d w ks k G m with slots:=(38,.ar 3)::(39,.d (int m))::(40,.d (.sl [[int m]]))::(42,.d (zw d))::(43,.d (int m))::(qq d w ks k G m).slots}:=⟨_,rfl⟩
   refine Da mixed 6 3 S ((S.renew 3 (.arr 3 1 (YO (G++[m])))).put (some 41) (.ar 3)) 41 (.ar 3) (zA 3) (λst=>(st.renew 3 (.arr 3 1 (YO (G++[m])))).put (some 41) (.ar 3)) _ (by rfl) (by rfl) (by rfl) (by rfl) (by rfl) rfl rfl rfl ?_ (NT S 3 41 _) ?_ ?_ ?_
   .intro X w0 β a w hm
    subst hS;refine⟨rfl,rfl,rfl,rfl,rfl,λt s hs hj hL=>?_⟩
    simp only[zc] at hs;split at hs
    .rename_i e;exact(hL 0 _ (by omega) rfl (congrArg some e)).elim
    split at hs
    .rename_i e;exact(hL 1 _ (by omega) rfl (congrArg some e)).elim
    split at hs
    .rename_i e;exact(hL 2 _ (by omega) rfl (congrArg some e)).elim
    split at hs
    .rename_i e;exact(hL 4 _ (by omega) rfl (congrArg some e)).elim
    split at hs
    .rename_i e;exact(hL 5 _ (by omega) rfl (congrArg some e)).elim
    exact hs
   .intro i o hi Hc ho
    have:i=0\/i=1\/i=2\/i=4\/i=5:=by omega
    rcases this with rfl | rfl | rfl | rfl | rfl <;> simp only[List.getElem?_cons_zero,List.getElem?_cons_succ,Option.some.injEq] at ho <;> subst ho
    .refine qu (s:=.ar 3) rfl rfl (by subst hS;simp[qq,xn]) (by subst hS;simp[Sym.lo,qq,xn]) ⟨by rfl,?_⟩ (by subst hS;simp[zc]) (.inl ⟨5,by rfl⟩)
     subst hS;simp+decide[qq,xn,zc,St.val]
    .refine qu (s:=.d (int m)) rfl rfl (by subst hS;simp[qq,xn]) (by subst hS;simp[Sym.lo]) ⟨by rfl,?_⟩ (by subst hS;simp[zc]) (.inl ⟨5,by rfl⟩)
     subst hS;simp+decide[qq,xn,zc,St.val]
    .refine qu (s:=.d (.sl [[int m]])) rfl rfl (by subst hS;simp[qq,xn]) (by subst hS;simp[Sym.lo]) ⟨by rfl,?_⟩ (by subst hS;simp[zc]) (.inl ⟨5,by rfl⟩)
     subst hS;simp+decide[qq,xn,zc,St.val,int]
    .refine qu (s:=.d (zw d)) rfl rfl (by subst hS;simp[qq,xn]) (by subst hS;simp[Sym.lo]) ⟨by rfl,?_⟩ (by subst hS;simp[zc]) (.inr ⟨by subst hS;simp[St.put,St.renew,qq,xn],by subst hS;simp[Sym.lo],⟨by rfl,?_⟩,by subst hS;simp[zc,St.put,St.renew,x8,zA,qq,xn]⟩)
     .subst hS;simp+decide[qq,xn,zc,St.val,St.look,zw,Dc.row]
     .subst hS;simp+decide[qq,xn,zc,St.val,St.look,St.put,St.renew,xI,qa,yD,zA,x8,zw,Dc.row]
    .refine qu (s:=.d (int m)) rfl rfl (by subst hS;simp[qq,xn]) (by subst hS;simp[Sym.lo]) ⟨by rfl,?_⟩ (by subst hS;simp[zc]) (.inr ⟨by subst hS;simp[St.put,St.renew,qq,xn],by subst hS;simp[Sym.lo],⟨by rfl,?_⟩,by subst hS;simp[zc,St.put,St.renew,x8,zA,qq,xn]⟩)
     .subst hS;simp+decide[qq,xn,zc,St.val]
     .subst hS;simp+decide[qq,xn,zc,St.val,St.put,St.renew,zA,x8]
   .intro X w0 L' st hN hk β a w hm
    have N:zc st.slots 38=some (.ar 3):=hk 38 (by simp[tmpsOf,Op.operands,Call.operands]) (.ar 3) (by subst hS;simp[zc]) (by simp)
    have P:zc st.slots 40=some (.d (.sl [[int m]])):=hk 40 (by simp[tmpsOf,Op.operands,Call.operands]) (.d (.sl [[int m]])) (by subst hS;simp[zc]) (by simp)
    have W:zc st.own 3=some (.arr 3 1 (YO G)):=by rw[hN.own];subst hS;simp[qq,xn,zc]
    have H0:st.n=67:=by rw[hN.n];subst hS;rfl
    refine ji hm ?_
    simp+decide[yq,H0,N,P,W,int,maxLen];exact⟨by omega,by omega,rfl⟩
   .refine VN (by simp) rfl (λi h1 h2=>?_) ?_
    .have:i=7\/i=8:=by simp at h2;omega
     rcases this with rfl | rfl <;> rfl
    subst hS;simp+decide[qq,xn,int];refine zg I ?_
    have H1:j6 d m=m::qp (yP d.notes d.tiers.length m):=rfl
    rw[H1] at L ⊢;rw[List.length_cons] at L;generalize qp (yP d.notes d.tiers.length m)=R at *;simp+decide[int,ints,maxLen];exact⟨by omega,by omega⟩
 .refine zL mixed ?_
  simp+decide[xn,int,ints,I64];exact⟨⟨by omega,by omega⟩,k+1,H,by omega,by omega,by rw[hsn];simp[int]⟩
theorem Tw{d:Dc}(h:Rgt d)(w:Int)(H:yw d=true)(G:yo d w=true)(F:Fw d):
  zj Tryz.prog 22 [zw d,int w] (.tup [zw (xm d w),int 0]):=
 Tq (ds:=[zw d,int w]) (BV h w H G F) (by simp[thaw,xT,ke,zw,Dc.row,xm,zy])
theorem Tx{d:Dc}(h:Rgt d){w r:Int}{c:Nt}(H:c∈d.notes)(G:c.tier=zv d.tiers r)(F:c.par=w):c.id∈zR d w r:=by
 unfold zR y6 yf
 refine List.mem_map.2 ⟨c,(uQ _).mem_iff.2 (List.mem_filter.2 ⟨H,?_⟩),rfl⟩
 have t0:=(h.nok c H).t0
 have t1:=(h.nok c H).t1
 rw[G] at t0 t1
 simp[ym,G,F,t0,t1]
theorem uU{d:Dc}(h:Rgt d){w:Int}{n:Nt}(E:n∈d.notes):n.id∈YN d w↔∃ c∈qe d n,c.tier=zv d.tiers 3/\c.par=w:=by
 unfold YN
 rw[List.mem_flatMap]
 constructor
 .rintro⟨m,K,J⟩
  obtain⟨c,L,rfl,q1,q2⟩:=UJ h K;have t0:=(h.nok c L).t0;refine⟨c,?_,q1,q2⟩
  unfold j6 at J;rcases List.mem_cons.1 J with e | J
  .obtain rfl:=Qu h E L e
   exact Qy h E
  .have J:=(YM _).mem_iff.1 J
   obtain⟨m',G,e,F⟩:=(QA h d.tiers.length c L (by omega) n.id).1 J
   obtain rfl:=Qu h G E e;rw[(xd h G).1];exact List.mem_cons_of_mem _ F
 .rintro⟨c,L,q1,q2⟩
  have H:=UF h E L;have t0:=(h.nok c H).t0;refine⟨c.id,Tx h H q1 q2,?_⟩
  unfold j6;rw[(xd h E).1] at L;rcases List.mem_cons.1 L with rfl | L
  .exact List.mem_cons_self
  .exact List.mem_cons_of_mem _ ((YM _).mem_iff.2 ((QA h d.tiers.length c H (by omega) n.id).2 ⟨n,E,rfl,L⟩))
def kG:Dc:=⟨0,.empty,0,0,[],[],[]⟩
def j7(d:Dc)(w:Int):Dc×Int:=if yw d=false then (kG,14) else if yo d w=false then (kG,9) else (xm d w,0)
theorem BW{d:Dc}(h:Rgt d)(w:Int)(H:Fw d):zj Tryz.prog 22 [zw d,int w] (.tup [zw (j7 d w).1,int (j7 d w).2]):=by
 have:=h.few
 have:=ZS h
 unfold j7
 cases G:yw d with
 |false=>rw[if_pos rfl];exact Tt (by omega) (by omega) w G
 |true=>
  rw[if_neg (by decide)]
  cases F:yo d w with
  |false=>rw[if_pos rfl];exact Tv (by omega) (by omega) w G F
  |true=>rw[if_neg (by decide)];exact Tw h w G F H
end Go.V.Doc
namespace Go.V.Doc
open Go Go.Proofs Go.Sort Go.RowKit
section
variable [Dr]
def ZV(a b:Nt):Int:=xK a.id b.id
theorem Tz(a b:Nt):zj Tryz.prog 66 [.agg a.row,.agg b.row] (int (ZV a b)):=by
 refine zn mixed Tryz.func66 rfl c_66 ?_
 simp+decide[Tryz.f66,Nt.row,int]
 refine zg (gI a.id b.id) ?_
 simp+decide[ZV,int]
theorem TA{blk off size:Nat}{w:World}{E:Nat->Prop}(H:Seen w E)(G:E blk):Go.Proofs.CmpLays Tryz.prog 66 #[] Nt.enc 7 ZV blk off size w:=by
 let d:Dr:=⟨true⟩
 exact @Is d _ _ _ _ _ _ _ rfl _ _ gQ (λx y=>@Tz d x y) _ _ _ _ _ H G
end
def kH:Nt->Nt->Bool:=ltOf ZV
theorem TB:∀ args w,(callFunc 66 args).run Tryz.prog w = .ok (.enter 66 args) w:=enters_of Tryz.func66 (by kernel_rfl) rfl
end Go.V.Doc

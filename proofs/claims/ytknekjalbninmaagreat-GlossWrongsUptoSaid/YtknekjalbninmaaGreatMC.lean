/- Contracts and plain laws of this seat: part MC. It needs no conditions. -/
import Derived.Test.YtknekjalbninmaaGreatMB
import Derived.Test.YtknekjalbninmaaGreatMA
import Derived.Test.YtknekjalbninmaaGreatW1
import Derived.Test.YtknekjalbninmaaGreatW3
import Derived.Test.YtknekjalbninmaaGreatS1
import Derived.Test.YtknekjalbninmaaGreatSn
set_option maxHeartbeats 32000000
set_option linter.unusedVariables false
set_option linter.unusedSimpArgs false
set_option linter.unusedSectionVars false
set_option maxRecDepth 100000
namespace Go.V.Doc
open Go Go.Proofs Go.Sort Go.RowKit
theorem U1(l:List Nt):PermIn 0 l.length l.toArray (qK l).toArray/\SortedIn qU 0 l.length (qK l).toArray:=by
 have:=insertionSort_holds Cd l.toArray 0 l.length (Nat.zero_le _) (by simp)
 rw[Ca] at this
 exact this
theorem XW(l:List Nt):(qK l).length=l.length:=by
 have:=(U1 l).1.1
 simpa using this
theorem gB(l:List Nt):(qK l).Perm l:=by
 obtain⟨H,_,G⟩:=(U1 l).1
 have F:=XW l
 have e1:(qK l).toArray.extract 0 l.length=(qK l).toArray:=by rw[show l.length=(qK l).toArray.size by simp[F]];simp
 have e2:l.toArray.extract 0 l.length=l.toArray:=by rw[show l.length=l.toArray.size by simp];simp
 rw[e1,e2] at G
 simpa using G
theorem Re(l:List Nt):(qK l).Pairwise λa b=>qU b a=false:=by
 have hs:=(U1 l).2
 have G:=XW l
 rw[List.pairwise_iff_getElem]
 intro i j hi hj H
 have:=hs i j (Nat.zero_le _) H (by omega)
 simpa[getElem!_pos,hi,hj] using this
theorem Rh(l:List Nt)(H:l.length<2^62):
  zJ Tryz.prog 172 [.ar 0,.d (int 0),.d (int l.length),.fn 113 []] [(0,.arr 72 7 (l.map Nt.row))] 1 (.d (.tup [])) 1 [(0,.arr 72 7 ((qK l).map Nt.row))] []:=by
 cases l with
 |nil=>
  have:qK []=[]:=List.eq_nil_of_length_eq_zero (XW [])
  rw[this];exact(zJ.unit Pt)
 |cons a r=>exact Pq 72 (a::r) (by simp) (by omega) (XW _)
theorem Ri(l:List Nt)(F:l.length<20):
  zJ Tryz.prog 165 [.ar 0,.d (int l.length),.fn 113 []] [(0,.arr 72 7 (l.map Nt.row))] 1 (.d (.tup [])) 1 [(0,.arr 72 7 ((qK l).map Nt.row))] []:=by
 refine zJ.unit (xH mixed Tryz.func165 rfl c_165 (by simp[Sym.los,Sym.lo]) ?_)
 have G:¬(20:Int)<=l.length:=by omega
 have H:¬(20:Int)<l.length:=by omega
 simp+decide[Tryz.f165,int]
 refine zr mixed (λ_:Unit=>{n:=63,next:=1,slots:=[(0,.ar 0),(1,.d (int l.length)),(2,.fn 113 []),(6,.d (int 20)),(7,.d (int 0)),(8,.d (int 20))],own:=[(0,.arr 72 7 (l.map Nt.row))],base:=1})
  (λ_=>True) (λ_=>0) () trivial (by simp+decide[int]) ?_
 intro _ _
 simp+decide[int,G]
 refine zc.mut [0] [.ar 0,.d (int 0),.d (int l.length),.fn 113 []] [(0,.arr 72 7 (l.map Nt.row))] (by rfl) (by simp[int]) (by simp) (by simp) (Rh l (by omega)) ?_
 simp+decide
 refine zr mixed (λ_:Unit=>{n:=63,next:=1,slots:=[(1,.d (int l.length)),(6,.d (int 20))],own:=[(0,.arr 72 7 ((qK l).map Nt.row))],base:=1})
  (λ_=>True) (λ_=>0) () trivial (by simp+decide[int]) ?_
 intro _ _
 simp+decide[int,H]
theorem Rj(l:List Nt)(H:l.length<20):
  zJ Tryz.prog 112 [.ar 0,.fn 113 []] [(0,.arr 72 7 (l.map Nt.row))] 1 (.d (.tup [])) 1 [(0,.arr 72 7 ((qK l).map Nt.row))] []:=by
 refine zJ.unit (xH mixed Tryz.func112 rfl c_112 (by simp[Sym.los,Sym.lo]) ?_)
 simp+decide[Tryz.f112]
 refine zc.mut [0] [.ar 0,.d (int l.length),.fn 113 []] [(0,.arr 72 7 (l.map Nt.row))] (by rfl) (by simp[int]) (by simp) (by simp) (Ri l H) ?_
 simp+decide
def yX(d:Dc)(id t:Int)(n:Nt):Bool:=decide (n.tier=t)&&decide (n.par=id)&&decide (0<=t)&&decide (t<d.tiers.length)
def yz(d:Dc)(id t:Int):List Nt:=qK (d.notes.filter (yX d id t))
def zO(l:List Nt):List Int:=l.map (·.id)
theorem CO(d:Dc)(id t:Int)(L:d.notes.length<2^40)(K:(d.notes.filter (yX d id t)).length<20):
  wO Tryz.prog 53 [zA d,int id,int t] 3 1 ((zO (yz d id t)).map λn=>[int n]):=by
 refine Xn mixed Tryz.func53 rfl c_53 (by simp) ?_
 simp+decide[Tryz.f53,zA,Dc.row,int,ints,zF,zw]
 refine zr mixed (λk:Nat=>{n:=61,next:=3,slots:=[(1,.d (int id)),(2,.d (int t)),(3,.bp 0 0),(7,.ar 2),(14,.d (zw d.notes)),(15,.d (.int .i64 d.notes.length)),(16,.d (.int .i64 k))],own:=[(0,.box 53 (yy d)),(2,.arr 72 7 (((d.notes.take k).filter (yX d id t)).map Nt.row))],moved:=[2]})
  (λk=>k<=d.notes.length) (λk=>d.notes.length-k) 0 (by simp) (by simp+decide[int,ints,zF,zw]) ?_
 intro k M
 by_cases H:k<d.notes.length
 .have G:(k:Int)<d.notes.length:=by omega
  have e1:d.notes[k]?=some d.notes[k]:=List.getElem?_eq_getElem H
  have hsn:(d.notes.take (k+1)).filter (yX d id t)=(d.notes.take k).filter (yX d id t)++(if yX d id t d.notes[k]=true then [d.notes[k]] else []):=by
   rw[take_snoc' H,List.filter_append];by_cases h:yX d id t d.notes[k]=true <;> simp[h]
  have F:((d.notes.take k).filter (yX d id t)).length<=k:=Nat.le_trans (List.length_filter_le _ _) (by rw[List.length_take];omega)
  have no:yX d id t d.notes[k]=false->(d.notes.take (k+1)).filter (yX d id t)=(d.notes.take k).filter (yX d id t):=by
   intro h;rw[hsn,if_neg (by simp[h]),List.append_nil]
  by_cases O:d.notes[k].tier=t
  case neg=>
   have:=no (by simp[yX,O])
   simp+decide[zw,Nt.row,int,H,G,I64,O];exact⟨⟨by omega,by omega⟩,k+1,H,by omega,by omega,by rw[this]⟩
  by_cases Q:d.notes[k].par=id
  case neg=>
   have:=no (by simp[yX,Q])
   simp+decide[zw,Nt.row,int,H,G,I64,O,Q];exact⟨⟨by omega,by omega⟩,k+1,H,by omega,by omega,by rw[this]⟩
  by_cases T:0<=t
  case neg=>
   have:=no (by simp[yX,T])
   simp+decide[zw,Nt.row,int,H,G,I64,O,Q,T];exact⟨⟨by omega,by omega⟩,k+1,H,by omega,by omega,by rw[this]⟩
  by_cases V:t<d.tiers.length
  case neg=>
   have:=no (by simp[yX,V])
   simp+decide[zw,zF,Nt.row,int,H,G,I64,O,Q,T,V];exact⟨⟨by omega,by omega⟩,k+1,H,by omega,by omega,by rw[this]⟩
  have X:yX d id t d.notes[k]=true:=by simp[yX,O,Q,T,V]
  rw[if_pos X] at hsn;simp+decide[zw,zF,Nt.row,int,H,G,I64,O,Q,T,V];exact⟨by omega,by unfold maxLen;omega,⟨by omega,by omega⟩,k+1,H,by omega,by omega,by rw[hsn];simp[Nt.row,int,O,Q]⟩
 .have:k=d.notes.length:=by omega
  subst this;rw[List.take_length];have E:(d.notes.filter (yX d id t)).length<=d.notes.length:=List.length_filter_le _ _
  simp+decide[int];refine zc.mut [2] [.ar 0,.fn 113 []] [(0,.arr 72 7 ((d.notes.filter (yX d id t)).map Nt.row))] (by rfl) (by simp) (by simp) (by simp) (Rj _ (by omega)) ?_
  have J:=XW (d.notes.filter (yX d id t));unfold yz;rw[<-J] at E;generalize qK (d.notes.filter (yX d id t))=s at E ⊢;simp+decide[int];refine zr mixed (λk:Nat=>{n:=61,next:=4,slots:=[(10,.ar 3),(48,.ar 2),(49,.d (.int .i64 s.length)),(50,.d (.int .i64 k))],own:=[(2,.arr 72 7 (s.map Nt.row)),(3,.arr 3 1 ((zO (s.take k)).map λn=>[int n]))],moved:=[3,2]})
   (λk=>k<=s.length) (λk=>s.length-k) 0 (by simp) (by simp+decide[int,zO]) ?_
  intro k M;by_cases H:k<s.length
  .have G:(k:Int)<s.length:=by omega
   have e1:s[k]?=some s[k]:=List.getElem?_eq_getElem H
   have hsn:zO (s.take (k+1))=zO (s.take k)++[s[k].id]:=by unfold zO;rw[take_snoc' H,List.map_append];rfl
   have F:(zO (s.take k)).length<=k:=by unfold zO;rw[List.length_map,List.length_take];omega
   simp+decide[Nt.row,int,H,G,I64];exact⟨by omega,by unfold maxLen;omega,⟨by omega,by omega⟩,k+1,H,by omega,by omega,by rw[hsn];simp⟩
  .have:k=s.length:=by omega
   subst this;rw[List.take_length];simp+decide[int]
theorem Rk(d:Dc)(id t:Int)(H:d.notes.length<20):
  wO Tryz.prog 53 [zA d,int id,int t] 3 1 ((zO (yz d id t)).map λn=>[int n]):=
 CO d id t (by omega) (Nat.lt_of_le_of_lt (List.length_filter_le _ _) H)
theorem XX:∀ l:List Int,D.scalars ((l.map λn=>[int n]).flatten)=true
 | []=>rfl
 |n::r=>by simp only[List.map_cons,List.flatten_cons,List.cons_append,List.nil_append,D.scalars,XX r];rfl
theorem Rl(d:Dc)(id t:Int)(H:d.notes.length<20):wK Tryz.prog 53 [zA d,int id,int t] (ints (zO (yz d id t))):=
 WB (Rk d id t H) (XX _)
theorem CP(d:Dc)(id t:Int)(G:d.notes.length<2^40)(H:(d.notes.filter (yX d id t)).length<20):wK Tryz.prog 53 [zA d,int id,int t] (ints (zO (yz d id t))):=
 WB (CO d id t G H) (XX _)
structure Fw(d:Dc):Prop where
 n:d.notes.length<2^40
 k:∀ id t,(d.notes.filter (yX d id t)).length<20
theorem ZA{d:Dc}(H:d.notes.length<20):Fw d:=⟨by omega,λ_ _=>Nat.lt_of_le_of_lt (List.length_filter_le _ _) H⟩
theorem XY(d:Dc)(id t:Int)(h:Fw d):wK Tryz.prog 53 [zA d,int id,int t] (ints (zO (yz d id t))):=CP d id t h.n (h.k id t)
end Go.V.Doc
namespace Go.V.Doc
open Go Go.Proofs
section
variable {d:Dc}
theorem ZB(d:Dc){t:Nat}(h:t<d.tiers.length):zB d (t:Int)=d.tiers[t]:=by unfold zB;rw[Int.toNat_natCast,List.getElem?_eq_getElem h];rfl
theorem Rgt.kinds(h:Rgt d){t:Nat}(H:t<d.tiers.length):0<=(zB d t).kind/\(zB d t).kind<=4:=by
 have G:=h.good.tiers t H
 rw[ZB d H]
 unfold qj at G
 split at G
 .cases G
 .split at G
  .cases G
  .split at G
   .cases G
   .omega
theorem Rgt.up(h:Rgt d){t:Nat}(H:t<d.tiers.length)(G:(zB d t).kind≠0):0<=(zB d t).par/\(zB d t).par.toNat<t:=by
 rw[ZB d H] at G ⊢
 have:=KW (h.good.tiers t H) G
 rw[List.length_take] at this
 omega
def inT(d:Dc)(t:Nat)(n:Nt):Prop:=n∈d.notes/\n.tier=t
theorem gC{t:Nat}{n:Nt}:n∈zX d.notes t↔inT d t n:=by
 unfold zX inT
 rw[List.mem_filter,decide_eq_true_eq]
def q7(d:Dc)(n:Nt):Nt:=(zy d.notes n.par).1
theorem Rgt.parent(h:Rgt d){t:Nat}{n:Nt}(H:inT d t n)(G:t<d.tiers.length)(F:(zB d t).kind≠0):inT d (zB d t).par.toNat (q7 d n)/\(q7 d n).id=n.par:=by
 have E:=(XT (ul h.good H.1).place).2.1
 rw[H.2] at E
 obtain⟨K,J⟩:=E F
 have L:=Yp K
 have M:=h.up G F
 exact⟨⟨L.1,by rw[q7,J];omega⟩,L.2⟩
theorem Rgt.root(h:Rgt d){t:Nat}{n:Nt}(H:inT d t n)(G:(zB d t).kind=0):n.par=0:=by
 have F:=(XT (ul h.good H.1).place).1
 rw[H.2] at F
 exact F G
def vN(d:Dc)(t:Nat)(a b:Nt):Bool:=
 if a.par≠b.par then (if h:(zB d t).par.toNat<t then vN d (zB d t).par.toNat (q7 d a) (q7 d b) else false)
 else if zQ (zB d t).kind=true then decide (a.fr<b.fr) else decide (a.rank<b.rank)
termination_by t
def qL(d:Dc)(t:Nat)(n:Nt):Int:=if zQ (zB d t).kind=true then n.fr else n.rank
theorem vO{t:Nat}{a b:Nt}(h:a.par=b.par):vN d t a b=decide (qL d t a<qL d t b):=by
 rw[vN,if_neg (by simp[h])]
 unfold qL
 split <;> rfl
theorem wv{t:Nat}{a b:Nt}(h:a.par≠b.par)(H:(zB d t).par.toNat<t):vN d t a b=vN d (zB d t).par.toNat (q7 d a) (q7 d b):=by
 rw[vN,if_pos h,dif_pos H]
theorem CQ{s:List Nt}{i j:Nat}(H:i<j)(hj:j<s.length)(G:(gN s i).par=(gN s j).par):vM s i<vM s j:=by
 have hi:i<s.length:=by omega
 have F:(s.take (i+1)).Sublist (s.take j):=by
  have:s.take (i+1)=(s.take j).take (i+1):=by rw[List.take_take];congr 1;omega
  rw[this];exact List.take_sublist _ _
 have E:=(F.filter λn=>decide (n.par=(gN s j).par)).length_le
 rw[take_snoc' hi,List.filter_append,List.length_append] at E
 have:[s[i]].filter (λn=>decide (n.par=(gN s j).par))=[s[i]]:=by
  rw[List.filter_cons_of_pos (by rw[<-xm hi];simpa using G)];rfl
 rw[this] at E
 unfold vM
 rw[G]
 simp only[List.length_singleton] at E
 omega
theorem Rgt.keys(h:Rgt d){t:Nat}(A:t<d.tiers.length){a b:Nt}(B:inT d t a)(C:inT d t b)(I:a.par=b.par)(N:qL d t a=qL d t b):a=b:=by
 apply Classical.byContradiction
 intro L
 have M:=CN.1 (h.ter t A)
 have E:=M.1 a (gC.2 B)
 have F:=M.2 a (gC.2 B)
 have K:a∈yk d.notes t a.par:=by unfold yk;rw[List.mem_filter];exact⟨B.1,by simp[B.2]⟩
 have J:b∈yk d.notes t a.par:=by unfold yk;rw[List.mem_filter];exact⟨C.1,by simp[C.2,I]⟩
 cases G:zQ (zB d t).kind with
 |true=>
  unfold k5 at E;rw[G,Bool.true_and,KQ] at E;have X:=XU (ul h.good B.1) (by rw[B.2];exact G)
  have Y:=XU (ul h.good C.1) (by rw[C.2];exact G)
  simp only[yA,Bool.and_eq_true,decide_eq_true_eq] at X Y;unfold qL at N;rw[if_pos G,if_pos G] at N;generalize yk d.notes t a.par=S at E K J;obtain⟨i,hi,rfl⟩:=List.mem_iff_getElem.1 K;obtain⟨j,hj,rfl⟩:=List.mem_iff_getElem.1 J;have T:=List.pairwise_iff_getElem.1 E;rcases Nat.lt_trichotomy i j with P | rfl | P
  .exact T i j hi hj P ⟨by omega,by omega⟩
  .exact L rfl
  .exact T j i hj hi P ⟨by omega,by omega⟩
 |false=>
  unfold qL at N;rw[G] at N;simp only[Bool.false_eq_true,if_false] at N;have Z:=h.kinds A;have k0:(zB d t).kind≠0:=by intro e;rw[e] at G;cases G
  have k1:(zB d t).kind≠1:=by intro e;rw[e] at G;cases G
  have k2:(zB d t).kind≠2:=by intro e;rw[e] at G;cases G
  by_cases k3:(zB d t).kind=3
  .have O:∀ n∈zX d.notes t,jJ (yk d.notes t n.par)=true:=by
    intro n W;have:=M.2 n W
    rw[k3] at this;simpa[badR] using this
   have hs:=Cs (zX d.notes t);have H:=Ce (zX d.notes t);have hl:(xf (zX d.notes t)).length<2^40:=by
    rw[VG];have:(zX d.notes t).length<=d.notes.length:=List.length_filter_le _ _
    have:=h.few
    omega
   have hz:∀ n∈xf (zX d.notes t),n.fr=0:=by
    intro n W;have W:=gC.1 (H.mem_iff.1 W);exact(KY (ul h.good W.1) (by rw[W.2];exact G)).1
   have V:=(Cx hs hl).1 ((Cy H hs hl hz).2 O);obtain⟨i,hi,ei⟩:=List.mem_iff_getElem.1 (H.mem_iff.2 (gC.2 B));obtain⟨j,hj,ej⟩:=List.mem_iff_getElem.1 (H.mem_iff.2 (gC.2 C));rw[<-xm hi] at ei;rw[<-xm hj] at ej;have r1:=V i hi;have r2:=V j hj;rw[ei] at r1;rw[ej] at r2;rcases Nat.lt_trichotomy i j with P | rfl | P
   .have:=CQ P hj (by rw[ei,ej,I]);omega
   .exact L (ei.symm.trans ej)
   .have:=CQ P hi (by rw[ei,ej,I]);omega
  .have k4:(zB d t).kind=4:=by omega
   have Q:¬1<(yk d.notes t a.par).length:=by
    rw[k4] at F;simp[badR] at F;omega
   generalize yk d.notes t a.par=S at Q K J;obtain⟨i,hi,rfl⟩:=List.mem_iff_getElem.1 K;obtain⟨j,hj,rfl⟩:=List.mem_iff_getElem.1 J;have:i=j:=by omega
   subst this;exact L rfl
structure Wgt(d:Dc):Prop where
 good:∀ j,(h:j<d.tiers.length)->qj (d.tiers.take j) d.tiers[j]=0
 few:d.notes.length<=300
 nok:∀ n∈d.notes,0<=n.tier/\n.tier<d.tiers.length
 inc:d.notes.Pairwise λa b=>a.id<b.id
 par:∀ (t:Nat),t<d.tiers.length->(zB d t).kind≠0->∀ n,inT d t n->inT d (zB d t).par.toNat (q7 d n)/\(q7 d n).id=n.par
 top:∀ (t:Nat) n,inT d t n->(zB d t).kind=0->n.par=0
 flat:∀ (t:Nat) n,inT d t n->zQ (zB d t).kind=false->n.fr=0
 key:∀ (t:Nat),t<d.tiers.length->∀ a b,inT d t a->inT d t b->a.par=b.par->qL d t a=qL d t b->a=b
theorem Rgt.w(h:Rgt d):Wgt d:=⟨h.good.tiers,h.few,λn G=>⟨(h.nok n G).t0,(h.nok n G).t1⟩,h.inc,λt F E n G=>h.parent G F E,λt n G E=>h.root G E,
 λt n G H=>(KY (ul h.good G.1) (by rw[G.2];exact H)).1,λt F a b K J L E=>h.keys F K J L E⟩
theorem Wgt.up(h:Wgt d){t:Nat}(H:t<d.tiers.length)(G:(zB d t).kind≠0):0<=(zB d t).par/\(zB d t).par.toNat<t:=by
 rw[ZB d H] at G ⊢
 have:=KW (h.good t H) G
 rw[List.length_take] at this
 omega
theorem Wgt.parent(h:Wgt d){t:Nat}{n:Nt}(H:inT d t n)(G:t<d.tiers.length)(F:(zB d t).kind≠0):inT d (zB d t).par.toNat (q7 d n)/\(q7 d n).id=n.par:=h.par t G F n H
theorem Wgt.root(h:Wgt d){t:Nat}{n:Nt}(H:inT d t n)(G:(zB d t).kind=0):n.par=0:=h.top t n H G
theorem Wgt.keys(h:Wgt d){t:Nat}(H:t<d.tiers.length){a b:Nt}(G:inT d t a)(F:inT d t b)(E:a.par=b.par)(K:qL d t a=qL d t b):a=b:=h.key t H a b G F E K
theorem Wgt.uniq(h:Wgt d){a b:Nt}(H:a∈d.notes)(G:b∈d.notes)(e:a.id=b.id):a=b:=by
 obtain⟨i,hi,rfl⟩:=List.mem_iff_getElem.1 H
 obtain⟨j,hj,rfl⟩:=List.mem_iff_getElem.1 G
 have F:=List.pairwise_iff_getElem.1 h.inc
 rcases Nat.lt_trichotomy i j with E | rfl | E
 .have:=F i j hi hj E;omega
 .rfl
 .have:=F j i hj hi E;omega
theorem Wgt.get(h:Wgt d){n:Nt}(H:n∈d.notes):zy d.notes n.id=(n,true):=by
 unfold zy
 cases G:d.notes.find? λm=>decide (m.id=n.id) with
 |none=>rw[List.find?_eq_none] at G;exact absurd (G n H) (by simp)
 |some m=>
  have F:=List.mem_of_find?_eq_some G;have E:m.id=n.id:=by simpa using List.find?_some G
  rw[h.uniq F H E]
structure Sto(R:Nt->Nt->Bool)(M:Nt->Prop):Prop where
 asym:∀ a b,M a->M b->R a b=true->R b a=true->False
 trans:∀ a b c,M a->M b->M c->R a b=true->R b c=true->R a c=true
 total:∀ a b,M a->M b->a≠b->R a b=true\/R b a=true
theorem Wgt.xn(h:Wgt d):∀ (t:Nat),t<d.tiers.length->Sto (vN d t) (inT d t):=by
 intro t
 induction t using Nat.strongRecOn with
 |_ t ih=>
  intro K;by_cases J:(zB d t).kind=0
  .have L:∀ a b,inT d t a->inT d t b->a.par=b.par:=λa b M O=>by rw[h.root M J,h.root O J]
   refine⟨?_,?_,?_⟩
   .intro a b M O Q T
    rw[vO (L a b M O),decide_eq_true_eq] at Q;rw[vO (L b a O M),decide_eq_true_eq] at T;omega
   .intro a b c M O V Q T
    rw[vO (L a b M O),decide_eq_true_eq] at Q;rw[vO (L b c O V),decide_eq_true_eq] at T;rw[vO (L a c M V),decide_eq_true_eq];omega
   .intro a b M O F
    rw[vO (L a b M O),vO (L b a O M),decide_eq_true_eq,decide_eq_true_eq];have:¬qL d t a=qL d t b:=λe=>F (h.keys K M O (L a b M O) e)
    omega
  .have X:=h.up K J
   have ih':=ih _ X.2 (by omega)
   have pu:∀ a,inT d t a->inT d (zB d t).par.toNat (q7 d a)/\(q7 d a).id=a.par:=λa M=>h.parent M K J
   have une:∀ a b,inT d t a->inT d t b->a.par≠b.par->q7 d a≠q7 d b:=λa b M O F e=>F (by rw[<-(pu a M).2,<-(pu b O).2,e])
   have ueq:∀ a b,inT d t a->inT d t b->a.par=b.par->q7 d a=q7 d b:=λa b M O e=>h.uniq (pu a M).1.1 (pu b O).1.1 (by rw[(pu a M).2,(pu b O).2,e])
   refine⟨?_,?_,?_⟩
   .intro a b M O Q T
    by_cases L:a.par=b.par
    .rw[vO L,decide_eq_true_eq] at Q
     rw[vO L.symm,decide_eq_true_eq] at T;omega
    .rw[wv L X.2] at Q
     rw[wv (Ne.symm L) X.2] at T;exact ih'.asym _ _ (pu a M).1 (pu b O).1 Q T
   .intro a b c M O V Q T
    by_cases G:a.par=b.par
    .by_cases H:b.par=c.par
     .rw[vO G,decide_eq_true_eq] at Q
      rw[vO H,decide_eq_true_eq] at T;rw[vO (G.trans H),decide_eq_true_eq];omega
     .rw[wv H X.2] at T
      rw[wv (by rw[G];exact H) X.2,ueq a b M O G]
      exact T
    .rw[wv G X.2] at Q
     by_cases H:b.par=c.par
     .rw[wv (by rw[<-H];exact G) X.2,<-ueq b c O V H]
      exact Q
     .rw[wv H X.2] at T
      by_cases E:a.par=c.par
      .rw[ueq a c M V E] at Q
       exact(ih'.asym _ _ (pu c V).1 (pu b O).1 Q T).elim
      .rw[wv E X.2]
       exact ih'.trans _ _ _ (pu a M).1 (pu b O).1 (pu c V).1 Q T
   .intro a b M O F
    by_cases L:a.par=b.par
    .rw[vO L,vO L.symm,decide_eq_true_eq,decide_eq_true_eq]
     have:¬qL d t a=qL d t b:=λe=>F (h.keys K M O L e)
     omega
    .rw[wv L X.2,wv (Ne.symm L) X.2]
     exact ih'.total _ _ (pu a M).1 (pu b O).1 (une a b M O L)
theorem Sto.ZC{R:Nt->Nt->Bool}{M:Nt->Prop}(h:Sto R M){a:Nt}(H:M a)(G:R a a=true):False:=h.asym a a H H G G
theorem Sto.eq{R:Nt->Nt->Bool}{M:Nt->Prop}(h:Sto R M){l m:List Nt}(H:∀ x∈l,M x)(G:l.Perm m)(F:l.Pairwise λa b=>R a b=true)(E:m.Pairwise λa b=>R a b=true):l=m:=
 List.Perm.eq_of_pairwise (le:=λa b=>R a b=true) (λa b K J r1 r2=>(h.asym a b (H a K) (H b (G.mem_iff.2 J)) r1 r2).elim) F E G
theorem Sto.nodup{R:Nt->Nt->Bool}{M:Nt->Prop}(h:Sto R M){l:List Nt}(H:∀ x∈l,M x)(G:l.Pairwise λa b=>R a b=true):l.Nodup:=
 G.imp_of_mem λ{a b} F E K e=>h.ZC (H a F) (by rw[e] at K ⊢;exact K)
theorem VN(h:Wgt d):d.notes.Nodup:=h.inc.imp λ{a b} H e=>by rw[e] at H;omega
theorem um{id:Int}{t:Nat}(H:t<d.tiers.length){x:Nt}:x∈yz d id t↔inT d t x/\x.par=id:=by
 unfold yz inT
 rw[(gB _).mem_iff,List.mem_filter]
 simp only[yX,Bool.and_eq_true,decide_eq_true_eq]
 constructor
 .rintro⟨G,⟨⟨F,E⟩,_⟩,_⟩;exact⟨⟨G,F⟩,E⟩
 .rintro⟨⟨G,F⟩,E⟩;exact⟨G,⟨⟨F,E⟩,by omega⟩,by omega⟩
theorem VO(h:Wgt d){id:Int}{t:Nat}(E:t<d.tiers.length):(yz d id t).Pairwise λa b=>vN d t a b=true:=by
 have K:=Re (d.notes.filter (yX d id t))
 have J:(yz d id t).Nodup:=(gB _).nodup_iff.2 ((VN h).sublist List.filter_sublist)
 have L:=List.pairwise_and_iff.2 ⟨K,J⟩
 refine L.imp_of_mem λ{a b} M O G=>?_
 obtain⟨M,pa⟩:=(um E).1 M
 obtain⟨O,pb⟩:=(um E).1 O
 have Q:a.par=b.par:=by rw[pa,pb]
 have F:=VF.1 G.1
 have T:¬qL d t a=qL d t b:=λe=>G.2 (h.keys E M O Q e)
 rw[vO Q,decide_eq_true_eq]
 unfold qL at T ⊢
 cases H:zQ (zB d t).kind with
 |true=>rw[H] at T;simp only[if_true] at T ⊢;omega
 |false=>
  rw[H] at T;simp only[Bool.false_eq_true,if_false] at T ⊢;have za:=h.flat t a M H;have zb:=h.flat t b O H;omega
def qe(d:Dc)(t:Nat):List Nt:=
 if (zB d t).kind=0 then yz d 0 t else if h:(zB d t).par.toNat<t then (qe d (zB d t).par.toNat).flatMap λp=>yz d p.id t else []
termination_by t
theorem uo(h:Wgt d):∀ (t:Nat),t<d.tiers.length->∀ x,x∈qe d t↔inT d t x:=by
 intro t
 induction t using Nat.strongRecOn with
 |_ t ih=>
  intro H x;rw[qe];by_cases G:(zB d t).kind=0
  .rw[if_pos G,um H]
   exact⟨λe=>e.1,λe=>⟨e,h.root e G⟩⟩
  .have F:=h.up H G
   rw[if_neg G,dif_pos F.2,List.mem_flatMap];constructor
   .rintro⟨p,_,E⟩;exact((um H).1 E).1
   .intro E
    obtain⟨p1,p2⟩:=h.parent E H G;exact⟨q7 d x,(ih _ F.2 (by omega) _).2 p1,(um H).2 ⟨E,p2.symm⟩⟩
theorem VP(h:Wgt d):∀ (t:Nat),t<d.tiers.length->(qe d t).Pairwise λa b=>vN d t a b=true:=by
 intro t
 induction t using Nat.strongRecOn with
 |_ t ih=>
  intro E;rw[qe];by_cases K:(zB d t).kind=0
  .rw[if_pos K];exact VO h E
  .have J:=h.up E K
   have H:(zB d t).par.toNat<d.tiers.length:=by omega
   rw[if_neg K,dif_pos J.2,List.pairwise_flatMap];refine⟨λp _=>VO h E,(ih _ J.2 H).imp_of_mem λ{p q} L M G x O y Q=>?_⟩
   have L:=(uo h _ H p).1 L;have M:=(uo h _ H q).1 M;obtain⟨O,px⟩:=(um E).1 O;obtain⟨Q,py⟩:=(um E).1 Q;have F:x.par≠y.par:=by
    intro e;have:p=q:=h.uniq L.1 M.1 (by rw[<-px,<-py,e])
    subst this;exact(h.xn _ H).ZC L G
   have ux:q7 d x=p:=h.uniq (h.parent O E K).1.1 L.1 (by rw[(h.parent O E K).2,px])
   have uy:q7 d y=q:=h.uniq (h.parent Q E K).1.1 M.1 (by rw[(h.parent Q E K).2,py])
   rw[wv F J.2,ux,uy];exact G
theorem U2(h:Wgt d){t:Nat}(H:t<d.tiers.length):(qe d t).Perm (zX d.notes t):=by
 have G:(zX d.notes t).Nodup:=(VN h).sublist List.filter_sublist
 rw[List.perm_ext_iff_of_nodup ((h.xn t H).nodup (λx F=>(uo h t H x).1 F) (VP h t H)) G]
 intro x
 rw[uo h t H,gC]
theorem U3(h:Wgt d){t:Nat}(H:t<d.tiers.length):(qe d t).length<=d.notes.length:=by
 rw[(U2 h H).length_eq];exact List.length_filter_le _ _
def qW(R:Nt->Nt->Bool)(n:Nt)(l:List Nt):Nat->Nat
 |0=>0
 |k+1=>if R n (gN l k)=true then qW R n l k else k+1
def uq(R:Nt->Nt->Bool)(l:List Nt)(n:Nt):List Nt:=l.take (qW R n l l.length)++n::l.drop (qW R n l l.length)
theorem CS{R:Nt->Nt->Bool}{n:Nt}{l:List Nt}:∀ (k:Nat),k<=l.length->qW R n l k<=k/\(∀ i,qW R n l k<=i->i<k->R n (gN l i)=true)/\(qW R n l k≠0->R n (gN l (qW R n l k-1))=false)
 |0,_=>⟨Nat.le_refl _,λi H h2=>by omega,λh=>absurd rfl h⟩
 |k+1,hk=>by
  have ih:=CS (R:=R) (n:=n) (l:=l) k (by omega)
  simp only[qW];split
  .rename_i G
   refine⟨by omega,λi H h2=>?_,ih.2.2⟩
   rcases Nat.eq_or_lt_of_le (show i<=k by omega) with e | e
   .rw[e];exact G
   .exact ih.2.1 i H e
  .rename_i G
   exact⟨Nat.le_refl _,λi H h2=>by omega,λ_=>by simpa using G⟩
theorem U4(R:Nt->Nt->Bool)(l:List Nt)(n:Nt):(uq R l n).Perm (n::l):=by
 unfold uq
 refine List.perm_middle.trans ?_
 rw[List.take_append_drop]
theorem Rm(R:Nt->Nt->Bool)(l:List Nt)(n:Nt):(uq R l n).length=l.length+1:=by
 rw[(U4 R l n).length_eq];rfl
theorem Rn{R:Nt->Nt->Bool}{M:Nt->Prop}(L:Sto R M){l:List Nt}{n:Nt}(O:∀ x∈l,M x)(Q:M n)(K:n∉l)(hs:l.Pairwise λa b=>R a b=true):(uq R l n).Pairwise λa b=>R a b=true:=by
 obtain⟨T,V,X⟩:=CS (R:=R) (n:=n) (l:=l) l.length (Nat.le_refl _)
 unfold uq
 generalize qW R n l l.length=k at T V X
 have G:=List.pairwise_iff_getElem.1 hs
 have low:∀ x∈l.take k,R x n=true:=by
  intro x Y;obtain⟨i,hi,rfl⟩:=List.mem_take_iff_getElem.1 Y;have F:i<l.length:=by omega
  have J:i<k:=by omega
  have H:k-1<l.length:=by omega
  have Z:=X (by omega)
  rw[xm H] at Z;have E:M l[k-1]:=O _ (List.getElem_mem H)
  have A:R l[k-1] n=true:=by
   rcases L.total _ _ E Q (λe=>K (by rw[<-e];exact List.getElem_mem H)) with e | e
   .exact e
   .rw[Z] at e;cases e
  rcases Nat.eq_or_lt_of_le (show i<=k-1 by omega) with e | e
  .subst e;exact A
  .exact L.trans _ _ _ (O _ (List.getElem_mem F)) E Q (G i (k-1) F H e) A
 have high:∀ x∈l.drop k,R n x=true:=by
  intro x Y;obtain⟨i,hi,rfl⟩:=List.mem_iff_getElem.1 Y;rw[List.length_drop] at hi;rw[List.getElem_drop];have:=V (k+i) (by omega) (by omega)
  rwa [xm (by omega)] at this
 rw[List.pairwise_append]
 refine⟨hs.sublist (List.take_sublist _ _),?_,?_⟩
 .rw[List.pairwise_cons]
  exact⟨high,hs.sublist (List.drop_sublist _ _)⟩
 .intro a B b C
  rcases List.mem_cons.1 C with e | C
  .rw[e];exact low a B
  .obtain⟨i,hi,rfl⟩:=List.mem_take_iff_getElem.1 B
   obtain⟨j,hj,rfl⟩:=List.mem_iff_getElem.1 C;rw[List.length_drop] at hj;rw[List.getElem_drop];exact G i (k+j) (by omega) (by omega) (by omega)
def qX(d:Dc)(t:Int)(l:List Nt)(n:Nt):List Nt:=if n.tier=t then uq (vN d t.toNat) l n else l
def wx(d:Dc)(t:Int):List Nt:=d.notes.foldl (qX d t) []
theorem U5(h:Wgt d){t:Nat}(J:t<d.tiers.length):∀ (m l:List Nt),m.Sublist d.notes->(∀ x∈m,x∉l)->(∀ x∈l,inT d t x)->l.Pairwise (λa b=>vN d t a b=true) ->
  (m.foldl (qX d t) l).Pairwise (λa b=>vN d t a b=true)/\(m.foldl (qX d t) l).Perm (zX m t++l)
 | [],l,_,_,_,hs=>⟨hs,by simp[zX]⟩
 |n::m,l,G,L,M,hs=>by
  have F:(n::m).Nodup:=(VN h).sublist G
  have E:=List.nodup_cons.1 F;rw[List.foldl_cons];have O:n∈d.notes:=G.subset (by simp)
  have H:m.Sublist d.notes:=(List.sublist_cons_self _ _).trans G
  unfold qX;by_cases e:n.tier=t
  .rw[if_pos e]
   have Q:=U4 (vN d (t:Int).toNat) l n;obtain⟨T,V⟩:=U5 h J m (uq (vN d (t:Int).toNat) l n) H (λx X K=>by
     rcases List.mem_cons.1 (Q.mem_iff.1 K) with e' | e'
     .subst e';exact E.1 X
     .exact L x (by simp[X]) e')
    (λx X=>by
     rcases List.mem_cons.1 (Q.mem_iff.1 X) with e' | e'
     .subst e';exact⟨O,e⟩
     .exact M x e')
    (Rn (h.xn t J) M ⟨O,e⟩ (L n (by simp)) hs)
   refine⟨T,V.trans ?_⟩
   have e2:zX (n::m) t=n::zX m t:=by unfold zX;rw[List.filter_cons_of_pos (by simpa using e)]
   rw[e2];exact(List.Perm.append_left _ Q).trans List.perm_middle
  .rw[if_neg e]
   have e2:zX (n::m) t=zX m t:=by unfold zX;rw[List.filter_cons_of_neg (by simpa using e)]
   rw[e2];exact U5 h J m l H (λx X=>L x (by simp[X])) M hs
theorem Ro(h:Wgt d){t:Nat}(H:t<d.tiers.length):wx d t=qe d t:=by
 obtain⟨G,F⟩:=U5 h H d.notes [] (List.Sublist.refl _) (λx _=>by simp) (λx E=>by cases E) List.Pairwise.nil
 rw[List.append_nil] at F
 refine(h.xn t H).eq (λx E=>?_) (F.trans (U2 h H).symm) G (VP h t H)
 exact gC.1 (F.mem_iff.1 E)
theorem Rp(h:Wgt d){t:Int}(H:¬(0<=t/\t<d.tiers.length)):wx d t=[]:=by
 have:∀ (m l:List Nt),(∀ x∈m,x∈d.notes)->m.foldl (qX d t) l=l:=by
  intro m;induction m with
  |nil=>intro l _;rfl
  |cons n m ih=>
   intro l G;rw[List.foldl_cons];have F:=h.nok n (G n (by simp))
   have e:¬n.tier=t:=λe=>H ⟨by rw[<-e];exact F.1,by rw[<-e];exact F.2⟩
   rw[qX,if_neg e];exact ih l λx hx=>G x (by simp[hx])
 exact this _ _ λx hx=>hx
def VQ(d:Dc)(t:Int):List Nt:=if 0<=t/\t<d.tiers.length then qe d t.toNat else []
theorem Rq(h:Wgt d)(t:Int):wx d t=VQ d t:=by
 unfold VQ
 split
 .rename_i ht
  obtain⟨k,rfl⟩:∃ k:Nat,t=k:=⟨t.toNat,by omega⟩
  rw[Int.toNat_natCast];exact Ro h (by omega)
 .rename_i ht;exact Rp h ht
theorem Rr(h:Wgt d)(id t:Int):(VQ d t).filter (λn=>decide (n.par=id))=yz d id t:=by
 unfold VQ
 split
 .rename_i H
  obtain⟨k,rfl⟩:∃ k:Nat,t=k:=⟨t.toNat,by omega⟩
  rw[Int.toNat_natCast];have G:k<d.tiers.length:=by omega
  refine(h.xn k G).eq (λx F=>(uo h k G x).1 (List.mem_filter.1 F).1) ?_ ((VP h k G).sublist List.filter_sublist) (VO h G)
  rw[List.perm_ext_iff_of_nodup (((h.xn k G).nodup (λx F=>(uo h k G x).1 F) (VP h k G)).sublist List.filter_sublist) ((h.xn k G).nodup (λx F=>((um G).1 F).1) (VO h G))]
  intro x;rw[List.mem_filter,uo h k G,um G,decide_eq_true_eq]
 .rename_i H
  have:d.notes.filter (yX d id t)=[]:=by
   rw[List.filter_eq_nil_iff];intro x _ F;simp only[yX,Bool.and_eq_true,decide_eq_true_eq] at F;exact H ⟨F.1.2,F.2⟩
  unfold yz;rw[this];rfl
theorem Rs(h:Wgt d):∀ (t:Nat),t<d.tiers.length->∀ a b,inT d t a->inT d t b->zi Tryz.prog 126 [zA d,.agg a.row,.agg b.row] (.bool (vN d t a b)):=by
 intro t
 induction t using Nat.strongRecOn with
 |_ t ih=>
  intro E a b K J;have L:=h.few;refine zp mixed Tryz.func126 rfl c_126 ?_
  by_cases M:a.par=b.par
  .have e1:d.tiers[t]?=some d.tiers[t]:=List.getElem?_eq_getElem E
   have H:(t:Int)<d.tiers.length:=by omega
   have G:=K.2;rw[vO M];unfold qL;rw[ZB d E];simp+decide[Tryz.f126,zA,Dc.row,Nt.row,Tir.row,int,ints,zF,zw,M,G,E,H];refine zc.pure (by rfl) (qd d.tiers[t].kind) (by simp) ?_
   cases F:zQ d.tiers[t].kind <;> simp+decide
  .have O:(zB d t).kind≠0:=λe=>M (by rw[h.root K e,h.root J e])
   have Q:=h.up E O;have T:=ih _ Q.2 (by omega) _ _ (h.parent K E O).1 (h.parent J E O).1
   rw[wv M Q.2];unfold q7 at T ⊢;simp+decide[Tryz.f126,zA,Dc.row,Nt.row,int,ints,zF,zw,M];refine zc.pure (by rfl) (wn d a.par (by omega)) (by simp+decide) ?_
   obtain⟨⟨x,ok⟩,eg⟩:∃ g,zy d.notes a.par=g:=⟨_,rfl⟩;rw[eg] at T ⊢;simp+decide[getD',Nt.row,int];refine zc.pure (by rfl) (wn d b.par (by omega)) (by simp+decide) ?_
   obtain⟨⟨y,ok'⟩,eg'⟩:∃ g,zy d.notes b.par=g:=⟨_,rfl⟩;rw[eg'] at T ⊢;simp+decide[getD',Nt.row,int];refine zc.pure (by rfl) T (by simp+decide) ?_
   simp+decide
theorem VR(l:List Nt):(zO l).length=l.length:=by simp[zO]
theorem CU(h:Wgt d)(X:Fw d):∀ (t:Nat),t<d.tiers.length->zi Tryz.prog 72 [zA d,int t] (ints (zO (qe d t))):=by
 intro t
 induction t using Nat.strongRecOn with
 |_ t ih=>
  intro Y;refine u4 mixed Tryz.func72 rfl c_72 [2] ?_
  have e1:d.tiers[t]?=some d.tiers[t]:=List.getElem?_eq_getElem Y
  have J:(t:Int)<d.tiers.length:=by omega
  have M:¬(d.tiers.length:Int)<=t:=by omega
  have O:¬(t:Int)<0:=by omega
  have Q:=X.n;have G:qe d t=if (zB d t).kind=0 then yz d 0 t else if h:(zB d t).par.toNat<t then (qe d (zB d t).par.toNat).flatMap λp=>yz d p.id t else []:=by rw[qe]
  by_cases Z:(zB d t).kind=0
  .rw[if_pos Z] at G
   rw[G];rw[ZB d Y] at Z;simp+decide[Tryz.f72,zA,Dc.row,Tir.row,int,ints,zF,zw,Y,J,M,O,Z];refine zc.pure (by rfl) (XY d 0 t X).toR (by simp+decide[ints]) ?_
   simp+decide[ints]
  .have A:=h.up Y Z
   rw[if_neg Z,dif_pos A.2] at G;have H:=U3 h Y;have B:=U3 h (t:=(zB d t).par.toNat) (by omega)
   have C:=ih _ A.2 (by omega)
   rw[G] at H ⊢;generalize qe d (zB d t).par.toNat=L at H B C ⊢;obtain⟨p,I⟩:∃ p:Nat,(zB d t).par=p:=⟨(zB d t).par.toNat,by omega⟩
   rw[I,Int.toNat_natCast] at C;rw[ZB d Y] at Z I;simp+decide[Tryz.f72,zA,Dc.row,Tir.row,int,ints,zF,zw,Y,J,M,O,Z,I];refine zq (by rfl) (by rfl) C (by simp+decide[ints]) ?_
   simp+decide[ints];have T:=VR L;refine zr mixed (λk:Nat=>{n:=48,next:=3,slots:=[(1,.d (int t)),(2,.bp 0 0),(5,.ar 2),(34,.d (ints (zO L))),(35,.d (.int .i64 L.length)),(36,.d (.int .i64 k))],own:=[(0,.box 53 (yy d)),(2,.arr 3 1 ((zO ((L.take k).flatMap λp=>yz d p.id t)).map λn=>[int n]))],moved:=[2]})
    (λk=>k<=L.length) (λk=>L.length-k) 0 (by simp) (by simp+decide[int,ints,zF,zw,zO]) ?_
   intro k Z;by_cases F:k<L.length
   .have E:(k:Int)<L.length:=by omega
    have K:k<(zO L).length:=by omega
    have e2:(zO L)[k]?=some L[k].id:=by unfold zO;rw[List.getElem?_map,List.getElem?_eq_getElem F];rfl
    have hsn:zO ((L.take (k+1)).flatMap λp=>yz d p.id t)=zO ((L.take k).flatMap λp=>yz d p.id t)++zO (yz d L[k].id t):=by
     rw[take_snoc' F,List.flatMap_append];unfold zO;rw[List.map_append];simp
    have N:(zO ((L.take (k+1)).flatMap λp=>yz d p.id t)).length<=d.notes.length:=by
     rw[VR];refine Nat.le_trans ?_ H
     have:L.flatMap (λp=>yz d p.id t)=(L.take (k+1)).flatMap (λp=>yz d p.id t)++(L.drop (k+1)).flatMap (λp=>yz d p.id t):=by rw[<-List.flatMap_append,List.take_append_drop]
     rw[this,List.length_append];omega
    rw[hsn,List.length_append] at N;have V:(zO L)[k]'K=L[k].id:=by simp[zO]
    simp+decide[int,ints,F,E,V,T];refine zc.pure (by rfl) (XY d L[k].id t X).toR (by simp+decide[ints]) ?_
    simp+decide[int,ints,I64];refine⟨by omega,by unfold maxLen;omega,⟨by omega,by omega⟩,k+1,F,by omega,by omega,by rw[hsn];simp⟩
   .have:k=L.length:=by omega
    subst this;rw[List.take_length];simp+decide[int,ints]
theorem U6(d:Dc)(t:Int):∀ (m l:List Nt),(m.foldl (qX d t) l).length<=m.length+l.length
 | [],l=>by simp
 |n::m,l=>by
  rw[List.foldl_cons];refine Nat.le_trans (U6 d t m _) ?_
  unfold qX;split
  .rw[Rm,List.length_cons];omega
  .rw[List.length_cons];omega
theorem CV(h:Wgt d)(t:Int){m:List Nt}(hs:m.Sublist d.notes){x:Nt}:∀ {l:List Nt},x∈m.foldl (qX d t) l->x∈l\/(x∈d.notes/\x.tier=t):=by
 induction m with
 |nil=>intro l H;exact .inl H
 |cons n m ih=>
  intro l H;rw[List.foldl_cons] at H;rcases ih ((List.sublist_cons_self _ _).trans hs) H with e | e
  .unfold qX at e
   split at e
   .rename_i G
    rcases List.mem_cons.1 ((U4 _ _ _).mem_iff.1 e) with e | e
    .subst e;exact .inr ⟨hs.subset (by simp),G⟩
    .exact .inl e
   .exact .inl e
  .exact .inr e
theorem CW(R:Nt->Nt->Bool)(l:List Nt)(n:Nt):(uq R l n).map Nt.row=(l.map Nt.row).take (qW R n l l.length)++[n.row]++(l.map Nt.row).drop (qW R n l l.length):=by
 unfold uq
 rw[List.map_append,List.map_cons,List.map_take,List.map_drop];simp
theorem U7{l:List Nt}{r:List D}(h:r∈l.map Nt.row):r.length=7:=by
 obtain⟨x,_,rfl⟩:=List.mem_map.1 h;rfl
theorem VS(h:Wgt d)(t:Int):zi Tryz.prog 75 [zA d,int t] (ints (zO (wx d t))):=by
 refine u4 mixed Tryz.func75 rfl c_75 [3] ?_
 have C:=h.few
 simp+decide[Tryz.f75,zA,Dc.row,int,ints,zF,zw]
 refine uS [2] ?_
 refine zr mixed (λi:Nat=>{n:=72,next:=3,slots:=[(1,.d (int t)),(2,.bp 0 0),(5,.d (zw ((d.notes.take i).foldl (qX d t) []))),(6,.d (int i))],own:=[(0,.box 53 (yy d))]})
  (λi=>i<=d.notes.length) (λi=>d.notes.length-i) 0 (by simp) (by simp+decide[int,ints,zF,zw]) ?_
 intro i hi
 have H:=U6 d t (d.notes.take i) []
 have K:=λx=>CV h t (m:=d.notes.take i) (List.take_sublist _ _) (x:=x) (l:=[])
 rw[List.length_take,List.length_nil] at H
 by_cases G:i<d.notes.length
 case neg=>
  have:i=d.notes.length:=by omega
  subst this;rw[List.take_length];rw[List.take_length] at H;show ev _ _ _ _
  unfold wx;generalize d.notes.foldl (qX d t) []=l at H ⊢;simp+decide[int,zw];refine zr mixed (λk:Nat=>{n:=72,next:=4,slots:=[(5,.d (zw l)),(9,.ar 3),(10,.d (int k))],own:=[(3,.arr 3 1 ((zO (l.take k)).map λn=>[int n]))],moved:=[3]})
   (λk=>k<=l.length) (λk=>l.length-k) 0 (by simp) (by simp+decide[int,zO,zw]) ?_
  intro k S;by_cases O:k<l.length
  .have Q:(k:Int)<l.length:=by omega
   have e1:l[k]?=some l[k]:=List.getElem?_eq_getElem O
   have hsn:zO (l.take (k+1))=zO (l.take k)++[l[k].id]:=by unfold zO;rw[take_snoc' O,List.map_append];rfl
   have P:(zO (l.take k)).length<=k:=by unfold zO;rw[List.length_map,List.length_take];omega
   simp+decide[Nt.row,int,zw,O,Q,I64];exact⟨by omega,by unfold maxLen;omega,⟨by omega,by omega⟩,k+1,O,by omega,by omega,by rw[hsn];simp⟩
  .have:k=l.length:=by omega
   subst this;rw[List.take_length];simp+decide[int,zw]
 have J:(i:Int)<d.notes.length:=by omega
 obtain⟨n,en'⟩:∃ n,d.notes[i]=n:=⟨_,rfl⟩
 have en:d.notes[i]?=some n:=by rw[List.getElem?_eq_getElem G,en']
 have F:(d.notes.take (i+1)).foldl (qX d t) []=qX d t ((d.notes.take i).foldl (qX d t) []) n:=by
  rw[take_snoc' G,List.foldl_append,en'];rfl
 generalize (d.notes.take i).foldl (qX d t) []=l at H K F ⊢
 by_cases E:n.tier=t
 case neg=>
  rw[qX,if_neg E] at F;simp+decide[int,zw,Nt.row,G,J,en',E,I64];exact⟨⟨by omega,by omega⟩,i+1,G,by omega,by rw[F],by omega⟩
 have Z:n∈d.notes:=by rw[<-en'];exact List.getElem_mem G
 have T:=h.nok n Z
 have W:t.toNat<d.tiers.length:=by have:=T.1;have:=T.2;omega
 have A:((t.toNat:Nat):Int)=t:=by have:=T.1;omega
 rw[qX,if_pos E] at F
 have I:∀ x∈l,inT d t.toNat x:=λx hx=>by
  rcases K x hx with e | e
  .cases e
  .exact⟨e.1,by rw[A];exact e.2⟩
 have N:inT d t.toNat n:=⟨Z,by rw[A];exact E⟩
 have hb:=λx (hx:x∈l)=>Rs h t.toNat W n x N (I x hx)
 generalize hR:vN d t.toNat=R at F hb
 simp+decide[int,zw,Nt.row,G,J,en',E]
 refine zr mixed (λk:Nat=>{n:=72,next:=4,slots:=[(1,.d (int t)),(2,.bp 0 0),(5,.d (zw l)),(6,.d (int i)),(7,.bp 3 0),(8,.d (int k))],own:=[(0,.box 53 (yy d)),(3,.box 72 (noteCells n))]})
  (λk=>k<=l.length/\qW R n l l.length=qW R n l k) (λk=>k) l.length (by simp) (by simp+decide[int,zw,E]) ?_
 rintro k ⟨S,hg⟩
 have V:∀ j:Nat,k=j+1->R n (gN l j)=true->qW R n l l.length=qW R n l j:=by
  rintro j rfl hr;rw[hg,qW,if_pos hr]
 have L:(k=0\/∃ j,k=j+1/\R n (gN l j)=false)->qW R n l l.length=k:=by
  rintro(rfl | ⟨j,rfl,hr⟩)
  .rw[hg];rfl
  .rw[hg,qW,if_neg (by simp[hr])]
 cases k
 case' zero=>
  have X:=L (.inl rfl);simp+decide[int,zw]
 case' succ j=>
  have M:j<l.length:=by omega
  have Y:(j:Int)<l.length:=by omega
  have e2:l[j]?=some l[j]:=List.getElem?_eq_getElem M
  have j0:(0:Int)<(j:Int)+1:=by omega
  have j1:(j:Int)+1-1=j:=by omega
  have B:=hb l[j] (List.getElem_mem M);obtain⟨y,ey'⟩:∃ y,l[j]=y:=⟨_,rfl⟩;rw[ey'] at B;simp+decide[int,zw,Nt.row,M,Y,j0,j1,I64,ey'];refine⟨by omega,?_⟩
  refine zq (by rfl) (by rfl) B (by simp+decide) ?_
  cases hr:R n y
  case' true=>
   simp+decide
   exact⟨by unfold I64;omega,j,⟨by omega,V j rfl (by rw[xm M,ey'];exact hr)⟩,by omega⟩
  case' false=>
   have X:=L (.inr ⟨j,rfl,by rw[xm M,ey'];exact hr⟩)
   simp+decide
 all_goals
  refine zdc [4] ?_
  refine uR mixed 12 [] (by rfl) (by rfl) (by rfl) (by rfl) ?_
  simp+decide[int,zw,Nt.row]
 .have hm:min (j+1) l.length=j+1:=by omega
  refine⟨⟨by omega,by omega⟩,⟨λr hr=>U7 (List.mem_of_mem_take hr),by omega,by unfold maxLen;omega⟩,⟨by omega,by unfold maxLen;omega⟩,⟨by omega,by omega⟩,⟨λr hr=>U7 (List.mem_of_mem_take (List.mem_of_mem_drop hr)),by omega,by unfold maxLen;omega⟩,by rfl,by unfold I64;omega,i+1,G,by omega,?_,by omega⟩
  rw[F,CW,X];simp[Nt.row,int,List.take_of_length_le]
 .exact⟨⟨λr hr=>U7 (List.mem_of_mem_take hr),by omega,by unfold maxLen;omega⟩,by rfl,by unfold I64;omega,i+1,G,by omega,by rw[F,CW,X];simp[Nt.row,int,List.take_of_length_le],by omega⟩
theorem CX(h:Wgt d)(id t:Int):zi Tryz.prog 56 [zA d,int id,int t] (ints (zO ((wx d t).filter λn=>decide (n.par=id)))):=by
 refine u4 mixed Tryz.func56 rfl c_56 [2] ?_
 have J:=h.few
 have Q:=VS h t
 have T:∀ x∈wx d t,x∈d.notes:=λx V=>by
  rcases CV h t (List.Sublist.refl _) V with e | e
  .cases e
  .exact e.1
 have L:(wx d t).length<=d.notes.length:=by have:=U6 d t d.notes [];rw[List.length_nil,Nat.add_zero] at this;exact this
 generalize wx d t=l at Q T L ⊢
 simp+decide[Tryz.f56,zA,Dc.row,int,ints,zF,zw]
 refine zc.pure (by rfl) Q (by simp+decide[ints]) ?_
 have F:=VR l
 simp+decide[ints]
 refine zr mixed (λk:Nat=>{n:=43,next:=3,slots:=[(1,.d (int id)),(2,.d (int t)),(3,.bp 0 0),(7,.ar 2),(8,.d (ints (zO l))),(9,.d (int k))],own:=[(0,.box 53 (yy d)),(2,.arr 3 1 ((zO ((l.take k).filter λn=>decide (n.par=id))).map λn=>[int n]))],moved:=[2]})
  (λk=>k<=l.length) (λk=>l.length-k) 0 (by simp) (by simp+decide[int,ints,zF,zw,zO]) ?_
 intro k X
 by_cases H:k<l.length
 case neg=>
  have:k=l.length:=by omega
  subst this;rw[List.take_length];simp+decide[int,ints,F]
 have G:(k:Int)<l.length:=by omega
 have E:k<(zO l).length:=by omega
 have e2:(zO l)[k]?=some l[k].id:=by unfold zO;rw[List.getElem?_map,List.getElem?_eq_getElem H];rfl
 have K:(zO l)[k]'E=l[k].id:=by simp[zO]
 have M:=h.get (T _ (List.getElem_mem H))
 have hsn:zO ((l.take (k+1)).filter λn=>decide (n.par=id))=zO ((l.take k).filter λn=>decide (n.par=id))++(if l[k].par=id then [l[k].id] else []):=by
  rw[take_snoc' H,List.filter_append];unfold zO;rw[List.map_append];by_cases e:l[k].par=id <;> simp[e]
 have O:(zO ((l.take k).filter λn=>decide (n.par=id))).length<=k:=by
  rw[VR];exact Nat.le_trans (List.length_filter_le _ _) (by rw[List.length_take];omega)
 simp+decide[int,ints,G,F]
 refine uR mixed 12 [] (by rfl) (by rfl) (by rfl) (by rfl) ?_
 simp+decide[int,ints,H,G,F,K]
 refine zq (by rfl) (by rfl) (wn d l[k].id (by omega)) (by simp+decide) ?_
 rw[M]
 by_cases e:l[k].par=id
 .rw[if_pos e] at hsn
  simp+decide[getD',Nt.row,int,ints,e,H,G,F,K,I64];exact⟨by rfl,by omega,by unfold maxLen;omega,⟨by omega,by omega⟩,k+1,H,by omega,by omega,by rw[hsn];simp⟩
 .rw[if_neg e,List.append_nil] at hsn
  simp+decide[getD',Nt.row,int,e,I64];exact⟨by rfl,⟨by omega,by omega⟩,k+1,H,by omega,by omega,by rw[hsn]⟩
end
end Go.V.Doc
namespace Go.V.Doc
open Go Go.Proofs
theorem XZ{α:Type}{l:List α}{k:Nat}(h:k<l.length):l.take (k+1)=l.take k++[l[k]]:=by
 rw[List.take_add_one,List.getElem?_eq_getElem h];rfl
def gG{α:Type}(p:α->Bool)(l:List α):Int:=match l.findIdx? p with
 |some k=>k
 |none=>-1
theorem CY{α:Type}{p:α->Bool}{l:List α}{k:Nat}(h:k<l.length)(H:∀ e∈l.take k,p e=false)(G:p l[k]=true):l.findIdx? p=some k:=by
 rw[List.findIdx?_eq_some_iff_getElem]
 refine⟨h,G,λj hj=>?_⟩
 have:=H l[j] (by rw[List.mem_take_iff_getElem];exact⟨j,by omega,rfl⟩)
 simpa using this
theorem CZ{α:Type}{p:α->Bool}{l:List α}(H:∀ e∈l,p e=false):l.findIdx? p=none:=by
 rw[List.findIdx?_eq_none_iff];exact H
def zR(l:List Tir)(role:Int):Int:=if role=0 then -1 else gG (λt=>decide (t.role=role)) l
theorem U8(l:List Tir)(role:Int)(G:l.length<2^62):zi Tryz.prog 111 [zF l,int role] (int (zR l role)):=by
 refine zp mixed Tryz.func111 rfl c_111 ?_
 simp+decide[Tryz.f111,zF,int]
 refine zr mixed (λk:Nat=>{n:=24,next:=0,slots:=[(1,.d (int role)),(7,.d (zF l)),(8,.d (.int .i64 l.length)),(9,.d (.int .i64 k))],own:=[]})
  (λk=>k<=l.length/\(role≠0->∀ t∈l.take k,decide (t.role=role)=false)) (λk=>l.length-k) 0 (by simp) (by simp+decide[zF,int]) ?_
 intro k ⟨F,E⟩
 by_cases H:k<l.length
 .have e1:l[k]?=some l[k]:=List.getElem?_eq_getElem H
  by_cases K:role=0
  .subst K
   simp+decide[zF,Tir.row,int,H,I64];exact⟨by omega,k+1,H,by omega,by omega⟩
  .by_cases J:l[k].role=role
   .have L:zR l role=k:=by
     unfold zR gG;rw[if_neg K,CY H (E K) (by simp[J])]
    simp+decide[zF,Tir.row,int,H,K,J,L]
   .simp+decide[zF,Tir.row,int,H,I64,K,J]
    refine⟨by omega,k+1,⟨H,λt M=>?_⟩,by omega,by omega⟩
    rw[XZ H] at M;rcases List.mem_append.1 M with h | h
    .simpa using E K t h
    .rw[List.mem_singleton] at h;rw[h];exact J
 .have:k=l.length:=by omega
  subst this;rw[List.take_length] at E;have L:zR l role = -1:=by
   unfold zR gG;by_cases K:role=0
   .rw[if_pos K]
   .rw[if_neg K,CZ (E K)]
  simp+decide[zF,int,L]
theorem Rt(l:List Tir)(role:Int)(G:l.length<2^62):zi Tryz.prog 114 [zF l,int role] (int (zR l role)):=by
 refine zp mixed Tryz.func114 rfl c_114 ?_
 simp+decide[Tryz.f114,zF,int]
 refine zr mixed (λk:Nat=>{n:=24,next:=0,slots:=[(0,.d (zF l)),(1,.d (int role)),(5,.d (.int .i64 k))],own:=[]})
  (λk=>k<=l.length/\(role≠0->∀ t∈l.take k,decide (t.role=role)=false)) (λk=>l.length-k) 0 (by simp) (by simp+decide[zF,int]) ?_
 intro k ⟨F,E⟩
 by_cases H:k<l.length
 .have e1:l[k]?=some l[k]:=List.getElem?_eq_getElem H
  by_cases K:role=0
  .subst K
   simp+decide[zF,int,H,I64];exact⟨by omega,k+1,H,by omega,by omega⟩
  .by_cases J:l[k].role=role
   .have L:zR l role=k:=by
     unfold zR gG;rw[if_neg K,CY H (E K) (by simp[J])]
    simp+decide[zF,Tir.row,int,H,K,J,L]
   .simp+decide[zF,Tir.row,int,H,I64,K,J]
    refine⟨by omega,k+1,⟨H,λt M=>?_⟩,by omega,by omega⟩
    rw[XZ H] at M;rcases List.mem_append.1 M with h | h
    .simpa using E K t h
    .rw[List.mem_singleton] at h;rw[h];exact J
 .have:k=l.length:=by omega
  subst this;rw[List.take_length] at E;have L:zR l role = -1:=by
   unfold zR gG;by_cases K:role=0
   .rw[if_pos K]
   .rw[if_neg K,CZ (E K)]
  simp+decide[zF,int,L]
theorem Yq(d:Dc)(r:Int)(H:d.tiers.length<2^62):zi Tryz.prog 57 [zA d,int r] (int (zR d.tiers r)):=by
 refine zp mixed Tryz.func57 rfl c_57 ?_
 have G:=Rt d.tiers r H
 simp+decide[Tryz.f57,zA,Dc.row,int]
 refine zc.pure (by rfl) G (by simp) ?_
 simp+decide[int]
theorem Ru{P:Program}(F:P.follows .mixedOrders=true){id:Nat}{ops:List Oper}{st:St}{Q:DE->St->Prop}(H:ops≠[])(K:yV ops=true)(E:jk ops (ops.length-1)=true)(L:(ops.getLast H).guard=none)
  (G:(st.own.map (·.1)).Nodup) (h:Y8 P ops st.next (ops.getLast H) ops.dropLast st (Q .normal)):Triple P (.region id ops.toArray true) Q st:=by
 obtain⟨pre,o,rfl⟩:∃ pre o,ops=pre++[o]:=⟨ops.dropLast,ops.getLast H,(List.dropLast_concat_getLast H).symm⟩
 have J:(pre++[o]).getLast H=o:=by simp
 rw[J] at L h
 rw[List.dropLast_concat] at h
 refine MJ F K ?_ L G h
 simpa using E
def wy(d:Dc):D:=.agg [int (zR d.tiers 2),int (zR d.tiers 3),int (zR d.tiers 4)]
theorem ZD(d:Dc)(H:d.tiers.length<2^62):zi Tryz.prog 52 [zA d] (wy d):=by
 refine zp mixed Tryz.func52 rfl c_52 ?_
 have G:=U8 d.tiers 2 H
 have F:=U8 d.tiers 3 H
 have E:=U8 d.tiers 4 H
 simp+decide[Tryz.f52,zA,Dc.row,int]
 refine Ru mixed (by simp) (by rfl) (by rfl) (by rfl) (by simp) ?_
 simp+decide
 refine zq (by rfl) (by rfl) G (by simp) ?_
 simp+decide[int]
 refine zq (by rfl) (by rfl) F (by simp) ?_
 simp+decide[int]
 refine zq (by rfl) (by rfl) E (by simp) ?_
 simp+decide[int,wy]
def xN(d:Dc):Bool:=decide (0<=zR d.tiers 2)&&(decide (0<=zR d.tiers 3)&&decide (0<=zR d.tiers 4))
theorem Q0(d:Dc)(H:d.tiers.length<2^62):zi Tryz.prog 20 [zA d] (.bool (xN d)):=by
 refine zp mixed Tryz.func20 rfl c_20 ?_
 have h:=ZD d H
 unfold xN
 simp+decide[Tryz.f20,zA,Dc.row,int]
 refine zc.pure (by rfl) h (λ_=>rfl) ?_
 by_cases c2:0<=zR d.tiers 2
 .by_cases c3:0<=zR d.tiers 3
  .by_cases c4:0<=zR d.tiers 4
   .simp+decide[wy,int,c2,c3,c4]
   .simp+decide[wy,int,c2,c3,c4]
  .simp+decide[wy,int,c2,c3]
 .simp+decide[wy,int,c2]
theorem B0(d:Dc)(H:d.tiers.length<2^62):zi Tryz.prog 21 [zA d] (.bool (xN d)):=by
 refine zp mixed Tryz.func21 rfl c_21 ?_
 have G:=Yq d 2 H
 have F:=Yq d 3 H
 have E:=Yq d 4 H
 unfold xN
 simp+decide[Tryz.f21,zA,Dc.row,int]
 refine zc.pure (by rfl) G (λ_=>rfl) ?_
 by_cases c2:0<=zR d.tiers 2
 .simp+decide[int,c2]
  refine zc.pure (by rfl) F (λ_=>rfl) ?_
  by_cases c3:0<=zR d.tiers 3
  .simp+decide[int,c3]
   refine zc.pure (by rfl) E (λ_=>rfl) ?_
   by_cases c4:0<=zR d.tiers 4
   .simp+decide[int,c4]
   .simp+decide[int,c4]
  .simp+decide[int,c3]
 .simp+decide[int,c2]
theorem U9(d:Dc)(id:Int)(H:d.notes.length<2^62):zi Tryz.prog 58 [zA d,int id] (.str (zy d.notes id).1.text):=by
 refine zp mixed Tryz.func58 rfl c_58 ?_
 have h:=wn d id H
 simp+decide[Tryz.f58,zA,Dc.row,int]
 refine zc.pure (by rfl) h (λ_=>rfl) ?_
 simp+decide[getD',Nt.row,int]
def qf(d:Dc)(id:Int):Bool:=(zy d.notes id).2&&decide ((zy d.notes id).1.tier=zR d.tiers 2)
theorem B2(d:Dc)(id:Int)(H:d.notes.length<2^62)(G:d.tiers.length<2^62):zi Tryz.prog 55 [zA d,int id] (.bool (qf d id)):=by
 refine zp mixed Tryz.func55 rfl c_55 ?_
 have h:=wn d id H
 have F:=Yq d 2 G
 unfold qf
 simp+decide[Tryz.f55,zA,Dc.row,int]
 refine zc.pure (by rfl) h (λ_=>rfl) ?_
 generalize zy d.notes id=r
 obtain⟨n,ok⟩:=r
 cases ok with
 |false=>simp+decide[getD',Nt.row,int]
 |true=>
  simp+decide[getD',Nt.row,int];refine zq (by rfl) (by rfl) F (by simp) ?_
  simp+decide[int]
theorem B5(d:Dc)(id:Int)(H:d.notes.length<2^62)(G:d.tiers.length<2^62):zi Tryz.prog 51 [zA d,int id] (.tup [.agg (zy d.notes id).1.row,.bool (qf d id)]):=by
 refine zp mixed Tryz.func51 rfl c_51 ?_
 have h:=Yl d id H
 have F:=ZD d G
 unfold qf
 simp+decide[Tryz.f51,zA,Dc.row,int]
 refine zc.pure (by rfl) h (λ_=>rfl) ?_
 generalize zy d.notes id=r
 obtain⟨n,ok⟩:=r
 cases ok with
 |false=>
  simp+decide[getD',Nt.row,int];refine Zf mixed 10 [1] (by rfl) (by rfl) (by rfl) (by rfl) (by simp) ?_
  simp+decide
 |true=>
  simp+decide[getD',Nt.row,int];refine Zf mixed 10 [1] (by rfl) (by rfl) (by rfl) (by rfl) (by simp) ?_
  simp+decide
  refine zq (by rfl) (by rfl) F (by simp) ?_
  simp+decide[int,wy]
def yl(l:List ByteArray):D:=.sl (l.map λs=>[.str s])
def qn(d:Dc)(id:Int):ByteArray:=(zy d.notes id).1.text
def kQ(d:Dc)(l:List Int):ByteArray:=l.foldl (λ_ k=>qn d k) .empty
def yv(d:Dc)(id:Int)(r:Int):List Int:=zO (yz d id (zR d.tiers r))
def ZE(d:Dc)(w:Int):Bool:=qf d w&&xN d
theorem VT(d:Dc)(id r:Int)(H:Fw d):(yv d id r).length<20:=by
 unfold yv zO yz
 rw[List.length_map,(gB _).length_eq]
 exact H.k _ _
theorem Rv{d:Dc}{K:List Int}{j:Nat}(h:j<K.length):(K.take (j+1)).foldl (λ_ k=>qn d k) ByteArray.empty=qn d K[j]:=by
 rw[XZ h,List.foldl_append]
 rfl
def fRow(d:Dc)(L:List Int):List (List D):=L.map λm=>[D.str (qn d m)]
def gRow(d:Dc)(L:List Int):List (List D):=L.map λm=>[D.str (kQ d (yv d m 4))]
theorem Rw(d:Dc)(w:Int)(S:Fw d)(W:d.tiers.length<2^62):
  zi Tryz.prog 18 [zA d,int w] (if ZE d w=true then .tup [yl ((yv d w 3).map (qn d)),yl ((yv d w 3).map λm=>kQ d (yv d m 4))] else .tup [yl [],yl []]):=by
 refine zp mixed Tryz.func18 rfl c_18 ?_
 have B:=S.n
 have hg:=B5 d w (by omega) W
 have hr:=Q0 d W
 have hf:=ZD d W
 have X:=VT d w 3 S
 unfold ZE
 simp+decide[Tryz.f18,zA,Dc.row,int]
 refine zc.pure (by rfl) hg (λ_=>rfl) ?_
 cases hw:qf d w with
 |false=>simp+decide[Nt.row,int,yl]
 |true=>
  simp+decide[Nt.row,int];refine zc.pure (by rfl) hr (λ_=>rfl) ?_
  cases N:xN d with
  |false=>simp+decide[yl]
  |true=>
   simp+decide
   refine zc.pure (by rfl) hf (λ_=>rfl) ?_
   simp+decide[int,wy];refine zc.V9 (by rfl) (XY d w (zR d.tiers 3) S) ?_
   change ((yv d w 3).length<20) at X
   rw[show zO (yz d w (zR d.tiers 3))=yv d w 3 from rfl]
   generalize yv d w 3=L at X ⊢;simp+decide[ints];have P:ints d.spk = .sl (d.spk.map λn=>[.int .i64 n]):=rfl
   refine yg mixed (λk:Nat=>{n:=82,next:=7,slots:=[(2,.bp 0 0),(8,.bp 4 0),(9,.ar 5),(10,.ar 6),(39,.d (ints L)),(40,.d (int L.length)),(41,.d (int k))],own:=[(0,.box 53 (yy d)),(4,.box 112 [.d (int (zR d.tiers 2)),.d (int (zR d.tiers 3)),.d (int (zR d.tiers 4))]),(5,.arr 9 1 (fRow d (L.take k))),(6,.arr 9 1 (gRow d (L.take k)))],moved:=[5,6]})
    (λk=>k<=L.length) (λk=>L.length-k) 0 (Nat.zero_le _) ?_ ?_
   .simp+decide[int,ints,yy,fRow,gRow]
   intro k C;refine zM mixed ?_
   by_cases H:k<L.length
   case neg=>
    have:k=L.length:=by omega
    subst this;simp+decide[int,ints,yl,fRow,gRow,yy,qn]
   have J:(k:Int)<L.length:=by omega
   obtain⟨m,em⟩:∃ m,L[k]=m:=⟨_,rfl⟩;have em1:L[k]?=some m:=by rw[List.getElem?_eq_getElem H,em]
   have Y:=Yl d m (by omega)
   have M:=XY d m (zR d.tiers 4) S;have O:=VT d m 4 S;have hsn:=XZ H;rw[em] at hsn;have ef:fRow d (L.take (k+1))=fRow d (L.take k)++[[.str (qn d m)]]:=by rw[hsn];simp[fRow]
   have eg:gRow d (L.take (k+1))=gRow d (L.take k)++[[.str (kQ d (yv d m 4))]]:=by rw[hsn];simp[gRow]
   have lf:(fRow d (L.take k)).length=k:=by simp[fRow];omega
   have lg:(gRow d (L.take k)).length=k:=by simp[gRow];omega
   generalize fRow d (L.take k)=F at ef lf;generalize gRow d (L.take k)=G at eg lg;rw[show zO (yz d m (zR d.tiers 4))=yv d m 4 from rfl] at M
   have Q:qn d m=(zy d.notes m).1.text:=rfl
   generalize yv d m 4=K at M O eg;generalize zy d.notes m=r at Y Q;obtain⟨nm,ok⟩:=r;simp only at Q
   simp+decide[int,ints,yy,H,J,em];refine zc.pure (by rfl) Y (λ_=>rfl) ?_
   simp+decide[getD',Nt.row,int];refine zc.V9 (by rfl) M ?_
   simp+decide[ints];refine yg mixed (λj:Nat=>{n:=82,next:=8,slots:=[(2,.bp 0 0),(8,.bp 4 0),(9,.ar 5),(10,.ar 6),(39,.d (ints L)),(40,.d (int L.length)),(41,.d (int k)),(13,.bp 7 0),(15,.d (.str (kQ d (K.take j)))),(55,.d (ints K)),(56,.d (int K.length)),(57,.d (int j))],own:=[(0,.box 53 (yy d)),(4,.box 112 [.d (int (zR d.tiers 2)),.d (int (zR d.tiers 3)),.d (int (zR d.tiers 4))]),(5,.arr 9 1 F),(6,.arr 9 1 G),(7,.box 72 (nm.row.map .d))],moved:=[5,6]})
    (λj=>j<=K.length) (λj=>K.length-j) 0 (Nat.zero_le _) ?_ ?_
   .simp+decide[int,ints,yy,Nt.row,kQ]
   intro j hj;refine zM mixed ?_
   by_cases E:j<K.length
   case neg=>
    have:j=K.length:=by omega
    subst this;rw[List.take_length];simp+decide[int,ints,yy,Nt.row,I64];exact⟨by omega,by unfold maxLen;omega,by omega,by unfold maxLen;omega,⟨by omega,by omega⟩,k+1,H,by omega,by omega,by rw[ef,Q],by rw[eg]⟩
   have T:(j:Int)<K.length:=by omega
   obtain⟨q,eq⟩:∃ q,K[j]=q:=⟨_,rfl⟩;have eq1:K[j]?=some q:=by rw[List.getElem?_eq_getElem E,eq]
   have Z:=Rv (d:=d) E;rw[eq] at Z;have A:=Yl d q (by omega)
   have V:qn d q=(zy d.notes q).1.text:=rfl
   generalize zy d.notes q=r2 at A V;obtain⟨nq,okq⟩:=r2;simp only at V
   have I:kQ d (K.take (j+1))=nq.text:=by unfold kQ;rw[Z,V]
   simp+decide[int,ints,yy,Nt.row,E,T,eq];refine zc.pure (by rfl) A (λ_=>rfl) ?_
   simp+decide[getD',Nt.row,int,I64];exact⟨⟨by omega,by omega⟩,j+1,E,by omega,by rw[I],by omega⟩
def jN(d:Dc)(id:Int)(r:Int):List Int:=zO ((wx d (zR d.tiers r)).filter λn=>decide (n.par=id))
def Q5(d:Dc)(l:List Int):ByteArray:=match l with
 | []=>.empty
 |k::_=>qn d k
def ut(d:Dc)(L:List Int):List (List D):=L.map λm=>[D.str (Q5 d (jN d m 4))]
theorem Rx(d:Dc)(Z:Wgt d)(w:Int)(A:d.tiers.length<2^62)(B:(jN d w 3).length<2^40):
  zi Tryz.prog 19 [zA d,int w] (if (xN d&&qf d w)=true then .tup [yl ((jN d w 3).map (qn d)),yl ((jN d w 3).map λm=>Q5 d (jN d m 4))] else .tup [yl [],yl []]):=by
 refine zp mixed Tryz.func19 rfl c_19 ?_
 have T:=Z.few
 have C:=B2 d w (by omega) A
 have I:=B0 d A
 have N:=Yq d 3 A
 have P:=Yq d 4 A
 have S:=CX Z w (zR d.tiers 3)
 simp+decide[Tryz.f19,zA,Dc.row,int]
 refine zc.pure (by rfl) I (λ_=>rfl) ?_
 cases X:xN d with
 |false=>simp+decide[yl]
 |true=>
  simp+decide
  refine zc.pure (by rfl) C (λ_=>rfl) ?_
  cases Y:qf d w with
  |false=>simp+decide[yl]
  |true=>
   simp+decide
   refine zq (by rfl) (by rfl) N (by simp) ?_
   simp+decide[int];refine zq (by rfl) (by rfl) S (by simp) ?_
   rw[show zO ((wx d (zR d.tiers 3)).filter λn=>decide (n.par=w))=jN d w 3 from rfl]
   generalize jN d w 3=L at B ⊢;simp+decide[ints];refine yg mixed (λk:Nat=>{n:=66,next:=5,slots:=[(2,.bp 0 0),(6,.ar 3),(7,.ar 4),(8,.d (ints L)),(9,.d (int k))],own:=[(0,.box 53 (yy d)),(3,.arr 9 1 (fRow d (L.take k))),(4,.arr 9 1 (ut d (L.take k)))],moved:=[3,4]})
    (λk=>k<=L.length) (λk=>L.length-k) 0 (Nat.zero_le _) ?_ ?_
   .simp+decide[int,ints,yy,fRow,ut]
   intro k V;refine zM mixed ?_
   by_cases H:k<L.length
   case neg=>
    have:k=L.length:=by omega
    subst this;simp+decide[int,ints,yl,fRow,ut,yy,qn]
   have E:(k:Int)<L.length:=by omega
   obtain⟨m,em⟩:∃ m,L[k]=m:=⟨_,rfl⟩;have em1:L[k]?=some m:=by rw[List.getElem?_eq_getElem H,em]
   have M:=U9 d m (by omega)
   have J:=CX Z m (zR d.tiers 4);have hsn:=XZ H;rw[em] at hsn;have ef:fRow d (L.take (k+1))=fRow d (L.take k)++[[.str (qn d m)]]:=by rw[hsn];simp[fRow]
   have eg:ut d (L.take (k+1))=ut d (L.take k)++[[.str (Q5 d (jN d m 4))]]:=by rw[hsn];simp[ut]
   have lf:(fRow d (L.take k)).length=k:=by simp[fRow];omega
   have lg:(ut d (L.take k)).length=k:=by simp[ut];omega
   generalize fRow d (L.take k)=F at ef lf;generalize ut d (L.take k)=G at eg lg;rw[show zO ((wx d (zR d.tiers 4)).filter λn=>decide (n.par=m))=jN d m 4 from rfl] at J
   rw[show(zy d.notes m).1.text=qn d m from rfl] at M
   generalize jN d m 4=K at J eg;simp+decide[int,ints,yy,E];refine uc mixed 8 (by rfl) (by rfl) (by rfl) (by rfl) (by simp) ?_
   simp+decide[H,E,em];refine zq (by rfl) (by rfl) M (by simp[D.scalar]) ?_
   simp+decide
   refine⟨by omega,by unfold maxLen;omega,?_⟩
   refine zq (by rfl) (by rfl) P (by simp) ?_
   simp+decide[int];refine zq (by rfl) (by rfl) J (by simp) ?_
   cases K with
   |nil=>
    simp+decide[ints,I64];exact⟨by omega,by unfold maxLen;omega,⟨by omega,by omega⟩,k+1,H,by omega,by omega,by rw[ef],by rw[eg];rfl⟩
   |cons q K'=>
    have O:=U9 d q (by omega)
    rw[show(zy d.notes q).1.text=qn d q from rfl] at O
    have Q:(0:Int)<(K'.length:Int)+1:=by omega
    simp+decide[ints,Q];refine uc mixed 7 (by rfl) (by rfl) (by rfl) (by rfl) (by simp) ?_
    simp+decide[I64,Q];refine zq (by rfl) (by rfl) O (by simp[D.scalar]) ?_
    simp+decide
    exact⟨by omega,by unfold maxLen;omega,⟨by omega,by omega⟩,k+1,H,by omega,by omega,by rw[ef],by rw[eg];rfl⟩
theorem Rgt.label{d:Dc}(h:Rgt d){t:Nat}(J:t<d.tiers.length)(k4:(zB d t).kind=4){a b:Nt}(L:inT d t a)(M:inT d t b)(O:a.par=b.par):a=b:=by
 apply Classical.byContradiction
 intro K
 have H:=(CN.1 (h.ter t J)).2 a (gC.2 L)
 have F:a∈yk d.notes t a.par:=by unfold yk;rw[List.mem_filter];exact⟨L.1,by simp[L.2]⟩
 have E:b∈yk d.notes t a.par:=by unfold yk;rw[List.mem_filter];exact⟨M.1,by simp[M.2,O]⟩
 have G:¬1<(yk d.notes t a.par).length:=by
  rw[k4] at H;simp[badR] at H;omega
 generalize yk d.notes t a.par=S at G F E
 obtain⟨i,hi,rfl⟩:=List.mem_iff_getElem.1 F
 obtain⟨j,hj,rfl⟩:=List.mem_iff_getElem.1 E
 have:i=j:=by omega
 subst this
 exact K rfl
theorem Rgt.x4{d:Dc}(h:Rgt d){t:Nat}(H:t<d.tiers.length)(G:(d.tiers[t]).role=4):(zB d t).kind=4:=by
 have F:=h.good.tiers t H
 rw[ZB d H]
 generalize d.tiers[t]=x at *
 unfold qj at F
 have key:∀ pr,gm pr x.kind x.role=0->x.kind=4:=by
  intro pr E;unfold gm at E;rw[G] at E;simp at E
  exact Classical.byContradiction λhne=>by rw[if_neg hne] at E;cases E
 split at F
 .cases F
 .split at F
  .cases F
  .split at F
   .cases F
   .split at F
    .cases F
    .split at F
     .cases F
     .split at F
      .split at F
       .exact key _ F
       .cases F
      .split at F
       .cases F
       .split at F
        .cases F
        .exact key _ F
theorem B6{α:Type}{p:α->Bool}{l:List α}(h:0<=gG p l):∃ k:Nat,gG p l=k/\∃ H:k<l.length,p l[k]=true:=by
 unfold gG at h ⊢
 cases G:l.findIdx? p with
 |none=>rw[G] at h;simp at h
 |some k=>
  rw[List.findIdx?_eq_some_iff_getElem] at G;obtain⟨H,F,_⟩:=G;exact⟨k,rfl,H,F⟩
theorem Ry{α:Type}:∀ {l:List α},l.Nodup->(∀ a∈l,∀ b∈l,a=b)->l.length<=1
 | [],_,_=>Nat.zero_le _
 | [a],_,_=>Nat.le_refl _
 |a::b::l,H,h=>by
  have:=h a (by simp) b (by simp)
  subst this;simp at H
theorem Rz{d:Dc}(h:Rgt d)(H:xN d=true)(m:Int):(yv d m 4).length<=1:=by
 unfold xN at H
 simp only[Bool.and_eq_true,decide_eq_true_eq] at H
 have G:=H.2.2
 unfold zR at G
 rw[if_neg (by decide)] at G
 obtain⟨t,et,F,E⟩:=B6 G
 rw[decide_eq_true_eq] at E
 have K:=h.x4 F E
 have er:zR d.tiers 4=(t:Int):=by unfold zR;rw[if_neg (by decide),et]
 unfold yv zO
 rw[List.length_map,er]
 refine Ry ?_ ?_
 .exact(gB _).nodup_iff.2 ((VN h.w).sublist List.filter_sublist)
 .intro a J b L
  have J:=List.mem_filter.1 ((gB _).mem_iff.1 J);have L:=List.mem_filter.1 ((gB _).mem_iff.1 L);have ka:=J.2;have kb:=L.2;unfold yX at ka kb;simp only[Bool.and_eq_true,decide_eq_true_eq] at ka kb;exact h.label F K ⟨J.1,ka.1.1.1⟩ ⟨L.1,kb.1.1.1⟩ (by rw[ka.1.1.2,kb.1.1.2])
theorem RA{d:Dc}{K:List Int}(h:K.length<=1):kQ d K=Q5 d K:=by
 match K,h with
 | [],_=>rfl
 | [k],_=>rfl
theorem Ua{d:Dc}(h:Rgt d)(id r:Int):jN d id r=yv d id r:=by
 unfold jN yv
 rw[Rq h.w,Rr h.w]
theorem Ub{d:Dc}(h:wu d=true):d.notes.length<=14/\d.tiers.length<=6/\d.spk.length<=6/\Rgt d:=by
 simp only[wu,Bool.and_eq_true,decide_eq_true_eq] at h
 exact⟨h.1.1.1,h.1.1.2,h.1.2,Rc.1 (by rw[CH];exact h.2)⟩
theorem B7{d:Dc}(h:Rgt d):d.tiers.length<=20:=by
 have:=h.tiers
 unfold jH at this
 split at this
 .cases this
 .omega
theorem Rgt.RB{d:Dc}(h:Rgt d){m:Nt}(G:m∈d.notes):∃ t:Nat,t<d.tiers.length/\m.tier=t:=by
 have H:=ul h.good G
 exact⟨m.tier.toNat,by have:=H.t0;have:=H.t1;omega,by have:=H.t0;omega⟩
def Q6(d:Dc)(t:Nat)(n:Nt):List Nt:=n::(if h:(zB d t).kind≠0/\(zB d t).par.toNat<t then Q6 d (zB d t).par.toNat (q7 d n) else [])
termination_by t
decreasing_by exact h.2
theorem RD(d:Dc)(t:Nat)(n:Nt):Q6 d t n=n::(if h:(zB d t).kind≠0/\(zB d t).par.toNat<t then Q6 d (zB d t).par.toNat (q7 d n) else []):=by rw[Q6]
def vr(d:Dc)(n:Nt):List Nt:=Q6 d n.tier.toNat n
def chainE(d:Dc)(r:Nt×Bool):List Nt:=if r.2=true then vr d r.1 else []
theorem qo{d:Dc}(h:Rgt d){n:Nt}(G:n∈d.notes):vr d n=n::chainE d (zy d.notes n.par)/\((zy d.notes n.par).2=true->(zy d.notes n.par).1∈d.notes/\(zy d.notes n.par).1.tier<n.tier):=by
 obtain⟨t,H,et⟩:=h.RB G
 unfold vr
 rw[et,Int.toNat_natCast,RD]
 by_cases F:(zB d t).kind=0
 .have E:n.par=0:=h.root ⟨G,et⟩ F
  have K:(zy d.notes n.par).2=false:=by
   cases J:(zy d.notes n.par).2 with
   |false=>rfl
   |true=>
    obtain⟨g1,g2⟩:=Yp J;have:=(h.nok _ g1).lo
    omega
  rw[dif_neg (λe=>e.1 F)]
  refine⟨?_,λe=>by rw[K] at e;cases e⟩
  unfold chainE;rw[K];rfl
 .have L:=h.up H F
  obtain⟨p1,p2⟩:=h.parent ⟨G,et⟩ H F;have K:=Zz h p1.1;rw[p2] at K;rw[dif_pos ⟨F,L.2⟩,K];refine⟨?_,λ_=>⟨p1.1,by have:=p1.2;rw[this];omega⟩⟩
  unfold chainE vr;rw[if_pos rfl,p1.2,Int.toNat_natCast]
theorem Uc{d:Dc}(h:Rgt d):∀ (k:Nat) (n:Nt),n∈d.notes->n.tier.toNat<=k->(∀ m∈vr d n,m∈d.notes)/\(vr d n).length<=n.tier.toNat+1:=by
 intro k
 induction k with
 |zero=>
  intro n H G;obtain⟨F,E⟩:=qo h H;have K:(zy d.notes n.par).2=false:=by
   cases J:(zy d.notes n.par).2 with
   |false=>rfl
   |true=>
    have:=E J
    have:=(h.nok _ this.1).t0
    omega
  rw[F];unfold chainE;rw[K];exact⟨by simp[H],by simp⟩
 |succ k ih=>
  intro n H G;obtain⟨F,E⟩:=qo h H;rw[F];unfold chainE;cases J:(zy d.notes n.par).2 with
  |false=>exact⟨by simp[H],by simp⟩
  |true=>
   obtain⟨g1,g2⟩:=E J;have g0:=(h.nok _ g1).t0;have:=ih _ g1 (by omega)
   rw[if_pos rfl];refine⟨λm L=>?_,by rw[List.length_cons];omega⟩
   rcases List.mem_cons.1 L with rfl | L
   .exact H
   .exact this.1 m L
theorem Ud{d:Dc}(h:Rgt d){n:Nt}(H:n∈d.notes):n∈vr d n:=by
 rw[(qo h H).1];exact List.mem_cons_self
theorem Ue{d:Dc}(h:Rgt d):∀ (k:Nat) (n:Nt),n∈d.notes->n.tier.toNat<=k->∀ m∈chainE d (zy d.notes n.par),m.tier<n.tier:=by
 intro k
 induction k with
 |zero=>
  intro n H G m F;unfold chainE at F;split at F
  .rename_i E
   have:=(qo h H).2 E
   have:=(h.nok _ this.1).t0
   omega
  .cases F
 |succ k ih=>
  intro n H G m F;unfold chainE at F;split at F
  .rename_i E
   obtain⟨K,J⟩:=(qo h H).2 E;have g0:=(h.nok _ K).t0;rw[(qo h K).1] at F;rcases List.mem_cons.1 F with rfl | F
   .exact J
   .have:=ih _ K (by omega) m F
    omega
  .cases F
theorem RE{d:Dc}(h:Rgt d):∀ (k:Nat) (n:Nt),n∈d.notes->n.tier.toNat<=k->∀ m∈vr d n,∀ c∈vr d m,c∈vr d n:=by
 intro k
 induction k with
 |zero=>
  intro n F E m K c J;rw[(qo h F).1] at K;rcases List.mem_cons.1 K with rfl | K
  .exact J
  .have:=Ue h _ n F (Nat.le_refl _) m K
   have G:=(Uc h _ n F (Nat.le_refl _)).1 m (by rw[(qo h F).1];exact List.mem_cons_of_mem _ K)
   have:=(h.nok _ G).t0
   omega
 |succ k ih=>
  intro n F E m K c J;rw[(qo h F).1] at K ⊢;rcases List.mem_cons.1 K with rfl | K
  .rw[(qo h F).1] at J;exact J
  .refine List.mem_cons_of_mem _ ?_
   unfold chainE at K ⊢;split at K
   .rename_i H
    rw[if_pos H];obtain⟨L,M⟩:=(qo h F).2 H;have g0:=(h.nok _ L).t0;exact ih _ L (by omega) m K c J
   .cases K
end Go.V.Doc
namespace Go.V.Doc
open Go Go.Proofs
def Uf(l:List Nt)(id:Int):List Int:=(l.filter λn=>decide (n.par=id)).map (·.id)
def VU(l:List Nt):Nat->Int->List Int
 |0,_=>[]
 |f+1,id=>(Uf l id).flatMap λk=>k::VU l f k
section
variable {d:Dc}
theorem B8{l:List Nt}{id x:Int}:x∈Uf l id↔∃ k∈l,k.par=id/\k.id=x:=by
 unfold Uf
 simp only[List.mem_map,List.mem_filter,decide_eq_true_eq]
 exact⟨λ⟨k,⟨H,G⟩,F⟩=>⟨k,H,G,F⟩,λ⟨k,H,G,F⟩=>⟨k,⟨H,G⟩,F⟩⟩
theorem Ug(h:Rgt d){n k:Nt}(H:n∈d.notes)(G:k∈d.notes)(F:k.par=n.id):n.tier<k.tier:=by
 have:=(qo h G).2
 rw[F,Zz h H] at this
 exact(this rfl).2
theorem RF(h:Rgt d){n k:Nt}(H:n∈d.notes)(G:k∈d.notes)(F:k.par=n.id):vr d k=k::vr d n:=by
 rw[(qo h G).1,F,Zz h H];rfl
theorem B9(h:Rgt d){m:Nt}(H:m∈d.notes):(∃ p∈d.notes,p.id=m.par/\chainE d (zy d.notes m.par)=vr d p/\p.tier<m.tier)\/chainE d (zy d.notes m.par)=[]:=by
 cases G:(zy d.notes m.par).2 with
 |false=>right;unfold chainE;rw[G];rfl
 |true=>
  left
  obtain⟨F,E⟩:=(qo h H).2 G;exact⟨_,F,(Yp G).2,by unfold chainE;rw[if_pos G],E⟩
theorem RG(h:Rgt d):∀ (k:Nat) (m:Nt),m∈d.notes->m.tier.toNat<=k->∀ n∈chainE d (zy d.notes m.par),∃ c∈vr d m,c.par=n.id:=by
 intro k
 induction k with
 |zero=>
  intro m G F n E;have:=Ue h _ m G (Nat.le_refl _) n E
  have H:=(Uc h _ m G (Nat.le_refl _)).1 n (by rw[(qo h G).1];exact List.mem_cons_of_mem _ E)
  have:=(h.nok _ H).t0
  omega
 |succ k ih=>
  intro m G F n E;rcases B9 h G with⟨p,K,e1,e2,e3⟩ | e
  .rw[e2,(qo h K).1] at E
   rw[(qo h G).1,e2];rcases List.mem_cons.1 E with rfl | E
   .exact⟨m,List.mem_cons_self,e1.symm⟩
   .have:=(h.nok _ K).t0
    obtain⟨c,J,ec⟩:=ih p K (by omega) n E
    exact⟨c,List.mem_cons_of_mem _ J,ec⟩
  .rw[e] at E;cases E
theorem Uh(h:Rgt d){m c:Nt}(H:m∈d.notes)(G:c∈vr d m):c∈d.notes:=(Uc h _ m H (Nat.le_refl _)).1 c G
theorem Ba(h:Rgt d):∀ (f:Nat) (n:Nt),n∈d.notes->(d.tiers.length:Int)-n.tier<=f->∀ x,x∈VU d.notes f n.id↔∃ m∈d.notes,m.id=x/\n∈chainE d (zy d.notes m.par):=by
 intro f
 induction f with
 |zero=>intro n J L;have:=(h.nok n J).t1;omega
 |succ f ih=>
  intro n J L x;unfold VU;rw[List.mem_flatMap];constructor
  .rintro⟨y,M,O⟩
   obtain⟨k,Q,T,rfl⟩:=B8.1 M;have V:=Ug h J Q T;have F:=RF h J Q T;rcases List.mem_cons.1 O with rfl | O
   .refine⟨k,Q,rfl,?_⟩
    rw[T,Zz h J];exact Ud h J
   .obtain⟨m,X,rfl,H⟩:=(ih k Q (by omega) x).1 O
    refine⟨m,X,rfl,?_⟩
    rcases B9 h X with⟨p,E,e1,e2,e3⟩ | e
    .rw[e2] at H ⊢
     exact RE h _ p E (Nat.le_refl _) k H n (by rw[F];exact List.mem_cons_of_mem _ (Ud h J))
    .rw[e] at H;cases H
  .rintro⟨m,X,rfl,K⟩
   obtain⟨k,Q,ek⟩:=RG h _ m X (Nat.le_refl _) n K;have G:=Uh h X Q;have V:=Ug h J G ek;refine⟨k.id,B8.2 ⟨k,G,ek,rfl⟩,?_⟩
   rw[(qo h X).1] at Q;rcases List.mem_cons.1 Q with rfl | Q
   .exact List.mem_cons_self
   .exact List.mem_cons_of_mem _ ((ih k G (by omega) m.id).2 ⟨m,X,rfl,Q⟩)
theorem RH(h:Rgt d){n c:Nt}(H:n∈d.notes)(G:c∈vr d n):c.tier<=n.tier:=by
 rw[(qo h H).1] at G
 rcases List.mem_cons.1 G with rfl | G
 .exact Int.le_refl _
 .have:=Ue h _ n H (Nat.le_refl _) c G
  omega
end
end Go.V.Doc
namespace Go.V.Doc
open Go Go.Proofs
end Go.V.Doc
namespace Go.V.Doc
open Go Go.Proofs Go.Sort Go.RowKit
abbrev VV(l:List Int):List (List D):=l.map λn=>[int n]
abbrev kR(l:List Int):D:=.fn 188 [.ptr [ints l]]
def qp(l:List Int):List Sym:=[.junk,.junk,.bp 1 0,.junk,.junk,.junk,.d (kR l),.junk,.junk,.junk,.junk,.junk,.junk]
@[simp] theorem ziy(l:List Int):Sym.los 2 (qp l):=by simp[qp,Sym.los,Sym.lo]
@[simp] theorem ziz(l:List Int):Sym.los 3 (qp l):=by simp[qp,Sym.los,Sym.lo]
@[simp] theorem zi0(l:List Int):Sym.los 4 (qp l):=by simp[qp,Sym.los,Sym.lo]
noncomputable def vt(q:List Int):Obj':=.raw (.lp #[7] (vm Tryz.f224) (vn Tryz.f224) .ready none) (qp q)
noncomputable def qY(q:List Int):List (Nat×Obj'):=[(0,vt q),(1,.box 31 [.nils])]
@[simp] theorem zkd(l:List Int):y8 (yo [0,1] 2) (qp l)=qp l:=rfl
@[simp] theorem zke(l:List Int):y8 (yo [0,1,3] 4) (qp l)=qp l:=rfl
@[simp] theorem zkf(l:List Int):y8 (yo [0,1,2] 3) (qp l)=qp l:=rfl
noncomputable def Yr(q l:List Int):List (Nat×Obj'):=[(0,vt q),(1,.box 31 [.ar 2]),(2,.arr 3 1 (VV l))]
noncomputable def gI(q l:List Int):List (Nat×Obj'):=[(0,vt q),(1,.box 31 [.ar 3]),(3,.arr 3 1 (VV l))]
theorem RI(q:List Int)(n:Int):Zg Tryz.prog 0 [.d (int n)] (qY q) 2 (.d (.bool true)) 4 (gI q [n]) [3]:=by
 refine Vd (cells:=qp q) (ps:=#[7]) (aS := vm Tryz.f224) (bd:=vn Tryz.f224) rfl (by simp) (by simp[qp]) (by omega) (by simp[Sym.los,Sym.lo]) ?_
 simp+decide[qY,gI,vt,qp,vm,vn,jm,Tryz.f224,int]
theorem RJ(q l:List Int)(n:Int)(H:l.length<2^40):Zg Tryz.prog 0 [.d (int n)] (Yr q l) 3 (.d (.bool true)) 3 (Yr q (l++[n])) [2]:=by
 refine Vd (cells:=qp q) (ps:=#[7]) (aS := vm Tryz.f224) (bd:=vn Tryz.f224) rfl (by simp) (by simp[qp]) (by omega) (by simp[Sym.los,Sym.lo]) ?_
 simp+decide[Yr,vt,qp,vm,vn,jm,Tryz.f224,int,maxLen]
 exact⟨by omega,by omega⟩
theorem RL(l:List Int)(F:l≠[])(E:l.length<2^40):zJ Tryz.prog 188 [.yd 0,.d (.ptr [ints l])] (qY l) 2 (.d (.tup [])) 4 (gI l l) [3]:=by
 refine zJ.WI (xH mixed Tryz.func188 rfl c_188 (by simp[Sym.los,Sym.lo]) ?_)
 simp+decide[Tryz.f188,ints]
 refine yg mixed (λk:Nat=>{n:=16,next:=if k=0 then 2 else 4,base:=2,slots:=[(0,.yd 0),(5,.d (ints l)),(6,.d (int l.length)),(7,.d (int k))],own:=if k=0 then qY l else gI l (l.take k),moved:=if k=0 then [] else [3]})
  (λk=>k<=l.length) (λk=>l.length-k) 0 (Nat.zero_le _) (by simp+decide[int,ints,qY,vt]) ?_
 intro k K
 refine WC ?_
 by_cases H:k<l.length
 case neg=>
  have:k=l.length:=by omega
  subst this;have J:¬l.length=0:=λe=>F (List.eq_nil_of_length_eq_zero e)
  rw[List.take_length];simp+decide[int,ints,J,gI,vt]
 have G:(k:Int)<l.length:=by omega
 obtain⟨m,em⟩:∃ m,l[k]=m:=⟨_,rfl⟩
 have e1:l[k]?=some m:=by rw[List.getElem?_eq_getElem H,em]
 have hsn:l.take (k+1)=l.take k++[m]:=by rw[List.take_succ_eq_append_getElem H,em]
 by_cases J:k=0
 .subst J
  have L:=RI l m;simp+decide[int,ints,H,em,qY];refine uT.tO 0 [0,1] [.d (int m)] (qY l) (by simp[rho]) (by simp[int]) (by simp[Sym.los,Sym.lo]) (by simp[qY,vt];exact⟨rfl,rfl⟩) L ?_
  simp+decide[int,I64,gI,vt];refine⟨1,H,by omega,?_⟩
  simp+decide
  rw[<-List.map_take,hsn];simp
 .have L:=RJ l (l.take k) m (by rw[List.length_take];omega)
  rw[<-hsn] at L;simp+decide[int,ints,H,G,em,J,gI];refine uT.tO 0 [0,1,3] [.d (int m)] (Yr l (l.take k)) (by simp[rho]) (by simp[int]) (by simp[Sym.los,Sym.lo]) (by simp[Yr,vt,int];exact⟨rfl,rfl⟩) L ?_
  simp+decide[int,I64,Yr,vt];refine⟨⟨by omega,by omega⟩,k+1,H,by omega,?_⟩
  simp+decide
theorem RN(l:List Int)(H:l≠[])(G:l.length<2^40):zJ Tryz.prog 224 [.nils,.d (.fn 188 [.ptr [ints l]])] [] 0 (.ar 4) 5 [(4,.arr 3 1 (VV l))] [4]:=by
 refine Nc Tryz.func224 rfl c_224 (by simp[Sym.los,Sym.lo]) ?_
 refine Ze mixed 1 {n:=13,next:=2,slots:=[(1,.d (.fn 188 [.ptr [ints l]])),(2,.bp 0 0)],own:=[(0,.box 31 [.nils])]} rfl ?_ ?_
 .simp+decide[Tryz.f224,yq,ints]
 simp only[yO]
 refine WG (Ze mixed 1 {n:=13,next:=2,slots:=[(2,.bp 0 0),(6,.d (.fn 188 [.ptr [ints l]]))],own:=[(0,.box 31 [.nils])]} rfl ?_ ?_)
 .simp+decide[yq,ints]
 simp only[yO]
 refine WH (WE (k:=0) (ids:=[2,0]) (args0:=[.yd 0,.d (.ptr [ints l])]) (own0:=qY l) (by rfl) (by simp[rho]) (by simp[rho]) (by simp[Sym.los,Sym.lo]) ?_ (RL l H G) ?_)
 .simp+decide[qY,vt,qp,vm,vn,jm,Tryz.f224]
 .simp+decide[gI,vt]
theorem RO(l:List Int)(H:l≠[])(G:l.length<2^40):wO Tryz.prog 186 [.fn 188 [.ptr [ints l]]] 3 1 (VV l):=by
 refine Xn mixed Tryz.func186 rfl c_186 (by simp) ?_
 simp+decide[Tryz.f186]
 refine zc.mut [] [.nils,.d (.fn 188 [.ptr [ints l]])] [] (by rfl) (by simp) (by simp[Sym.los,Sym.lo]) (by simp) (RN l H G) ?_
 simp+decide
abbrev encI(n:Int):List Value:=[.int .i64 n]
abbrev kS(n:Int):List D:=[int n]
theorem Bb:RowEnc encI kS 1 where
 pos:=by decide
 len:=λ_=>rfl
 one:=λx v hv=>by simp[encI] at hv;subst hv;rfl
 rlen:=λ_=>rfl
 read:=λw E x=>by simp only[encI,int,zm,R];exact⟨_,_,rfl,rfl,rfl,rfl⟩
 uniq:=λw E x vs h=>by
  simp only[int,zm,R] at h;obtain⟨_,_,rfl,_,rfl,rfl⟩:=h;rfl
def qM(l:List Int):List Int:=l.mergeSort λx y=>decide (x<=y)
theorem Bc(l:List Int):flatK encI 1 l.toArray=(l.map (Value.int .i64)).toArray:=by
 have:=Bb.flatK l
 rw[<-Array.toList_inj,this]
 clear this
 induction l with
 |nil=>rfl
 |cons n r ih=>simpa[encI] using ih
theorem RP(l:List Int):putCells id 0 (l.map (Value.int .i64)).toArray=putCells (Value.int .i64) 0 l.toArray:=by
 funext c
 unfold putCells
 congr 1
 funext k x
 by_cases h:k<l.length
 .simp[h]
 .simp[h]
theorem Bd(l:List Int):(qM l).length=l.length:=List.length_mergeSort l
theorem Q7(l:List Int):(qM l).Perm l:=List.mergeSort_perm l _
theorem RQ(l:List Int)(F:l≠[])(J:l.length<4611686018427387904):
  zJ Tryz.prog 187 [.ar 0] [(0,.arr 3 1 (l.map kS))] 1 (.d (.tup [])) 1 [(0,.arr 3 1 ((qM l).map kS))] []:=by
 refine Gf Bb c_187 F (Bd l) ?_
 intro w E β vs H G g cap L M O
 simp only[zl] at H
 subst H
 have Q:Holds (Value.int .i64) w g 0 l.toArray:=by
  unfold HoldsK at O;rw[Bc] at O;intro j hj;have:=O j (by simpa using hj)
  have K:j<l.length:=by simpa using hj
  simpa[K] using this
 have:=Any.slices_Sort_int Tryz.sortInt g 0 cap l w Q L J
 change Calls Tryz.prog 187 _ _ _ at this
 refine this.mono λe w' T=>?_
 obtain⟨V,n,os,X⟩:=T
 refine⟨V,n,os,?_⟩
 rw[X]
 unfold sortWorldK putRowK putRow
 rw[Bc,RP]
 rfl
theorem RR(l:List Int)(hs:l.Pairwise λa b=>a<b)(L:l.length<2^40):
  zJ Tryz.prog 128 [.ar 0] [(0,.arr 3 1 (l.map kS))] 1 (.ar 0) 1 [(0,.arr 3 1 (l.map kS))] []:=by
 refine xH mixed Tryz.func128 rfl c_128 (by simp[Sym.los,Sym.lo]) ?_
 by_cases M:l.length<2
 .have H:(l.length:Int)<2:=by omega
  simp+decide[Tryz.f128,H]
 have H:¬(l.length:Int)<2:=by omega
 simp+decide[Tryz.f128,H]
 refine zr mixed (λk:Nat=>{n:=61,next:=1,slots:=[(0,.ar 0),(3,.d (int k))],own:=[(0,.arr 3 1 (l.map kS))],base:=1})
  (λk=>1<=k/\k<=l.length) (λk=>l.length-k) 1 (by omega) (by simp+decide[int]) ?_
 rintro k ⟨J,O⟩
 by_cases G:k<l.length
 .have F:(k:Int)<l.length:=by omega
  obtain⟨j,rfl⟩:∃ j,k=j+1:=⟨k-1,by omega⟩
  have hj:j<l.length:=by omega
  have E:(j:Int)<l.length:=by omega
  have e1:l[j+1]?=some l[j+1]:=List.getElem?_eq_getElem G
  have e0:l[j]?=some l[j]:=List.getElem?_eq_getElem hj
  have K:¬l[j+1]=l[j]:=by
   have:=List.pairwise_iff_getElem.1 hs j (j+1) hj G (by omega)
   omega
  have j1:((j:Int)+1-1)=j:=by omega
  have jn:((j:Int)+1).toNat=j+1:=by omega
  have j0:(0:Int)<=(j:Int)+1:=by omega
  simp+decide[int,G,hj,E,K,j1,jn,j0,I64];exact λ_=>⟨by omega,by omega,⟨by omega,by omega⟩,j+2,⟨by omega,by omega⟩,by omega,by omega⟩
 .have:k=l.length:=by omega
  subst this;simp+decide[int]
theorem Be(l:List Int):zi Tryz.prog 130 [ints l] (kR l):=by
 refine zp mixed Tryz.func130 rfl c_130 ?_
 simp+decide[Tryz.f130,ints]
theorem Kw(l:List Int)(H:l≠[])(G:l.length<2^40):wO Tryz.prog 129 [.fn 188 [.ptr [ints l]]] 3 1 ((qM l).map kS):=by
 refine Xn mixed Tryz.func129 rfl c_129 (by simp) ?_
 simp+decide[Tryz.f129]
 refine zc.fresh (by rfl) (RO l H G) (by simp) ?_
 simp+decide
 refine zc.mut [1] [.ar 0] [(0,.arr 3 1 (l.map kS))] (by rfl) (by simp) (by simp[Sym.los,Sym.lo]) (by simp) (RQ l H (by omega)) ?_
 simp+decide
theorem RS(l:List Int)(H:l≠[])(G:l.length<2^40)(F:l.Nodup):wK Tryz.prog 78 [ints l] (ints (qM l)):=by
 have hs:(qM l).Pairwise λa b=>a<b:=by
  have E:(qM l).Pairwise λa b=>decide (a<=b)=true:=List.pairwise_mergeSort (λa b c E K=>by simp at *;omega) (λa b=>by simp;omega) l
  have K:(qM l).Nodup:=(Q7 l).nodup_iff.2 F
  exact(List.pairwise_and_iff.2 ⟨E,K⟩).imp λ{a b} h=>by have:=h.1;have:=h.2;simp at *;omega
 have J:wO Tryz.prog 78 [ints l] 3 1 ((qM l).map kS):=by
  refine Xn mixed Tryz.func78 rfl c_78 (by simp) ?_
  simp+decide[Tryz.f78];refine zc.pure (by rfl) (Be l) (by simp) ?_
  simp+decide
  refine zc.fresh (by rfl) (Kw l H G) (by simp[XX]) ?_
  simp+decide
  refine zc.mut [1] [.ar 0] [(0,.arr 3 1 ((qM l).map kS))] (by rfl) (by simp) (by simp[Sym.los,Sym.lo]) (by simp) (RR (qM l) hs (by rw[Bd];omega)) ?_
  simp+decide
 exact WB J (XX _)
theorem RU{P:Program}{f:Nat}{ds:List D}(T sz:Nat){nx:Nat}{own':List (Nat×Obj')}{mv:List Nat}(h:zJ P f (ds.map .d) [] 0 .nils nx own' mv):wO P f ds T sz []:=by
 refine⟨h.1,by simp,λw E vs F K=>?_⟩
 have J:Mods E (.of w) (xk [] 0 0 []) (λ_=>.pointer none) vE w:=
  ⟨⟨λb L hmay=>hmay.elim (λh=>by have:w.heap.size<=b:=h;have:=F.1 b L;omega) (λh=>h),F.2.over (Over.less λb h=>h.elim id False.elim)⟩,⟨Nat.le_refl _,λ_ _ _=>rfl⟩,λ_=>rfl,rfl,rfl,Kept.refl _,by simp[xk],by simp[xk],by simp[xk],by intro t s M;simp[xk,zh] at M⟩
 have H:Over w E w (Ex E (λ_=>Value.pointer none) []):=Over.less λb L=>L.elim id λ⟨_,_,O,_⟩=>by cases O
 refine(h.2 E (.of w) _ w vs rfl J (zl.uK (zK.over H _ _ K))).mono λe w' Q=>?_
 obtain⟨β',v,rfl,G,_,hs⟩:=Q
 simp only[Sm] at hs
 exact⟨v,[],rfl,G.below.below,⟨by simp,.inl ⟨hs,rfl⟩⟩,λb L=>by rw[hs] at L;simp[blk] at L,by simp[zm]⟩
theorem RV:zJ Tryz.prog 188 [.yd 0,.d (.ptr [ints []])] (qY []) 2 (.d (.tup [])) 2 (qY []) []:=by
 refine zJ.WI (xH mixed Tryz.func188 rfl c_188 (by simp[Sym.los,Sym.lo]) ?_)
 simp+decide[Tryz.f188,ints]
 refine yg mixed (λ_:Unit=>{n:=16,next:=2,base:=2,slots:=[(6,.d (int 0)),(7,.d (int 0))],own:=qY []}) (λ_=>True) (λ_=>0) () trivial (by simp+decide[int,qY,vt]) ?_
 intro _ _
 refine WC ?_
 simp+decide[int,qY,vt]
theorem RX:zJ Tryz.prog 224 [.nils,.d (kR [])] [] 0 .nils 3 [] []:=by
 refine Nc Tryz.func224 rfl c_224 (by simp[Sym.los,Sym.lo]) ?_
 refine Ze mixed 1 {n:=13,next:=2,slots:=[(1,.d (kR [])),(2,.bp 0 0)],own:=[(0,.box 31 [.nils])]} rfl ?_ ?_
 .simp+decide[Tryz.f224,yq]
 simp only[yO]
 refine WG (Ze mixed 1 {n:=13,next:=2,slots:=[(2,.bp 0 0),(6,.d (kR []))],own:=[(0,.box 31 [.nils])]} rfl ?_ ?_)
 .simp+decide[yq]
 simp only[yO]
 refine WH (WE (k:=0) (ids:=[2,0]) (args0:=[.yd 0,.d (.ptr [ints []])]) (own0:=qY []) (by rfl) (by simp[rho]) (by simp[rho]) (by simp[Sym.los,Sym.lo]) ?_ RV ?_)
 .simp+decide[qY,vt,qp,vm,vn,jm,Tryz.f224]
 .simp+decide[qY,vt]
theorem RY:zJ Tryz.prog 248 [.nils,.d (int 0),.d (int 0)] [] 0 (.tup []) 0 [] []:=by
 refine xH mixed Tryz.func248 rfl c_248 (by simp[Sym.los,Sym.lo]) ?_
 simp+decide[Tryz.f248,int]
 refine⟨by unfold I64;omega,zr mixed (λ_:Unit=>{n:=49,next:=0,slots:=[(2,.d (int 0)),(6,.d (int 1))],own:=[]})
  (λ_=>True) (λ_=>0) () trivial (by simp+decide[int]) ?_⟩
 intro _ _
 simp+decide[int]
theorem RZ:zJ Tryz.prog 225 [.nils,.d (int 0),.d (int 0),.d (int 0)] [] 0 (.tup []) 0 [] []:=by
 refine xH mixed Tryz.func225 rfl c_225 (by simp[Sym.los,Sym.lo]) ?_
 simp+decide[Tryz.f225,int]
 refine zr mixed (λ_:Unit=>{n:=134,next:=0,slots:=[(0,.nils),(1,.d (int 0)),(2,.d (int 0))],own:=[]})
  (λ_=>True) (λ_=>0) () trivial (by simp+decide[int]) ?_
 intro _ _
 simp+decide[int]
 refine⟨by unfold I64;omega,?_⟩
 refine zc.mut [] [.nils,.d (int 0),.d (int 0)] [] (by rfl) (by simp[int]) (by simp) (by simp) RY ?_
 simp+decide
theorem S0:zJ Tryz.prog 187 [.nils] [] 0 (.tup []) 0 [] []:=by
 refine xH mixed Tryz.func187 rfl c_187 (by simp[Sym.los,Sym.lo]) ?_
 simp+decide[Tryz.f187,jc,show IntKind.wrap .u64 0=0 from rfl]
 refine zc.pure (by rfl) Pv (by simp[int]) ?_
 simp+decide[int]
 refine zc.mut [] [.nils,.d (int 0),.d (int 0),.d (int 0)] [] (by rfl) (by simp[int]) (by simp) (by simp) RZ ?_
 simp+decide
theorem S4:zJ Tryz.prog 128 [.nils] [] 0 .nils 0 [] []:=by
 refine xH mixed Tryz.func128 rfl c_128 (by simp[Sym.los,Sym.lo]) ?_
 simp+decide[Tryz.f128]
theorem S5:zJ Tryz.prog 186 [.d (kR [])] [] 0 .nils 3 [] []:=by
 refine xH mixed Tryz.func186 rfl c_186 (by simp[Sym.los,Sym.lo]) ?_
 simp+decide[Tryz.f186]
 refine zc.mut [] [.nils,.d (kR [])] [] (by rfl) (by simp) (by simp[Sym.los,Sym.lo]) (by simp) RX ?_
 simp+decide
theorem S6:zJ Tryz.prog 129 [.d (kR [])] [] 0 .nils 3 [] []:=by
 refine xH mixed Tryz.func129 rfl c_129 (by simp[Sym.los,Sym.lo]) ?_
 simp+decide[Tryz.f129]
 refine zc.mut [] [.d (kR [])] [] (by rfl) (by simp) (by simp[Sym.los,Sym.lo]) (by simp) S5 ?_
 simp+decide
 refine zc.mut [] [.nils] [] (by rfl) (by simp) (by simp[Sym.los,Sym.lo]) (by simp) S0 ?_
 simp+decide
theorem S7:wK Tryz.prog 78 [ints []] (ints []):=by
 have h:zJ Tryz.prog 78 [.d (ints [])] [] 0 .nils 3 [] []:=by
  refine xH mixed Tryz.func78 rfl c_78 (by simp[Sym.los,Sym.lo]) ?_
  simp+decide[Tryz.f78];refine zc.pure (by rfl) (Be []) (by simp) ?_
  simp+decide
  refine zc.mut [] [.d (kR [])] [] (by rfl) (by simp) (by simp) (by simp) S6 ?_
  simp+decide
  refine zc.mut [] [.nils] [] (by rfl) (by simp) (by simp[Sym.los,Sym.lo]) (by simp) S4 ?_
  simp+decide
 exact WB (RU (ds:=[.sl []]) 3 1 h) rfl
theorem S8:qM []=[]:=by simp[qM]
theorem S9(l:List Int)(H:l.length<2^40)(G:l.Nodup):wK Tryz.prog 78 [ints l] (ints (qM l)):=by
 by_cases h:l=[]
 .subst h;rw[S8];exact S7
 .exact RS l h H G
end Go.V.Doc
namespace Go.V.Doc
open Go Go.Proofs
section
variable {P:Program} {st:St} {Q:DE->St->Prop}
def Ui{α:Type}(S:α->St)(inv:α->Prop)(Q:DE->St->Prop):DE->St->Prop
 |.normal,st=>∃ x,inv x/\Weak st (S x)
 |e,st=>Q e st
theorem Bf{α:Type}{S:α->St}{inv:α->Prop}:Ui S inv Q .normal st = ∃ x,inv x/\Weak st (S x):=rfl
theorem Bg{α:Type}{S:α->St}{inv:α->Prop}(i:Nat):Ui S inv Q (.exit i) st=Q (.exit i) st:=rfl
theorem Bh{α:Type}{S:α->St}{inv:α->Prop}:Ui S inv Q .ret st=Q .ret st:=rfl
end
attribute [local simp] Bf Bg Bh
end Go.V.Doc
namespace Go.V.Doc
open Go Go.Proofs
attribute [local simp] Bf Bg Bh
def VW(d:Dc)(m:Int):List Int:=m::qM (VU d.notes d.tiers.length m)
def Uj(d:Dc)(w:Int):List Int:=(yv d w 3).flatMap (VW d)
def VX(d:Dc)(w:Int)(n:Nt):Bool:=decide (n.id∈Uj d w)
def xg(d:Dc)(w:Int):List Nt:=d.notes.filter λn=>!VX d w n
def ZF(d:Dc)(w:Int):Dc:={d with notes:=xg d w}
theorem Sb{d:Dc}(h:Rgt d){w r m:Int}(H:m∈yv d w r):∃ n∈d.notes,n.id=m/\n.tier=zR d.tiers r/\n.par=w:=by
 unfold yv zO yz at H
 obtain⟨n,G,rfl⟩:=List.mem_map.1 H
 have G:=List.mem_filter.1 ((gB _).mem_iff.1 G)
 have F:=G.2
 unfold yX at F
 simp only[Bool.and_eq_true,decide_eq_true_eq] at F
 exact⟨n,G.1,rfl,F.1.1.1,F.1.1.2⟩
abbrev Uk(l:List Int):List (List D):=l.map λn=>[int n]
abbrev zeroCells:List Sym:=[.d (int 0),.d (.str ⟨#[]⟩),.d (int 0),.d (int 0),.nils,.nils,.nils]
def Ul(d:Dc)(w:Int)(ks:List Int)(x:Nat×List Int):St:=
 {n:=67,next:=4,slots:=[(1,.d (int w)),(2,.bp 0 0),(4,.bp 1 0),(8,.ar 3),(32,.d (ints ks)),(33,.d (int ks.length)),(34,.d (int x.1))],own:=[(0,.box 53 (yy d)),(1,.box 53 zeroCells),(3,.arr 3 1 (Uk x.2))],moved:=[3]}
theorem Sc{d:Dc}(h:Rgt d){w r:Int}{c:Nt}(H:c∈d.notes)(G:c.tier=zR d.tiers r)(F:c.par=w):c.id∈yv d w r:=by
 unfold yv zO yz
 refine List.mem_map.2 ⟨c,(gB _).mem_iff.2 (List.mem_filter.2 ⟨H,?_⟩),rfl⟩
 have t0:=(h.nok c H).t0
 have t1:=(h.nok c H).t1
 rw[G] at t0 t1
 simp[yX,G,F,t0,t1]
theorem Se{d:Dc}(h:Rgt d){w:Int}{n:Nt}(E:n∈d.notes):n.id∈Uj d w↔∃ c∈vr d n,c.tier=zR d.tiers 3/\c.par=w:=by
 unfold Uj
 rw[List.mem_flatMap]
 constructor
 .rintro⟨m,K,J⟩
  obtain⟨c,L,rfl,q1,q2⟩:=Sb h K;have t0:=(h.nok c L).t0;refine⟨c,?_,q1,q2⟩
  unfold VW at J;rcases List.mem_cons.1 J with e | J
  .obtain rfl:=U0 h E L e
   exact Ud h E
  .have J:=(Q7 _).mem_iff.1 J
   obtain⟨m',G,e,F⟩:=(Ba h d.tiers.length c L (by omega) n.id).1 J
   obtain rfl:=U0 h G E e;rw[(qo h G).1];exact List.mem_cons_of_mem _ F
 .rintro⟨c,L,q1,q2⟩
  have H:=Uh h E L;have t0:=(h.nok c H).t0;refine⟨c.id,Sc h H q1 q2,?_⟩
  unfold VW;rw[(qo h E).1] at L;rcases List.mem_cons.1 L with rfl | L
  .exact List.mem_cons_self
  .exact List.mem_cons_of_mem _ ((Q7 _).mem_iff.2 ((Ba h d.tiers.length c H (by omega) n.id).2 ⟨n,E,rfl,L⟩))
def uu:Dc:=⟨0,.empty,0,0,[],[],[]⟩
def VY(d:Dc)(w:Int):Dc×Int:=if xN d=false then (uu,14) else if qf d w=false then (uu,9) else (ZF d w,0)
end Go.V.Doc
namespace Go.V.Doc
open Go Go.Proofs Go.Sort Go.RowKit
section
variable [Dr]
def ZG(a b:Nt):Int:=xq a.id b.id
theorem Sf(a b:Nt):zi Tryz.prog 66 [.agg a.row,.agg b.row] (int (ZG a b)):=by
 refine zp mixed Tryz.func66 rfl c_66 ?_
 simp+decide[Tryz.f66,Nt.row,int]
 refine zc.pure (by rfl) (uZ a.id b.id) (by simp) ?_
 simp+decide[ZG,int]
theorem Sg{blk off size:Nat}{w:World}{E:Nat->Prop}(H:Seen w E)(G:E blk):Go.Proofs.CmpLays Tryz.prog 66 #[] Nt.enc 7 ZG blk off size w:=by
 let d:Dr:=⟨true⟩
 exact @I1 d _ _ _ _ _ _ _ rfl _ _ gj (λx y=>@Sf d x y) _ _ _ _ _ H G
end
def uv:Nt->Nt->Bool:=ltOf ZG
theorem Si:∀ args w,(callFunc 66 args).run Tryz.prog w = .ok (.enter 66 args) w:=enters_of Tryz.func66 (by kernel_rfl) rfl
end Go.V.Doc

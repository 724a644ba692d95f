/- Contracts and plain laws of this seat: part MB. It needs no conditions. -/
import Derived.Test.YtknekjalbninmaaGreatMA
import Derived.Test.YtknekjalbninmaaGreatW1
import Derived.Test.YtknekjalbninmaaGreatSw
import Derived.WalkKit
import Derived.BigCall
import Derived.KernelRfl
import Derived.Shelf.Strings.Builder1
import Derived.Test.YtknekjalbninmaaGreatS3
import Derived.Test.YtknekjalbninmaaGreatW2
import Derived.Recover
import Derived.Test.YtknekjalbninmaaGreatW3
import Derived.Test.YtknekjalbninmaaGreatS1
import Derived.Test.YtknekjalbninmaaGreatSn
set_option maxHeartbeats 32000000
set_option linter.unusedVariables false
set_option linter.unusedSimpArgs false
set_option linter.unusedSectionVars false
set_option maxRecDepth 100000
namespace Go.V.Doc
open Go Go.Proofs Go.Sort Go.RowKit
theorem zvy(l:List Nt):PermIn 0 l.length l.toArray (zgz l).toArray/\SortedIn ltN 0 l.length (zgz l).toArray:=by
 have:=insertionSort_holds swoN l.toArray 0 l.length (Nat.zero_le _) (by simp)
 rw[z7k] at this
 exact this
theorem zg1(l:List Nt):(zgz l).length=l.length:=by
 have:=(zvy l).1.1
 simpa using this
theorem zo5(l:List Nt):(zgz l).Perm l:=by
 obtain⟨H,_,G⟩:=(zvy l).1
 have F:=zg1 l
 have e1:(zgz l).toArray.extract 0 l.length=(zgz l).toArray:=by rw[show l.length=(zgz l).toArray.size by simp[F]];simp
 have e2:l.toArray.extract 0 l.length=l.toArray:=by rw[show l.length=l.toArray.size by simp];simp
 rw[e1,e2] at G
 simpa using G
theorem ylq(l:List Nt)(H:l.length<2^62):
  zbl Tryz.prog 172 [.ar 0,.d (int 0),.d (int l.length),.fn 113 []] [(0,.arr 72 7 (l.map Nt.row))] 1 (.d (.tup [])) 1 [(0,.arr 72 7 ((zgz l).map Nt.row))] []:=by
 cases l with
 |nil=>
  have:zgz []=[]:=List.eq_nil_of_length_eq_zero (zg1 [])
  rw[this];exact(zbl.unit ylj)
 |cons a r=>exact yc1 72 (a::r) (by simp) (by omega) (zg1 _)
theorem yaa(l:List Nt)(F:l.length<20):
  zbl Tryz.prog 165 [.ar 0,.d (int l.length),.fn 113 []] [(0,.arr 72 7 (l.map Nt.row))] 1 (.d (.tup [])) 1 [(0,.arr 72 7 ((zgz l).map Nt.row))] []:=by
 refine zbl.unit (za6 mixed Tryz.func165 rfl c_165 (by simp[Sym.los,Sym.lo]) ?_)
 have G:¬(20:Int)<=l.length:=by omega
 have H:¬(20:Int)<l.length:=by omega
 simp+decide[Tryz.f165,int]
 refine zae mixed (λ_:Unit=>{n:=63,next:=1,slots:=[(0,.ar 0),(1,.d (int l.length)),(2,.fn 113 []),(6,.d (int 20)),(7,.d (int 0)),(8,.d (int 20))],own:=[(0,.arr 72 7 (l.map Nt.row))],base:=1})
  (λ_=>True) (λ_=>0) () trivial (by simp+decide[int]) ?_
 intro _ _
 simp+decide[int,G]
 refine zai.mut [0] [.ar 0,.d (int 0),.d (int l.length),.fn 113 []] [(0,.arr 72 7 (l.map Nt.row))] (by rfl) (by simp[int]) (by simp) (by simp) (ylq l (by omega)) ?_
 simp+decide[int]
 refine zae mixed (λ_:Unit=>{n:=63,next:=1,slots:=[(1,.d (int l.length)),(6,.d (int 20))],own:=[(0,.arr 72 7 ((zgz l).map Nt.row))],base:=1})
  (λ_=>True) (λ_=>0) () trivial (by simp+decide[int]) ?_
 intro _ _
 simp+decide[int,H]
theorem ydk(l:List Nt)(H:l.length<20):
  zbl Tryz.prog 112 [.ar 0,.fn 113 []] [(0,.arr 72 7 (l.map Nt.row))] 1 (.d (.tup [])) 1 [(0,.arr 72 7 ((zgz l).map Nt.row))] []:=by
 refine zbl.unit (za6 mixed Tryz.func112 rfl c_112 (by simp[Sym.los,Sym.lo]) ?_)
 simp+decide[Tryz.f112,int]
 refine zai.mut [0] [.ar 0,.d (int l.length),.fn 113 []] [(0,.arr 72 7 (l.map Nt.row))] (by rfl) (by simp[int]) (by simp) (by simp) (yaa l H) ?_
 simp+decide[int]
def kidB(d:Dc)(id t:Int)(n:Nt):Bool:=decide (n.tier=t)&&decide (n.par=id)&&decide (0<=t)&&decide (t<d.tiers.length)
def zz8(d:Dc)(id t:Int):List Nt:=zgz (d.notes.filter (kidB d id t))
def zd5(l:List Nt):List Int:=l.map (·.id)
theorem ydl(d:Dc)(id t:Int)(L:d.notes.length<2^40)(K:(d.notes.filter (kidB d id t)).length<20):
  zua Tryz.prog 53 [docD d,int id,int t] 3 1 ((zd5 (zz8 d id t)).map λn=>[int n]):=by
 refine zi3 mixed Tryz.func53 rfl c_53 (by simp) ?_
 simp+decide[Tryz.f53,docD,Dc.row,int,ints,zad,zak]
 refine zae mixed (λk:Nat=>{n:=61,next:=3,slots:=[(1,.d (int id)),(2,.d (int t)),(3,.bp 0 0),(7,.ar 2),(14,.d (zak d.notes)),(15,.d (.int .i64 d.notes.length)),(16,.d (.int .i64 k))],own:=[(0,.box 53 (zbd d)),(2,.arr 72 7 (((d.notes.take k).filter (kidB d id t)).map Nt.row))],moved:=[2]})
  (λk=>k<=d.notes.length) (λk=>d.notes.length-k) 0 (by simp) (by simp+decide[int,ints,zad,zak]) ?_
 intro k M
 by_cases H:k<d.notes.length
 .have G:(k:Int)<d.notes.length:=by omega
  have e1:d.notes[k]?=some d.notes[k]:=List.getElem?_eq_getElem H
  have hsn:(d.notes.take (k+1)).filter (kidB d id t)=(d.notes.take k).filter (kidB d id t)++(if kidB d id t d.notes[k]=true then [d.notes[k]] else []):=by
   rw[take_snoc' H,List.filter_append];by_cases h:kidB d id t d.notes[k]=true <;> simp[h]
  have F:((d.notes.take k).filter (kidB d id t)).length<=k:=Nat.le_trans (List.length_filter_le _ _) (by rw[List.length_take];omega)
  have no:kidB d id t d.notes[k]=false->(d.notes.take (k+1)).filter (kidB d id t)=(d.notes.take k).filter (kidB d id t):=by
   intro h;rw[hsn,if_neg (by simp[h]),List.append_nil]
  by_cases O:d.notes[k].tier=t
  case neg=>
   have:=no (by simp[kidB,O])
   simp+decide[zak,Nt.row,int,H,G,e1,I64,O];exact⟨⟨by omega,by omega⟩,k+1,H,by omega,by omega,by rw[this]⟩
  by_cases h2:d.notes[k].par=id
  case neg=>
   have:=no (by simp[kidB,h2])
   simp+decide[zak,Nt.row,int,H,G,e1,I64,O,h2];exact⟨⟨by omega,by omega⟩,k+1,H,by omega,by omega,by rw[this]⟩
  by_cases Q:0<=t
  case neg=>
   have:=no (by simp[kidB,Q])
   simp+decide[zak,Nt.row,int,H,G,e1,I64,O,h2,Q];exact⟨⟨by omega,by omega⟩,k+1,H,by omega,by omega,by rw[this]⟩
  by_cases T:t<d.tiers.length
  case neg=>
   have:=no (by simp[kidB,T])
   simp+decide[zak,zad,Nt.row,int,H,G,e1,I64,O,h2,Q,T];exact⟨⟨by omega,by omega⟩,k+1,H,by omega,by omega,by rw[this]⟩
  have V:kidB d id t d.notes[k]=true:=by simp[kidB,O,h2,Q,T]
  rw[if_pos V] at hsn;simp+decide[zak,zad,Nt.row,int,H,G,e1,I64,O,h2,Q,T];exact⟨by omega,by unfold maxLen;omega,⟨by omega,by omega⟩,k+1,H,by omega,by omega,by rw[hsn];simp[Nt.row,int,O,h2]⟩
 .have:k=d.notes.length:=by omega
  subst this;rw[List.take_length];have E:(d.notes.filter (kidB d id t)).length<=d.notes.length:=List.length_filter_le _ _
  simp+decide[int];refine zai.mut [2] [.ar 0,.fn 113 []] [(0,.arr 72 7 ((d.notes.filter (kidB d id t)).map Nt.row))] (by rfl) (by simp[int]) (by simp) (by simp) (ydk _ (by omega)) ?_
  have J:=zg1 (d.notes.filter (kidB d id t));unfold zz8;rw[<-J] at E;generalize zgz (d.notes.filter (kidB d id t))=s at E ⊢;simp+decide[int];refine zae mixed (λk:Nat=>{n:=61,next:=4,slots:=[(10,.ar 3),(48,.ar 2),(49,.d (.int .i64 s.length)),(50,.d (.int .i64 k))],own:=[(2,.arr 72 7 (s.map Nt.row)),(3,.arr 3 1 ((zd5 (s.take k)).map λn=>[int n]))],moved:=[3,2]})
   (λk=>k<=s.length) (λk=>s.length-k) 0 (by simp) (by simp+decide[int,zd5]) ?_
  intro k M;by_cases H:k<s.length
  .have G:(k:Int)<s.length:=by omega
   have e1:s[k]?=some s[k]:=List.getElem?_eq_getElem H
   have hsn:zd5 (s.take (k+1))=zd5 (s.take k)++[s[k].id]:=by unfold zd5;rw[take_snoc' H,List.map_append];rfl
   have F:(zd5 (s.take k)).length<=k:=by unfold zd5;rw[List.length_map,List.length_take];omega
   simp+decide[Nt.row,int,H,G,e1,I64];exact⟨by omega,by unfold maxLen;omega,⟨by omega,by omega⟩,k+1,H,by omega,by omega,by rw[hsn];simp[int]⟩
  .have:k=s.length:=by omega
   subst this;rw[List.take_length];simp+decide[int,ints]
theorem zg2:∀ l:List Int,D.scalars ((l.map λn=>[int n]).flatten)=true
 | []=>rfl
 |n::r=>by simp only[List.map_cons,List.flatten_cons,List.cons_append,List.nil_append,D.scalars,zg2 r];rfl
theorem ydm(d:Dc)(id t:Int)(G:d.notes.length<2^40)(H:(d.notes.filter (kidB d id t)).length<20):zvf Tryz.prog 53 [docD d,int id,int t] (ints (zd5 (zz8 d id t))):=
 zhn (ydl d id t G H) (zg2 _)
end Go.V.Doc
namespace Go.V.Doc
open Go Go.Proofs
section
variable {d:Dc}
theorem ydn(d:Dc){t:Nat}(h:t<d.tiers.length):zci d (t:Int)=d.tiers[t]:=by unfold zci;rw[Int.toNat_natCast,List.getElem?_eq_getElem h];rfl
theorem Rgt.up(h:Rgt d){t:Nat}(H:t<d.tiers.length)(G:(zci d t).kind≠0):0<=(zci d t).par/\(zci d t).par.toNat<t:=by
 rw[ydn d H] at G ⊢
 have:=zsn (h.good.tiers t H) G
 rw[List.length_take] at this
 omega
def inT(d:Dc)(t:Nat)(n:Nt):Prop:=n∈d.notes/\n.tier=t
def upN(d:Dc)(n:Nt):Nt:=(getN d.notes n.par).1
theorem Rgt.parent(h:Rgt d){t:Nat}{n:Nt}(H:inT d t n)(G:t<d.tiers.length)(F:(zci d t).kind≠0):inT d (zci d t).par.toNat (upN d n)/\(upN d n).id=n.par:=by
 have E:=(zjw (zso h.good H.1).place).2.1
 rw[H.2] at E
 obtain⟨K,h2⟩:=E F
 have J:=zf3 K
 have L:=h.up G F
 exact⟨⟨J.1,by rw[upN,h2];omega⟩,J.2⟩
theorem Rgt.root(h:Rgt d){t:Nat}{n:Nt}(H:inT d t n)(G:(zci d t).kind=0):n.par=0:=by
 have F:=(zjw (zso h.good H.1).place).1
 rw[H.2] at F
 exact F G
end
end Go.V.Doc
namespace Go.V.Doc
open Go Go.Proofs
theorem zvz{α:Type}{l:List α}{k:Nat}(h:k<l.length):l.take (k+1)=l.take k++[l[k]]:=by
 rw[List.take_add_one,List.getElem?_eq_getElem h];rfl
def idxY{α:Type}(p:α->Bool)(l:List α):Int:=match l.findIdx? p with
 |some k=>k
 |none=>-1
theorem z7u{α:Type}{p:α->Bool}{l:List α}{k:Nat}(h:k<l.length)(H:∀ e∈l.take k,p e=false)(G:p l[k]=true):l.findIdx? p=some k:=by
 rw[List.findIdx?_eq_some_iff_getElem]
 refine⟨h,G,λj hj=>?_⟩
 have:=H l[j] (by rw[List.mem_take_iff_getElem];exact⟨j,by omega,rfl⟩)
 simpa using this
theorem zz9{α:Type}{p:α->Bool}{l:List α}(H:∀ e∈l,p e=false):l.findIdx? p=none:=by
 rw[List.findIdx?_eq_none_iff];exact H
def zcr(l:List Tir)(role:Int):Int:=if role=0 then -1 else idxY (λt=>decide (t.role=role)) l
theorem zxq(l:List Tir)(role:Int)(G:l.length<2^62):zan Tryz.prog 111 [zad l,int role] (int (zcr l role)):=by
 refine zab mixed Tryz.func111 rfl c_111 ?_
 simp+decide[Tryz.f111,zad,int]
 refine zae mixed (λk:Nat=>{n:=24,next:=0,slots:=[(1,.d (int role)),(7,.d (zad l)),(8,.d (.int .i64 l.length)),(9,.d (.int .i64 k))],own:=[]})
  (λk=>k<=l.length/\(role≠0->∀ t∈l.take k,decide (t.role=role)=false)) (λk=>l.length-k) 0 (by simp) (by simp+decide[zad,int]) ?_
 intro k ⟨F,E⟩
 by_cases H:k<l.length
 .have e1:l[k]?=some l[k]:=List.getElem?_eq_getElem H
  by_cases K:role=0
  .subst K
   simp+decide[zad,Tir.row,int,e1,H,I64];exact⟨by omega,k+1,H,by omega,by omega⟩
  .by_cases J:l[k].role=role
   .have L:zcr l role=k:=by
     unfold zcr idxY;rw[if_neg K,z7u H (E K) (by simp[J])]
    simp+decide[zad,Tir.row,int,e1,H,I64,K,J,L]
   .simp+decide[zad,Tir.row,int,e1,H,I64,K,J]
    refine⟨by omega,k+1,⟨H,λt M=>?_⟩,by omega,by omega⟩
    rw[zvz H] at M;rcases List.mem_append.1 M with h | h
    .simpa using E K t h
    .rw[List.mem_singleton] at h;rw[h];exact J
 .have:k=l.length:=by omega
  subst this;rw[List.take_length] at E;have L:zcr l role = -1:=by
   unfold zcr idxY;by_cases K:role=0
   .rw[if_pos K]
   .rw[if_neg K,zz9 (E K)]
  simp+decide[zad,int,L]
theorem yab(l:List Tir)(role:Int)(G:l.length<2^62):zan Tryz.prog 114 [zad l,int role] (int (zcr l role)):=by
 refine zab mixed Tryz.func114 rfl c_114 ?_
 simp+decide[Tryz.f114,zad,int]
 refine zae mixed (λk:Nat=>{n:=24,next:=0,slots:=[(0,.d (zad l)),(1,.d (int role)),(5,.d (.int .i64 k))],own:=[]})
  (λk=>k<=l.length/\(role≠0->∀ t∈l.take k,decide (t.role=role)=false)) (λk=>l.length-k) 0 (by simp) (by simp+decide[zad,int]) ?_
 intro k ⟨F,E⟩
 by_cases H:k<l.length
 .have e1:l[k]?=some l[k]:=List.getElem?_eq_getElem H
  by_cases K:role=0
  .subst K
   simp+decide[zad,Tir.row,int,e1,H,I64];exact⟨by omega,k+1,H,by omega,by omega⟩
  .by_cases J:l[k].role=role
   .have L:zcr l role=k:=by
     unfold zcr idxY;rw[if_neg K,z7u H (E K) (by simp[J])]
    simp+decide[zad,Tir.row,int,e1,H,I64,K,J,L]
   .simp+decide[zad,Tir.row,int,e1,H,I64,K,J]
    refine⟨by omega,k+1,⟨H,λt M=>?_⟩,by omega,by omega⟩
    rw[zvz H] at M;rcases List.mem_append.1 M with h | h
    .simpa using E K t h
    .rw[List.mem_singleton] at h;rw[h];exact J
 .have:k=l.length:=by omega
  subst this;rw[List.take_length] at E;have L:zcr l role = -1:=by
   unfold zcr idxY;by_cases K:role=0
   .rw[if_pos K]
   .rw[if_neg K,zz9 (E K)]
  simp+decide[zad,int,L]
theorem zdj(d:Dc)(r:Int)(H:d.tiers.length<2^62):zan Tryz.prog 57 [docD d,int r] (int (zcr d.tiers r)):=by
 refine zab mixed Tryz.func57 rfl c_57 ?_
 have G:=yab d.tiers r H
 simp+decide[Tryz.f57,docD,Dc.row,int]
 refine zai.pure (by rfl) G (by simp[D.scalar,zad]) ?_
 simp+decide[int]
theorem yac{P:Program}(F:P.follows .mixedOrders=true){id:Nat}{ops:List Oper}{st:St}{Q:DE->St->Prop}(H:ops≠[])(K:zb7 ops=true)(E:cutB ops (ops.length-1)=true)(L:(ops.getLast H).guard=none)
  (G:(st.own.map (·.1)).Nodup) (h:zw0 P ops st.next (ops.getLast H) ops.dropLast st (Q .normal)):Triple P (.region id ops.toArray true) Q st:=by
 obtain⟨pre,o,rfl⟩:∃ pre o,ops=pre++[o]:=⟨ops.dropLast,ops.getLast H,(List.dropLast_concat_getLast H).symm⟩
 have J:(pre++[o]).getLast H=o:=by simp
 rw[J] at L h
 rw[List.dropLast_concat] at h
 refine ygw F K ?_ L G h
 simpa using E
def zim(d:Dc):D:=.agg [int (zcr d.tiers 2),int (zcr d.tiers 3),int (zcr d.tiers 4)]
theorem znc(d:Dc)(H:d.tiers.length<2^62):zan Tryz.prog 52 [docD d] (zim d):=by
 refine zab mixed Tryz.func52 rfl c_52 ?_
 have h2:=zxq d.tiers 2 H
 have G:=zxq d.tiers 3 H
 have F:=zxq d.tiers 4 H
 simp+decide[Tryz.f52,docD,Dc.row,int]
 refine yac mixed (by simp) (by rfl) (by rfl) (by rfl) (by simp) ?_
 simp+decide[int]
 refine zaa (by rfl) (by rfl) h2 (by simp[zad]) ?_
 simp+decide[int]
 refine zaa (by rfl) (by rfl) G (by simp[zad]) ?_
 simp+decide[int]
 refine zaa (by rfl) (by rfl) F (by simp[zad]) ?_
 simp+decide[int,zim]
def zep(d:Dc):Bool:=decide (0<=zcr d.tiers 2)&&(decide (0<=zcr d.tiers 3)&&decide (0<=zcr d.tiers 4))
theorem zxr(d:Dc)(H:d.tiers.length<2^62):zan Tryz.prog 20 [docD d] (.bool (zep d)):=by
 refine zab mixed Tryz.func20 rfl c_20 ?_
 have h:=znc d H
 unfold zep
 simp+decide[Tryz.f20,docD,Dc.row,int]
 refine zai.pure (by rfl) h (λ_=>rfl) ?_
 by_cases c2:0<=zcr d.tiers 2
 .by_cases c3:0<=zcr d.tiers 3
  .by_cases c4:0<=zcr d.tiers 4
   .simp+decide[zim,int,c2,c3,c4]
   .simp+decide[zim,int,c2,c3,c4]
  .simp+decide[zim,int,c2,c3]
 .simp+decide[zim,int,c2]
theorem zmf(d:Dc)(H:d.tiers.length<2^62):zan Tryz.prog 21 [docD d] (.bool (zep d)):=by
 refine zab mixed Tryz.func21 rfl c_21 ?_
 have h2:=zdj d 2 H
 have G:=zdj d 3 H
 have F:=zdj d 4 H
 unfold zep
 simp+decide[Tryz.f21,docD,Dc.row,int]
 refine zai.pure (by rfl) h2 (λ_=>rfl) ?_
 by_cases c2:0<=zcr d.tiers 2
 .simp+decide[int,c2]
  refine zai.pure (by rfl) G (λ_=>rfl) ?_
  by_cases c3:0<=zcr d.tiers 3
  .simp+decide[int,c3]
   refine zai.pure (by rfl) F (λ_=>rfl) ?_
   by_cases c4:0<=zcr d.tiers 4
   .simp+decide[int,c4]
   .simp+decide[int,c4]
  .simp+decide[int,c3]
 .simp+decide[int,c2]
theorem z0a(d:Dc)(id:Int)(H:d.notes.length<2^62):zan Tryz.prog 58 [docD d,int id] (.str (getN d.notes id).1.text):=by
 refine zab mixed Tryz.func58 rfl c_58 ?_
 have h:=zc0 d id H
 simp+decide[Tryz.f58,docD,Dc.row,int]
 refine zai.pure (by rfl) h (λ_=>rfl) ?_
 simp+decide[getD',Nt.row,int]
def zc1(d:Dc)(id:Int):Bool:=(getN d.notes id).2&&decide ((getN d.notes id).1.tier=zcr d.tiers 2)
theorem zqe(d:Dc)(id:Int)(H:d.notes.length<2^62)(G:d.tiers.length<2^62):zan Tryz.prog 55 [docD d,int id] (.bool (zc1 d id)):=by
 refine zab mixed Tryz.func55 rfl c_55 ?_
 have h:=zc0 d id H
 have h2:=zdj d 2 G
 unfold zc1
 simp+decide[Tryz.f55,docD,Dc.row,int]
 refine zai.pure (by rfl) h (λ_=>rfl) ?_
 generalize getN d.notes id=r
 obtain⟨n,ok⟩:=r
 cases ok with
 |false=>simp+decide[getD',Nt.row,int]
 |true=>
  simp+decide[getD',Nt.row,int];refine zaa (by rfl) (by rfl) h2 (by simp[D.scalar]) ?_
  simp+decide[int]
theorem z7v(d:Dc)(id:Int)(H:d.notes.length<2^62)(G:d.tiers.length<2^62):zan Tryz.prog 51 [docD d,int id] (.tup [.agg (getN d.notes id).1.row,.bool (zc1 d id)]):=by
 refine zab mixed Tryz.func51 rfl c_51 ?_
 have h:=z7j d id H
 have h2:=znc d G
 unfold zc1
 simp+decide[Tryz.f51,docD,Dc.row,int]
 refine zai.pure (by rfl) h (λ_=>rfl) ?_
 generalize getN d.notes id=r
 obtain⟨n,ok⟩:=r
 cases ok with
 |false=>
  simp+decide[getD',Nt.row,int];refine yhb mixed 10 1 (by rfl) rfl rfl rfl rfl (by rfl) (by simp) ?_
  simp+decide[getD',Nt.row,int]
 |true=>
  simp+decide[getD',Nt.row,int];refine yhb mixed 10 1 (by rfl) rfl rfl rfl rfl (by rfl) (by simp) ?_
  simp+decide[getD',Nt.row,int];refine zaa (by rfl) (by rfl) h2 (by simp[D.scalar]) ?_
  simp+decide[getD',Nt.row,int,zim]
def znd(d:Dc)(id:Int)(r:Int):List Int:=zd5 (zz8 d id (zcr d.tiers r))
end Go.V.Doc
namespace Go.V.Doc
open Go Go.Proofs Go.Sort Go.RowKit
section
variable [Dr]
def zxs(a b:Nt):Int:=cmpI a.id b.id
theorem yic(a b:Nt):zan Tryz.prog 66 [.agg a.row,.agg b.row] (int (zxs a b)):=by
 refine zab mixed Tryz.func66 rfl c_66 ?_
 simp+decide[Tryz.f66,Nt.row,int]
 refine zai.pure (by rfl) (zkz a.id b.id) (by simp) ?_
 simp+decide[zxs,int]
theorem ydo{blk off size:Nat}{w:World}{E:Nat->Prop}(H:Seen w E)(G:E blk):Go.Proofs.CmpLays Tryz.prog 66 #[] Nt.enc 7 zxs blk off size w:=by
 let d:Dr:=⟨true⟩
 exact @zwk d _ _ _ _ _ _ _ rfl _ _ zjr (λx y=>@yic d x y) _ _ _ _ _ H G
end
def ltId:Nt->Nt->Bool:=ltOf zxs
theorem z0b:∀ args w,(callFunc 66 args).run Tryz.prog w = .ok (.enter 66 args) w:=enters_of Tryz.func66 (by kernel_rfl) rfl
def zxt:Nat->Nat->Array Nt->Array Nt
 |0,_,d=>d
 |k+1,i,d=>zxt k (i+1) (insInner ltId 0 i d)
theorem zlr(b:Nat):∀ (k i:Nat) (d:Array Nt),k=b-i->insOuter ltId 0 b i d=zxt k i d
 |0,i,d,h=>by unfold insOuter;rw[if_neg (by omega)];rfl
 |k+1,i,d,h=>by unfold insOuter;rw[if_pos (by omega),zlr b k (i+1) _ (by omega)];rfl
def zv0(l:List Nt):List Nt:=(zxt (l.length-1) 1 l.toArray).toList
theorem ydp(l:List Nt):(Sort.insertionSort ltId l.toArray 0 l.length)=(zv0 l).toArray:=by
 unfold Sort.insertionSort zv0
 rw[zlr l.length (l.length-1) (0+1) _ (by omega)]
theorem ylr(T:Nat)(l:List Nt)(F:l≠[])(K:l.length<4611686018427387904)(hs:(zv0 l).length=l.length):
  zbl Tryz.prog 172 [.ar 0,.d (int 0),.d (int l.length),.fn 66 []] [(0,.arr T 7 (l.map Nt.row))] 1 (.d (.tup [])) 1 [(0,.arr T 7 ((zv0 l).map Nt.row))] []:=by
 refine zit zjr c_172 F hs ?_
 intro w E β vs G H g cap J L M
 simp only[Sms,Sm,R,int] at G
 obtain⟨_,_,rfl,rfl,_,_,rfl,rfl,_,_,rfl,⟨_,rfl,rfl⟩,rfl⟩:=G
 have:=AnyQ.insertionSortCmpFunc Tryz.yfs 7 yc0 z3r Nt.enc zjr.len zjr.one zxs 66 #[] g 0 cap 0 l.length l.toArray w z0b
  (ydo H L) M J (Nat.zero_le _) (by simp) (by simpa using K)
 change Calls Tryz.prog 172 _ _ _ at this
 rw[show ltOf zxs=ltId from rfl,ydp] at this
 simpa using this
end Go.V.Doc
namespace Go.Proofs
open Go.RowKit Go.Shelf
theorem yls:(Tryz.prog.info? 166).map (·.size)=some 2:=by kernel_rfl
theorem yn1:liesAt Tryz.prog Tryz.prog.depth 166 (2/Tryz.prog.cellsOf 166) 0 166 1=true:=by kernel_rfl
theorem z3z(b:Nat)(w:World)(H:w.cell? ⟨b,0,none⟩=some (.pointer (some ⟨b,0,none⟩))):
  Calls Tryz.prog 159 #[.pointer (some ⟨b,0,none⟩)] w λe w'=>e = .returned (.tuple #[])/\w'=w:=by
 obtain⟨j,G,_⟩:=Option.map_eq_some_iff.1 yls
 go_enter Tryz.func159,Tryz.ntmps159
 go_wp2
 rw[Lib.run_neq_ptr_same w _ Tryz.underlying163 G]
 go_wp2
 go_end0
 exact⟨rfl,rfl⟩
theorem zxu(b:Nat)(w:World)(E:w.cell? ⟨b,0,none⟩=some (.pointer none))(H:w.shape? b=some (166,2))(F:w.frozen? ⟨b,0,none⟩=false):
  Calls Tryz.prog 159 #[.pointer (some ⟨b,0,none⟩)] w λe w'=>e = .returned (.tuple #[])/\w'=w.setCell ⟨b,0,none⟩ (.pointer (some ⟨b,0,none⟩)):=by
 obtain⟨j,K,G⟩:=Option.map_eq_some_iff.1 yls
 go_enter Tryz.func159,Tryz.ntmps159
 go_wp2
 rw[Lib.run_to_unsafe w ⟨b,0,none⟩ Tryz.underlying163 Tryz.underlying258 K (by rw[G];decide) H (Nat.zero_lt_succ 1)]
 simp only[Result.andThen]
 rw[Oper.upon_value]
 go_wp2
 rw[run_callFunc_extern Tryz.func205 (by kernel_rfl) (by kernel_rfl) (by kernel_rfl) (e:=Extern.AbiNoEscape.same) (by kernel_rfl)]
 rw[Lib.run_noEscape]
 simp only[Result.andThen]
 rw[Oper.upon_value]
 go_wp2
 rw[Lib.run_from_unsafe w ⟨b,0,none⟩ Tryz.underlying258 Tryz.underlying163 K H yn1]
 simp only[Result.andThen]
 rw[Oper.upon_value]
 go_wp2
 go_end0
 exact⟨rfl,rfl⟩
theorem yo8:Builder.X72 Tryz.prog Tryz.bldStr_ren:=⟨yls,yn1⟩
theorem bldX:Builder.Extra Tryz.prog Tryz.bldStr_ren:={yo8 with
 t5:=Tryz.underlying5
 a5:=Tryz.isAgg5
 z5:=Tryz.sizeOf5
 v5:=Tryz.zeroValue5
 infoByte:=by kernel_rfl
 cellsByte:=by kernel_rfl
 sizeByte:=by kernel_rfl
 neB5:=by decide}
end Go.Proofs
namespace Go.V
open Go Go.Proofs
def z3t:List D->Option Doc.Nt
 | [.int .i64 a,.int .i64 b,.int .i64 c,.int .i64 d,.int .i64 e,.int .i64 f,.str t]=>some ⟨a,b,c,d,e,f,t⟩
 |_=>none
def zjt:List (List D)->Option (List Doc.Nt)
 | []=>some []
 |r::rs=>match z3t r,zjt rs with
  |some x,some l=>some (x::l)
  |_,_=>none
theorem zxj{r:List D}{x:Doc.Nt}(h:z3t r=some x):r=x.row:=by
 unfold z3t at h
 split at h
 .cases h;rfl
 .cases h
theorem zhr:∀ {rows:List (List D)} {l:List Doc.Nt},zjt rows=some l->rows=l.map Doc.Nt.row
 | [],l,h=>by simp[zjt] at h;subst h;rfl
 |r::rs,l,h=>by
  simp only[zjt] at h;split at h
  .rename_i x l' H h2
   cases h;rw[zxj H,zhr h2];rfl
  .cases h
theorem yo9(T g:Nat):zbl Tryz.prog 172 [.ar 0,.d (int 0),.d (int 0),.fn g []] [(0,.arr T 7 [])] 1 (.tup []) 1 [(0,.arr T 7 [])] []:=by
 refine za6 mixed Tryz.func172 rfl c_172 (by simp[Sym.los,Sym.lo]) ?_
 simp+decide[Tryz.f172,int]
 refine⟨by unfold I64;omega,zae mixed (λ_:Unit=>{n:=53,next:=1,base:=1,slots:=[(2,.d (int 0)),(8,.d (int 1))],own:=[(0,.arr T 7 [])]})
  (λ_=>True) (λ_=>0) () trivial (by simp+decide[int]) ?_⟩
 intro _ _
 simp+decide[int]
def zzu(args:List Sym)(own:List (Nat×Obj'))(n:Nat):Option XR:=match args,own,n with
 | [.ar 0,.d (.int .i64 a),.d (.int .i64 b),.fn g []],[(0,.arr T 7 (r0::rows))],1=>match zjt (r0::rows) with
  |some l=>match Nat.beq g 66 with
   |true=>zau (decide (a=0)&&decide (b=(l.length:Int))&&Nat.blt 0 l.length&&Nat.beq (Doc.zv0 l).length l.length&&Nat.blt l.length 1000)
    (some ⟨.d (.tup []),1,[(0,.arr T 7 ((Doc.zv0 l).map Doc.Nt.row))],[]⟩)
   |false=>zau (Nat.beq g 113&&decide (a=0)&&decide (b=(l.length:Int))&&Nat.blt 0 l.length&&Nat.beq (Doc.zgz l).length l.length&&Nat.blt l.length 1000)
    (some ⟨.d (.tup []),1,[(0,.arr T 7 ((Doc.zgz l).map Doc.Nt.row))],[]⟩)
  |none=>none
 | [.ar 0,.d (.int .i64 a),.d (.int .i64 b),.fn g []],[(0,.arr T 7 [])],1=>zau (decide (a=0)&&decide (b=0)) (some ⟨.tup [],1,[(0,.arr T 7 [])],[]⟩)
 | [.d (.sl []),.d (.int .i64 a),.d (.int .i64 b),.fn g []],[],0=>zau (Nat.beq g 113&&decide (a=0)&&decide (b=0)) (some ⟨.tup [],0,[],[]⟩)
 |_,_,_=>none
theorem zoy{args:List Sym}{own:List (Nat×Obj')}{n:Nat}{r:XR}(h:zzu args own n=some r):zbl Tryz.prog 172 args own n r.s r.nx r.own r.mv:=by
 unfold zzu at h
 split at h
 .rename_i a b g T r0 rows
  split at h
  .rename_i l hl
   split at h
   .rename_i hg
    rw[zaf] at h;simp only[Bool.and_eq_true,beq_iff,zbu,decide_eq_true_eq] at h;obtain⟨⟨⟨⟨⟨h2,H⟩,G⟩,F⟩,E⟩,h⟩:=h;rw[beq_iff] at hg;cases h;subst hg;subst h2;subst H;rw[zhr hl];exact Doc.ylr T l (by intro e;subst e;simp at G) (by omega) F
   .rw[zaf] at h
    simp only[Bool.and_eq_true,beq_iff,zbu,decide_eq_true_eq] at h;obtain⟨⟨⟨⟨⟨⟨K,h2⟩,H⟩,G⟩,F⟩,E⟩,h⟩:=h;cases h;subst K;subst h2;subst H;rw[zhr hl];exact Doc.yc1 T l (by intro e;subst e;simp at G) (by omega) F
  .cases h
 .rename_i a b g T
  rw[zaf] at h;simp only[Bool.and_eq_true,beq_iff,decide_eq_true_eq] at h;obtain⟨⟨h2,H⟩,h⟩:=h;cases h;subst h2;subst H;exact yo9 T g
 .rename_i a b g
  rw[zaf] at h;simp only[Bool.and_eq_true,beq_iff,decide_eq_true_eq] at h;obtain⟨⟨⟨K,h2⟩,H⟩,h⟩:=h;cases h;subst K;subst h2;subst H;exact Doc.yc2
 .cases h
theorem yad(s:ByteArray)(hs:s.size<2^40):
  zbl Tryz.prog 100 [.bp 0 0,.d (.str s)] [(0,.box 166 [.d (.val (.pointer none)),.nils])] 1 (.tup [.d (int s.size),.d (.val .nilIface)]) 2 [(1,.arr 5 1 (za5 s)),(0,.box 166 [.bp 0 0,.ar 1])] [1]:=by
 have H:zbl Tryz.prog 159 [.bp 0 0] [(0,.box 166 [.d (.val (.pointer none)),.nils])] 1 (.d (.tup [])) 1 [(0,.box 166 [.bp 0 0,.nils])] []:=ztn (by rfl) zxu
 refine za6 mixed Tryz.func100 rfl c_100 (by simp[Sym.los,Sym.lo]) ?_
 simp+decide[Tryz.f100,int]
 refine zai.mut [0] [.bp 0 0] [(0,.box 166 [.d (.val (.pointer none)),.nils])] (by rfl) (by simp) (by simp) (by simp) H ?_
 simp+decide[int,maxLen]
 exact⟨by omega,by omega⟩
theorem yae(s:ByteArray)(rows:List (List D))(hs:rows.length+s.size<2^40):
  zbl Tryz.prog 100 [.bp 0 0,.d (.str s)] [(0,.box 166 [.bp 0 0,.ar 1]),(1,.arr 5 1 rows)] 2 (.tup [.d (int s.size),.d (.val .nilIface)]) 2 [(0,.box 166 [.bp 0 0,.ar 1]),(1,.arr 5 1 (rows++za5 s))] [1]:=by
 have H:zbl Tryz.prog 159 [.bp 0 0] [(0,.box 166 [.bp 0 0,.ar 1]),(1,.arr 5 1 rows)] 2 (.d (.tup [])) 2 [(0,.box 166 [.bp 0 0,.ar 1]),(1,.arr 5 1 rows)] []:=zyl (by rfl) z3z _ _ _
 refine za6 mixed Tryz.func100 rfl c_100 (by simp[Sym.los,Sym.lo]) ?_
 simp+decide[Tryz.f100,int]
 refine zai.mut [0,1] [.bp 0 0] [(0,.box 166 [.bp 0 0,.ar 1]),(1,.arr 5 1 rows)] (by rfl) (by simp) (by simp) (by simp;rfl) H ?_
 simp+decide[int,maxLen]
 exact⟨by omega,by omega⟩
end Go.V
namespace Go.V
open Go Go.Proofs Go.RowKit
def kcF(f:Nat):Option (List Sym->List (Nat×Obj')->Nat->Option XR):=match Nat.beq f 172 with
 |true=>some zzu
 |false=>match Nat.beq f 159 with
  |true=>some (yfr 166)
  |false=>match Nat.beq f 100 with
   |true=>some (z5m 166 5)
   |false=>match Nat.beq f 101 with
    |true=>some (zym 166 5)
    |false=>none
def mfB(f:Nat):Bool:=Nat.beq f 53 || (Nat.beq f 54 || (Nat.beq f 52 || (Nat.beq f 20 || (Nat.beq f 51 ||
 (Nat.beq f 65 || (Nat.beq f 121 || (Nat.beq f 112 || (Nat.beq f 165 || Nat.beq f 172))))))))
noncomputable def mkGb:XG:={mkG Tryz.prog with kc:=kcF,mf:=mfB}
theorem zjy:XGood Tryz.prog mkGb:=by
 have g:=zxi z3q
 refine⟨g.ti,g.zf,g.ek,g.fn,g.kn,?_⟩
 intro f k args own n r H G _
 have H:kcF f=some k:=H
 unfold kcF at H
 split at H
 .rename_i e
  rw[beq_iff] at e;cases H;subst e;exact zoy G
 .split at H
  .rename_i e
   rw[beq_iff] at e;cases H;subst e;exact z5n (ztn (by rfl) zxu) (zyl (by rfl) z3z) G
  .split at H
   .rename_i e
    rw[beq_iff] at e;cases H;subst e;exact z1b (λs hs=>yad s hs) (λs rows hs=>yae s rows hs) G
   .split at H
    .rename_i e
     rw[beq_iff] at e;cases H;subst e;exact zyn (λs hs=>zwl Tryz.yk3 bldX (by rfl) s hs) G
    .cases H
theorem yid:yng Tryz.prog 70 2:=by
 refine⟨c_70,λvs w F=>?_⟩
 obtain⟨p,q,rfl⟩:∃ p q,vs=[p,q]:=by
  match vs,F with
  | [p,q],_=>exact⟨p,q,rfl⟩
 have H:∀ w,(Instr.typeAssert Value.nilIface 20 127 true).run Tryz.prog w = .ok (.tuple #[.agg #[.int .i64 0],.bool false]) w:=λw=>by kernel_rfl
 refine callsD_of_wpS Tryz.func70 rfl λc₀ cs E=>?_
 apply wpS_seq
 apply wpS_region
 simp[wpOpsS,go_sem,recoverD,E,Tryz.ntmps70,Exit.thenS,H]
 apply wpS_seq
 apply wpS_region
 simp[wpOpsS,go_sem,Exit.thenS]
 refine wpS_cond (t:=false) (by simp[Act.eval,Array.replicate]) ?_
 simp only[Bool.false_eq_true,if_false]
 refine wpS_of_wp (wp_skip ?_)
 have G:=zbn w (Obj.cells #[Value.int IntKind.i64 0] 127)
 cases c₀
 simp_all[bodyPostS,results,Tryz.results70]
end Go.V
namespace Go.V
open Go Go.Proofs
mutual
def eqD:D->D->Bool
 |.int k n,.int k' n'=>decide (k=k')&&decide (n=n')
 |.bool a,.bool b=>decide (a=b)
 |.str a,.str b=>decide (a.data.toList=b.data.toList)
 |.sl l,.sl m=>eqR l m
 |.agg l,.agg m=>eqDs l m
 |_,_=>false
def eqR:List (List D)->List (List D)->Bool
 | [],[]=>true
 |r::rs,s::ss=>eqDs r s&&eqR rs ss
 |_,_=>false
def eqDs:List D->List D->Bool
 | [],[]=>true
 |a::r,b::s=>eqD a b&&eqDs r s
 |_,_=>false
end
mutual
theorem yn2:∀ {a b:D},eqD a b=true->a=b
 |.int k n,b,h=>by
  cases b <;> simp[eqD] at h
  obtain⟨rfl,rfl⟩:=h;rfl
 |.bool x,b,h=>by
  cases b <;> simp[eqD] at h
  subst h;rfl
 |.str x,b,h=>by
  cases b <;> simp[eqD] at h
  rename_i y;obtain⟨⟨x⟩⟩:=x;obtain⟨⟨y⟩⟩:=y;cases h;rfl
 |.sl l,b,h=>by
  cases b <;> simp only[eqD,Bool.false_eq_true] at h
  rw[ykt h]
 |.agg l,b,h=>by
  cases b <;> simp only[eqD,Bool.false_eq_true] at h
  rw[zmg h]
 |.ptr _,b,h=>by cases b <;> simp[eqD] at h
 |.tup _,b,h=>by cases b <;> simp[eqD] at h
 |.fn _ _,b,h=>by cases b <;> simp[eqD] at h
 |.val _,b,h=>by cases b <;> simp[eqD] at h
 |.mp _,b,h=>by cases b <;> simp[eqD] at h
theorem ykt:∀ {a b:List (List D)},eqR a b=true->a=b
 | [],b,h=>by cases b with
  |nil=>rfl
  |cons=>simp[eqR] at h
 |r::rs,b,h=>by cases b with
  |nil=>simp[eqR] at h
  |cons s ss=>
   simp only[eqR,Bool.and_eq_true] at h;rw[zmg h.1,ykt h.2]
theorem zmg:∀ {a b:List D},eqDs a b=true->a=b
 | [],b,h=>by cases b with
  |nil=>rfl
  |cons=>simp[eqDs] at h
 |r::rs,b,h=>by cases b with
  |nil=>simp[eqDs] at h
  |cons s ss=>
   simp only[eqDs,Bool.and_eq_true] at h;rw[yn2 h.1,zmg h.2]
end
abbrev ii(n:Int):D:=.int .i64 n
def ka1:List D:=[.agg [ii 5,.str ⟨⟨[116]⟩⟩,ii 1000,ii 1,.sl [[ii 1]],.sl [[.str ⟨⟨[116,101,120,116]⟩⟩,ii 0,ii 1,ii (-1)],[.str ⟨⟨[119,111,114,100]⟩⟩,ii 2,ii 2,ii 0],[.str ⟨⟨[109,111,114,112,104]⟩⟩,ii 3,ii 3,ii 1],[.str ⟨⟨[103,108,111,115,115]⟩⟩,ii 4,ii 4,ii 2]],.sl [[ii 1,ii 0,ii 0,ii 0,ii 900,ii 0,.str ⟨⟨[98,97,98,105,32,120,120]⟩⟩],[ii 2,ii 1,ii 1,ii 0,ii 400,ii 0,.str ⟨⟨[98,97,98,105]⟩⟩],[ii 3,ii 1,ii 1,ii 400,ii 900,ii 0,.str ⟨⟨[120,120]⟩⟩]]],.agg [.sl [[.str ⟨⟨[98]⟩⟩,ii 2],[.str ⟨⟨[97]⟩⟩,ii 3],[.str ⟨⟨[112]⟩⟩,ii 0],[.str ⟨⟨[105]⟩⟩,ii 11]],.str ⟨⟨[109,97,105,110]⟩⟩,.sl [[.str ⟨⟨[98]⟩⟩,.sl [[ii 1]]],[.str ⟨⟨[97]⟩⟩,.sl [[ii 2]]],[.str ⟨⟨[112]⟩⟩,.sl [[ii 3]]],[.str ⟨⟨[105]⟩⟩,.sl [[ii 4]]]],.sl [],.sl [[.sl [[ii 3]],.sl [[ii 1]],.sl [[ii 1,ii 1]],.sl [[ii 1,ii 1]],.bool false,.bool false]],ii 2,.sl [[ii 0,ii 1,ii 1],[ii 1,ii 2,ii 1]],.sl [[ii 1]],.sl [[ii 1,.sl [[ii 1],[ii 2]],ii 1,.sl [],ii 0,.sl [[.str ⟨⟨[100,111,103]⟩⟩,.str ⟨⟨[]⟩⟩]],.sl [],.sl []],[ii 2,.sl [[ii 3],[ii 4]],ii 2,.sl [],ii 0,.sl [[.str ⟨⟨[80,76]⟩⟩,.str ⟨⟨[]⟩⟩]],.sl [],.sl []]]],.sl [[ii 5,ii 2,.bool true,.sl [[ii 1,ii 0,ii 0],[ii 2,ii 0,ii 0]]]],ii 100]
def kr1:D:=.tup [.agg [ii 5,.str ⟨⟨[116]⟩⟩,ii 1000,ii 1,.sl [[ii 1]],.sl [[.str ⟨⟨[116,101,120,116]⟩⟩,ii 0,ii 1,ii (-1)],[.str ⟨⟨[119,111,114,100]⟩⟩,ii 2,ii 2,ii 0],[.str ⟨⟨[109,111,114,112,104]⟩⟩,ii 3,ii 3,ii 1],[.str ⟨⟨[103,108,111,115,115]⟩⟩,ii 4,ii 4,ii 2]],.sl [[ii 1,ii 0,ii 0,ii 0,ii 900,ii 0,.str ⟨⟨[98,97,98,105,32,120,120]⟩⟩],[ii 2,ii 1,ii 1,ii 0,ii 400,ii 0,.str ⟨⟨[98,97,98,105]⟩⟩],[ii 3,ii 1,ii 1,ii 400,ii 900,ii 0,.str ⟨⟨[120,120]⟩⟩],[ii 100,ii 2,ii 2,ii 0,ii 0,ii 0,.str ⟨⟨[98,97]⟩⟩],[ii 101,ii 3,ii 100,ii 0,ii 0,ii 0,.str ⟨⟨[100,111,103]⟩⟩],[ii 102,ii 2,ii 2,ii 0,ii 0,ii 1,.str ⟨⟨[112,105]⟩⟩],[ii 103,ii 3,ii 102,ii 0,ii 0,ii 0,.str ⟨⟨[80,76]⟩⟩]]],ii 0]
theorem kt1:zan Tryz.prog 28 ka1 kr1:=ych zmb zjy yid (k:=40) (j:=1) (by kernel_rfl)
def ka2:List D:=[.agg [ii 5,.str ⟨⟨[116]⟩⟩,ii 1000,ii 1,.sl [[ii 1]],.sl [[.str ⟨⟨[116,101,120,116]⟩⟩,ii 0,ii 1,ii (-1)],[.str ⟨⟨[119,111,114,100]⟩⟩,ii 2,ii 2,ii 0],[.str ⟨⟨[109,111,114,112,104]⟩⟩,ii 3,ii 3,ii 1],[.str ⟨⟨[103,108,111,115,115]⟩⟩,ii 4,ii 4,ii 2]],.sl [[ii 1,ii 0,ii 0,ii 0,ii 900,ii 0,.str ⟨⟨[98,97,98,105,32,120,120]⟩⟩],[ii 2,ii 1,ii 1,ii 0,ii 400,ii 0,.str ⟨⟨[98,97,98,105]⟩⟩],[ii 3,ii 1,ii 1,ii 400,ii 900,ii 0,.str ⟨⟨[120,120]⟩⟩],[ii 100,ii 2,ii 2,ii 0,ii 0,ii 0,.str ⟨⟨[98,97]⟩⟩],[ii 101,ii 3,ii 100,ii 0,ii 0,ii 0,.str ⟨⟨[100,111,103]⟩⟩],[ii 102,ii 2,ii 2,ii 0,ii 0,ii 1,.str ⟨⟨[112,105]⟩⟩],[ii 103,ii 3,ii 102,ii 0,ii 0,ii 0,.str ⟨⟨[80,76]⟩⟩]]],ii 2]
def kr2:D:=.tup [.sl [[.str ⟨⟨[98,97]⟩⟩],[.str ⟨⟨[112,105]⟩⟩]],.sl [[.str ⟨⟨[100,111,103]⟩⟩],[.str ⟨⟨[80,76]⟩⟩]]]
theorem kt2:zan Tryz.prog 18 ka2 kr2:=zkr zmb zjy (k:=40) (by kernel_rfl)
def ka3:List D:=[.agg [ii 5,.str ⟨⟨[116]⟩⟩,ii 1000,ii 1,.sl [[ii 1]],.sl [[.str ⟨⟨[116,101,120,116]⟩⟩,ii 0,ii 1,ii (-1)],[.str ⟨⟨[119,111,114,100]⟩⟩,ii 2,ii 2,ii 0],[.str ⟨⟨[109,111,114,112,104]⟩⟩,ii 3,ii 3,ii 1],[.str ⟨⟨[103,108,111,115,115]⟩⟩,ii 4,ii 4,ii 2]],.sl [[ii 1,ii 0,ii 0,ii 0,ii 900,ii 0,.str ⟨⟨[98,97,98,105,32,120,120]⟩⟩],[ii 2,ii 1,ii 1,ii 0,ii 400,ii 0,.str ⟨⟨[98,97,98,105]⟩⟩],[ii 3,ii 1,ii 1,ii 400,ii 900,ii 0,.str ⟨⟨[120,120]⟩⟩],[ii 100,ii 2,ii 2,ii 0,ii 0,ii 0,.str ⟨⟨[98,97]⟩⟩],[ii 101,ii 3,ii 100,ii 0,ii 0,ii 0,.str ⟨⟨[100,111,103]⟩⟩],[ii 102,ii 2,ii 2,ii 0,ii 0,ii 1,.str ⟨⟨[112,105]⟩⟩],[ii 103,ii 3,ii 102,ii 0,ii 0,ii 0,.str ⟨⟨[80,76]⟩⟩]]],.agg [.sl [[.str ⟨⟨[98]⟩⟩,ii 2],[.str ⟨⟨[97]⟩⟩,ii 3],[.str ⟨⟨[112]⟩⟩,ii 0],[.str ⟨⟨[105]⟩⟩,ii 11]],.str ⟨⟨[109,97,105,110]⟩⟩,.sl [[.str ⟨⟨[98]⟩⟩,.sl [[ii 1]]],[.str ⟨⟨[97]⟩⟩,.sl [[ii 2]]],[.str ⟨⟨[112]⟩⟩,.sl [[ii 3]]],[.str ⟨⟨[105]⟩⟩,.sl [[ii 4]]]],.sl [],.sl [[.sl [[ii 3]],.sl [[ii 1]],.sl [[ii 1,ii 1]],.sl [[ii 1,ii 1]],.bool false,.bool false]],ii 2,.sl [[ii 0,ii 1,ii 1],[ii 1,ii 2,ii 1]],.sl [[ii 1]],.sl [[ii 1,.sl [[ii 1],[ii 2]],ii 1,.sl [],ii 0,.sl [[.str ⟨⟨[100,111,103]⟩⟩,.str ⟨⟨[]⟩⟩]],.sl [],.sl []],[ii 2,.sl [[ii 3],[ii 4]],ii 2,.sl [],ii 0,.sl [[.str ⟨⟨[80,76]⟩⟩,.str ⟨⟨[]⟩⟩]],.sl [],.sl []]]],.sl []]
def kr3:D:=.sl [[ii 2]]
theorem kt3:zan Tryz.prog 30 ka3 kr3:=zkr zmb zjy (k:=40) (by kernel_rfl)
def ka4:List D:=[.agg [ii 5,.str ⟨⟨[116]⟩⟩,ii 1000,ii 1,.sl [[ii 1]],.sl [[.str ⟨⟨[116,101,120,116]⟩⟩,ii 0,ii 1,ii (-1)],[.str ⟨⟨[119,111,114,100]⟩⟩,ii 2,ii 2,ii 0],[.str ⟨⟨[109,111,114,112,104]⟩⟩,ii 3,ii 3,ii 1],[.str ⟨⟨[103,108,111,115,115]⟩⟩,ii 4,ii 4,ii 2]],.sl [[ii 1,ii 0,ii 0,ii 0,ii 900,ii 0,.str ⟨⟨[98,97,98,105,32,120,120]⟩⟩],[ii 2,ii 1,ii 1,ii 0,ii 400,ii 0,.str ⟨⟨[98,97,98,105]⟩⟩],[ii 3,ii 1,ii 1,ii 400,ii 900,ii 0,.str ⟨⟨[120,120]⟩⟩],[ii 100,ii 2,ii 2,ii 0,ii 0,ii 0,.str ⟨⟨[98,97]⟩⟩],[ii 101,ii 3,ii 100,ii 0,ii 0,ii 0,.str ⟨⟨[100,111,103]⟩⟩],[ii 102,ii 2,ii 2,ii 0,ii 0,ii 1,.str ⟨⟨[112,105]⟩⟩],[ii 103,ii 3,ii 102,ii 0,ii 0,ii 0,.str ⟨⟨[80,76]⟩⟩]]],.agg [.sl [[.str ⟨⟨[98]⟩⟩,ii 2],[.str ⟨⟨[97]⟩⟩,ii 3],[.str ⟨⟨[112]⟩⟩,ii 0],[.str ⟨⟨[105]⟩⟩,ii 11]],.str ⟨⟨[109,97,105,110]⟩⟩,.sl [[.str ⟨⟨[98]⟩⟩,.sl [[ii 1]]],[.str ⟨⟨[97]⟩⟩,.sl [[ii 2]]],[.str ⟨⟨[112]⟩⟩,.sl [[ii 3]]],[.str ⟨⟨[105]⟩⟩,.sl [[ii 4]]]],.sl [],.sl [[.sl [[ii 3]],.sl [[ii 1]],.sl [[ii 1,ii 1]],.sl [[ii 1,ii 1]],.bool false,.bool false]],ii 2,.sl [[ii 0,ii 1,ii 1],[ii 1,ii 2,ii 1]],.sl [[ii 1]],.sl [[ii 1,.sl [[ii 1],[ii 2]],ii 1,.sl [],ii 0,.sl [[.str ⟨⟨[100,111,103]⟩⟩,.str ⟨⟨[]⟩⟩]],.sl [],.sl []],[ii 2,.sl [[ii 3],[ii 4]],ii 2,.sl [],ii 0,.sl [[.str ⟨⟨[80,76]⟩⟩,.str ⟨⟨[]⟩⟩]],.sl [],.sl []]]],.sl [[ii 5,ii 2,.bool true,.sl [[ii 1,ii 0,ii 0],[ii 2,ii 0,ii 0]]]]]
def kr4:D:=.sl []
theorem kt4:zan Tryz.prog 30 ka4 kr4:=zkr zmb zjy (k:=40) (by kernel_rfl)
def knC(f:Nat)(ds:List D):Option D:=
 match Nat.beq f 28&&eqDs ds ka1 with
 |true=>some kr1
 |false=>
  match Nat.beq f 18&&eqDs ds ka2 with
  |true=>some kr2
  |false=>
   match Nat.beq f 30&&eqDs ds ka3 with
   |true=>some kr3
   |false=>
    match Nat.beq f 30&&eqDs ds ka4 with
    |true=>some kr4
    |false=>
     none
theorem yie{f:Nat}{ds:List D}{r:D}(h:knC f ds=some r):zan Tryz.prog f ds r:=by
 unfold knC at h
 split at h
 .rename_i e
  rw[Bool.and_eq_true,beq_iff] at e;cases h;rw[e.1,zmg e.2];exact kt1
 .split at h
  .rename_i e
   rw[Bool.and_eq_true,beq_iff] at e;cases h;rw[e.1,zmg e.2];exact kt2
  .split at h
   .rename_i e
    rw[Bool.and_eq_true,beq_iff] at e;cases h;rw[e.1,zmg e.2];exact kt3
   .split at h
    .rename_i e
     rw[Bool.and_eq_true,beq_iff] at e;cases h;rw[e.1,zmg e.2];exact kt4
    .cases h
noncomputable def mkGc:XG:={mkGb with kn:=λf=>some (knC f)}
theorem ydq:XGood Tryz.prog mkGc:=by
 have g:=zjy
 refine⟨g.ti,g.zf,g.ek,g.fn,?_,g.kc⟩
 intro f k ds r H G
 have H:some (knC f)=some k:=H
 cases H
 exact yie G
theorem z0c{f k:Nat}(h:isT (z3b mkGc (zre mkGc) k f [] [] 0)=true):zan Tryz.prog f [] (.bool true):=by
 have H:=zw5 zmb ydq k
 unfold isT at h
 split at h
 .rename_i nx own mv G
  have:=H _ _ _ _ _ G (by simp[Sym.los])
  exact zl9 (ds:=[]) this
 .cases h
theorem z4a:isT (z3b mkGc (zre mkGc) 50 13 [] [] 0)=true:=by kernel_rfl
theorem zsq:zan Tryz.prog 13 [] (.bool true):=z0c z4a
end Go.V
namespace Go.V.Doc
open Go Go.Proofs
theorem z4b{d:Dc}(h:zlq d=true):d.notes.length<=14/\d.tiers.length<=6/\d.spk.length<=6/\Rgt d:=by
 simp only[zlq,Bool.and_eq_true,decide_eq_true_eq] at h
 exact⟨h.1.1.1,h.1.1.2,h.1.2,ydj.1 (by rw[z7s];exact h.2)⟩
theorem zqf{d:Dc}(h:Rgt d):d.tiers.length<=20:=by
 have:=h.tiers
 unfold zhq at this
 split at this
 .cases this
 .omega
theorem Rgt.ttZ{d:Dc}(h:Rgt d){m:Nt}(G:m∈d.notes):∃ t:Nat,t<d.tiers.length/\m.tier=t:=by
 have H:=zso h.good G
 exact⟨m.tier.toNat,by have:=H.t0;have:=H.t1;omega,by have:=H.t0;omega⟩
def chN(d:Dc)(t:Nat)(n:Nt):List Nt:=n::(if h:(zci d t).kind≠0/\(zci d t).par.toNat<t then chN d (zci d t).par.toNat (upN d n) else [])
termination_by t
decreasing_by exact h.2
theorem yn3(d:Dc)(t:Nat)(n:Nt):chN d t n=n::(if h:(zci d t).kind≠0/\(zci d t).par.toNat<t then chN d (zci d t).par.toNat (upN d n) else []):=by rw[chN]
def zdg(d:Dc)(n:Nt):List Nt:=chN d n.tier.toNat n
def chainE(d:Dc)(r:Nt×Bool):List Nt:=if r.2=true then zdg d r.1 else []
theorem za4{d:Dc}(h:Rgt d){n:Nt}(G:n∈d.notes):zdg d n=n::chainE d (getN d.notes n.par)/\((getN d.notes n.par).2=true->(getN d.notes n.par).1∈d.notes/\(getN d.notes n.par).1.tier<n.tier):=by
 obtain⟨t,H,et⟩:=h.ttZ G
 unfold zdg
 rw[et,Int.toNat_natCast,yn3]
 by_cases F:(zci d t).kind=0
 .have E:n.par=0:=h.root ⟨G,et⟩ F
  have K:(getN d.notes n.par).2=false:=by
   cases J:(getN d.notes n.par).2 with
   |false=>rfl
   |true=>
    obtain⟨g1,g2⟩:=zf3 J;have:=(h.nok _ g1).lo
    omega
  rw[dif_neg (λe=>e.1 F)]
  refine⟨?_,λe=>by rw[K] at e;cases e⟩
  unfold chainE;rw[K];rfl
 .have L:=h.up H F
  obtain⟨p1,p2⟩:=h.parent ⟨G,et⟩ H F;have K:=zjx h p1.1;rw[p2] at K;rw[dif_pos ⟨F,L.2⟩,K];refine⟨?_,λ_=>⟨p1.1,by have:=p1.2;rw[this];omega⟩⟩
  unfold chainE zdg;rw[if_pos rfl,p1.2,Int.toNat_natCast]
theorem zjz{d:Dc}(h:Rgt d):∀ (k:Nat) (n:Nt),n∈d.notes->n.tier.toNat<=k->(∀ m∈zdg d n,m∈d.notes)/\(zdg d n).length<=n.tier.toNat+1:=by
 intro k
 induction k with
 |zero=>
  intro n H G;obtain⟨F,h2⟩:=za4 h H;have E:(getN d.notes n.par).2=false:=by
   cases K:(getN d.notes n.par).2 with
   |false=>rfl
   |true=>
    have:=h2 K
    have:=(h.nok _ this.1).t0
    omega
  rw[F];unfold chainE;rw[E];exact⟨by simp[H],by simp⟩
 |succ k ih=>
  intro n H G;obtain⟨F,h2⟩:=za4 h H;rw[F];unfold chainE;cases K:(getN d.notes n.par).2 with
  |false=>exact⟨by simp[H],by simp⟩
  |true=>
   obtain⟨g1,g2⟩:=h2 K;have g0:=(h.nok _ g1).t0;have:=ih _ g1 (by omega)
   rw[if_pos rfl];refine⟨λm J=>?_,by rw[List.length_cons];omega⟩
   rcases List.mem_cons.1 J with rfl | J
   .exact H
   .exact this.1 m J
theorem z4c(d:Dc)(h:Rgt d)(id:Int):zan Tryz.prog 85 [docD d,int id] (ints (zd5 (chainE d (getN d.notes id)))):=by
 have M:=zqf h
 have E:=h.few
 refine zbp mixed Tryz.func85 rfl c_85 [1] ?_
 simp+decide[Tryz.f85,docD,Dc.row,int,zad]
 refine zai.pure (by rfl) (zc0 d id (by omega)) (by simp+decide[docD,Dc.row,int,zad]) ?_
 have O:=zf3 (l:=d.notes) (id:=id)
 generalize getN d.notes id=r at O ⊢
 obtain⟨n,ok⟩:=r
 simp+decide[getD',Nt.row,int]
 refine zae mixed (λx:List Nt×Nt×Bool=>{n:=38,next:=4,slots:=[(2,.bp 0 0),(5,.ar 2),(6,.bp 3 0),(7,.d (.bool x.2.2)),(8,.d (int x.1.length))],own:=[(0,.box 53 (zbd d)),(2,.arr 3 1 ((zd5 x.1).map λn=>[int n])),(3,.box 72 (noteCells x.2.1))],moved:=[2]})
  (λx=>(x.2.2=true->x.2.1∈d.notes/\(x.1.length:Int)+x.2.1.tier<d.tiers.length)/\x.1.length<=d.tiers.length/\x.1++chainE d (x.2.1,x.2.2)=chainE d (n,ok)) (λx=>d.tiers.length+1-x.1.length) ([],n,ok)
  ⟨λe=>⟨(O e).1,by have:=(h.nok _ (O e).1).t1;simp only at this ⊢;simpa using this⟩,Nat.zero_le _,rfl⟩ (by simp+decide[int,zd5,zad]) ?_
 rintro⟨out,c,b⟩ ⟨Q,T,V⟩
 simp only at Q T V
 have H:(zd5 out).length=out.length:=by simp[zd5]
 have G:(out.length:Int)<=d.tiers.length:=by omega
 cases b with
 |false=>
  have K:chainE d (n,ok)=out:=by rw[<-V];simp[chainE]
  rw[K];simp+decide[int,ints,zad,T,G]
 |true=>
  obtain⟨F,J⟩:=Q rfl;obtain⟨X,h2⟩:=za4 h F;have Y:=zc0 d c.par (by omega)
  have c0:=(h.nok c F).t0;generalize getN d.notes c.par=g at X h2 Y;obtain⟨p,pk⟩:=g;simp+decide[int,ints,zad,H,T,G];refine⟨by omega,by unfold maxLen;omega,?_⟩
  refine zai.pure (by rfl) Y (by simp+decide[docD,Dc.row,int,ints,zad]) ?_
  have Z:(out++[c])++chainE d (p,pk)=chainE d (n,ok):=by
   rw[<-V,List.append_assoc];congr 1
   unfold chainE;rw[if_pos rfl,X];rfl
  have A:List.map (λn=>[D.int .i64 n]) (zd5 out)++[[D.int .i64 c.id]]=List.map (λn=>[D.int .i64 n]) (zd5 (out++[c])):=by simp[zd5]
  simp+decide[getD',Nt.row,int,ints,zad,H,I64];have L:(out++[c]).length=out.length+1:=by simp
  refine⟨⟨by omega,by omega⟩,out++[c],p,?_⟩
  cases pk with
  |false=>
   left
   exact⟨⟨by omega,Z⟩,by omega,⟨rfl,by omega⟩,A,rfl,rfl,rfl,rfl,rfl,rfl,rfl⟩
  |true=>
   right
   have g2:=(h2 rfl).2;have g3:=(h2 rfl).1;simp only at g2 g3
   exact⟨⟨⟨g3,by omega⟩,by omega,Z⟩,by omega,⟨rfl,by omega⟩,A,rfl,rfl,rfl,rfl,rfl,rfl,rfl⟩
theorem zk2{d:Dc}(h:Rgt d){n:Nt}(H:n∈d.notes):n∈zdg d n:=by
 rw[(za4 h H).1];exact List.mem_cons_self
theorem zhu{d:Dc}(h:Rgt d):∀ (k:Nat) (n:Nt),n∈d.notes->n.tier.toNat<=k->∀ m∈chainE d (getN d.notes n.par),m.tier<n.tier:=by
 intro k
 induction k with
 |zero=>
  intro n H G m F;unfold chainE at F;split at F
  .rename_i E
   have:=(za4 h H).2 E
   have:=(h.nok _ this.1).t0
   omega
  .cases F
 |succ k ih=>
  intro n H G m F;unfold chainE at F;split at F
  .rename_i E
   obtain⟨K,h2⟩:=(za4 h H).2 E;have g0:=(h.nok _ K).t0;rw[(za4 h K).1] at F;rcases List.mem_cons.1 F with rfl | F
   .exact h2
   .have:=ih _ K (by omega) m F
    omega
  .cases F
theorem z4d{d:Dc}(h:Rgt d):∀ (k:Nat) (n:Nt),n∈d.notes->n.tier.toNat<=k->∀ m∈zdg d n,∀ c∈zdg d m,c∈zdg d n:=by
 intro k
 induction k with
 |zero=>
  intro n F E m K c J;rw[(za4 h F).1] at K;rcases List.mem_cons.1 K with rfl | K
  .exact J
  .have:=zhu h _ n F (Nat.le_refl _) m K
   have G:=(zjz h _ n F (Nat.le_refl _)).1 m (by rw[(za4 h F).1];exact List.mem_cons_of_mem _ K)
   have:=(h.nok _ G).t0
   omega
 |succ k ih=>
  intro n F E m K c J;rw[(za4 h F).1] at K ⊢;rcases List.mem_cons.1 K with rfl | K
  .rw[(za4 h F).1] at J;exact J
  .refine List.mem_cons_of_mem _ ?_
   unfold chainE at K ⊢;split at K
   .rename_i H
    rw[if_pos H];obtain⟨L,h2⟩:=(za4 h F).2 H;have g0:=(h.nok _ L).t0;exact ih _ L (by omega) m K c J
   .cases K
theorem ydr{d:Dc}(h:Rgt d):∀ (k:Nat) (n:Nt),n∈d.notes->n.tier.toNat<=k->∀ a∈zdg d n,∀ b∈zdg d n,a∈zdg d b\/b∈zdg d a:=by
 intro k
 induction k with
 |zero=>
  intro n K J a L b M;have H:=L;have G:=M;rw[(za4 h K).1] at L M;rcases List.mem_cons.1 L with e | L
  .rw[e];exact .inr G
  .rcases List.mem_cons.1 M with e | M
   .rw[e];exact .inl H
   .have:=zhu h _ n K (Nat.le_refl _) a L
    have E:=(zjz h _ n K (Nat.le_refl _)).1 a (by rw[(za4 h K).1];exact List.mem_cons_of_mem _ L)
    have:=(h.nok _ E).t0
    omega
 |succ k ih=>
  intro n K J a L b M;have H:=L;have G:=M;rw[(za4 h K).1] at L M;rcases List.mem_cons.1 L with e | L
  .rw[e];exact .inr G
  .rcases List.mem_cons.1 M with e | M
   .rw[e];exact .inl H
   .unfold chainE at L M
    split at L
    .rename_i F
     rw[if_pos F] at M;obtain⟨O,h2⟩:=(za4 h K).2 F;have g0:=(h.nok _ O).t0;exact ih _ O (by omega) a L b M
    .cases L
end Go.V.Doc
namespace Go.V.Doc
open Go Go.Proofs
def zmh(l:List Nt)(id:Int):List Int:=(l.filter λn=>decide (n.par=id)).map (·.id)
def colN(l:List Nt):Nat->Int->List Int
 |0,_=>[]
 |f+1,id=>(zmh l id).flatMap λk=>k::colN l f k
section
variable {d:Dc}
theorem zhv{l:List Nt}{id x:Int}:x∈zmh l id↔∃ k∈l,k.par=id/\k.id=x:=by
 unfold zmh
 simp only[List.mem_map,List.mem_filter,decide_eq_true_eq]
 exact⟨λ⟨k,⟨H,h2⟩,G⟩=>⟨k,H,h2,G⟩,λ⟨k,H,h2,G⟩=>⟨k,⟨H,h2⟩,G⟩⟩
theorem zg3(h:Rgt d){n k:Nt}(H:n∈d.notes)(G:k∈d.notes)(F:k.par=n.id):n.tier<k.tier:=by
 have:=(za4 h G).2
 rw[F,zjx h H] at this
 exact(this rfl).2
theorem zsr(h:Rgt d){n k:Nt}(H:n∈d.notes)(G:k∈d.notes)(F:k.par=n.id):zdg d k=k::zdg d n:=by
 rw[(za4 h G).1,F,zjx h H];rfl
theorem yn4(h:Rgt d){m:Nt}(H:m∈d.notes):(∃ p∈d.notes,p.id=m.par/\chainE d (getN d.notes m.par)=zdg d p/\p.tier<m.tier)\/chainE d (getN d.notes m.par)=[]:=by
 cases G:(getN d.notes m.par).2 with
 |false=>right;unfold chainE;rw[G];rfl
 |true=>
  left
  obtain⟨F,h2⟩:=(za4 h H).2 G;exact⟨_,F,(zf3 G).2,by unfold chainE;rw[if_pos G],h2⟩
theorem z4e(h:Rgt d):∀ (k:Nat) (m:Nt),m∈d.notes->m.tier.toNat<=k->∀ n∈chainE d (getN d.notes m.par),∃ c∈zdg d m,c.par=n.id:=by
 intro k
 induction k with
 |zero=>
  intro m G F n E;have:=zhu h _ m G (Nat.le_refl _) n E
  have H:=(zjz h _ m G (Nat.le_refl _)).1 n (by rw[(za4 h G).1];exact List.mem_cons_of_mem _ E)
  have:=(h.nok _ H).t0
  omega
 |succ k ih=>
  intro m G F n E;rcases yn4 h G with⟨p,K,e1,e2,e3⟩ | e
  .rw[e2,(za4 h K).1] at E
   rw[(za4 h G).1,e2];rcases List.mem_cons.1 E with rfl | E
   .exact⟨m,List.mem_cons_self,e1.symm⟩
   .have:=(h.nok _ K).t0
    obtain⟨c,J,ec⟩:=ih p K (by omega) n E
    exact⟨c,List.mem_cons_of_mem _ J,ec⟩
  .rw[e] at E;cases E
theorem zrx(h:Rgt d){m c:Nt}(H:m∈d.notes)(G:c∈zdg d m):c∈d.notes:=(zjz h _ m H (Nat.le_refl _)).1 c G
theorem zss(h:Rgt d):∀ (f:Nat) (n:Nt),n∈d.notes->(d.tiers.length:Int)-n.tier<=f->∀ x,x∈colN d.notes f n.id↔∃ m∈d.notes,m.id=x/\n∈chainE d (getN d.notes m.par):=by
 intro f
 induction f with
 |zero=>intro n J L;have:=(h.nok n J).t1;omega
 |succ f ih=>
  intro n J L x;unfold colN;rw[List.mem_flatMap];constructor
  .rintro⟨y,M,O⟩
   obtain⟨k,Q,T,rfl⟩:=zhv.1 M;have V:=zg3 h J Q T;have F:=zsr h J Q T;rcases List.mem_cons.1 O with rfl | O
   .refine⟨k,Q,rfl,?_⟩
    rw[T,zjx h J];exact zk2 h J
   .obtain⟨m,X,rfl,H⟩:=(ih k Q (by omega) x).1 O
    refine⟨m,X,rfl,?_⟩
    rcases yn4 h X with⟨p,E,e1,e2,e3⟩ | e
    .rw[e2] at H ⊢
     exact z4d h _ p E (Nat.le_refl _) k H n (by rw[F];exact List.mem_cons_of_mem _ (zk2 h J))
    .rw[e] at H;cases H
  .rintro⟨m,X,rfl,K⟩
   obtain⟨k,Q,ek⟩:=z4e h _ m X (Nat.le_refl _) n K;have G:=zrx h X Q;have V:=zg3 h J G ek;refine⟨k.id,zhv.2 ⟨k,G,ek,rfl⟩,?_⟩
   rw[(za4 h X).1] at Q;rcases List.mem_cons.1 Q with rfl | Q
   .exact List.mem_cons_self
   .exact List.mem_cons_of_mem _ ((ih k G (by omega) m.id).2 ⟨m,X,rfl,Q⟩)
theorem z4f(h:Rgt d)(id:Int):(zmh d.notes id).Nodup:=by
 unfold zmh
 rw[List.nodup_iff_pairwise_ne,List.pairwise_map]
 exact(h.inc.sublist List.filter_sublist).imp λ{a b} H=>by omega
theorem yds(h:Rgt d){n:Nt}(H:n∈d.notes):n∉chainE d (getN d.notes n.par):=λG=>by
 have:=zhu h _ n H (Nat.le_refl _) n G
 omega
theorem zxv(h:Rgt d){n c:Nt}(H:n∈d.notes)(G:c∈zdg d n):c.tier<=n.tier:=by
 rw[(za4 h H).1] at G
 rcases List.mem_cons.1 G with rfl | G
 .exact Int.le_refl _
 .have:=zhu h _ n H (Nat.le_refl _) c G
  omega
theorem ydt(h:Rgt d){n k1 k2 m:Nt}(H:n∈d.notes)(G:k1∈d.notes)(h2:k2∈d.notes)(p1:k1.par=n.id)(p2:k2.par=n.id)(F:m∈d.notes)(c1:k1∈zdg d m)(c2:k2∈zdg d m):k1=k2:=by
 have t1:=zg3 h H G p1
 have t2:=zg3 h H h2 p2
 rcases ydr h _ m F (Nat.le_refl _) k1 c1 k2 c2 with e | e
 .rw[zsr h H h2 p2] at e
  rcases List.mem_cons.1 e with e | e
  .exact e
  .have:=zxv h H e;omega
 .rw[zsr h H G p1] at e
  rcases List.mem_cons.1 e with e | e
  .exact e.symm
  .have:=zxv h H e;omega
theorem z0d(h:Rgt d):∀ (f:Nat) (n:Nt),n∈d.notes->(d.tiers.length:Int)-n.tier<=f->(colN d.notes f n.id).Nodup:=by
 intro f
 induction f with
 |zero=>intro n G F;have:=(h.nok n G).t1;omega
 |succ f ih=>
  intro n G F;unfold colN;have key:∀ x k,k∈d.notes->k.par=n.id->x∈k.id::colN d.notes f k.id->∃ m∈d.notes,m.id=x/\k∈zdg d m:=by
   intro x k E K J;have L:=zg3 h G E K;rcases List.mem_cons.1 J with rfl | J
   .exact⟨k,E,rfl,zk2 h E⟩
   .obtain⟨m,M,e,O⟩:=(zss h f k E (by omega) x).1 J
    exact⟨m,M,e,by rw[(za4 h M).1];exact List.mem_cons_of_mem _ O⟩
  rw[List.nodup_iff_pairwise_ne,List.pairwise_flatMap];refine⟨λy Q=>?_,(z4f h n.id).imp_of_mem λ{a b} T V H x J y Q e=>?_⟩
  .obtain⟨k,E,K,rfl⟩:=zhv.1 Q
   have L:=zg3 h G E K;rw[List.pairwise_cons];refine⟨λx J e=>?_,ih k E (by omega)⟩
   subst e;obtain⟨m,M,e,O⟩:=(zss h f k E (by omega) k.id).1 J
   obtain rfl:=znb h M E e;exact yds h E O
  .subst e
   obtain⟨k1,X,p1,rfl⟩:=zhv.1 T;obtain⟨k2,h2,p2,rfl⟩:=zhv.1 V;obtain⟨m1,q1,e1,c1⟩:=key x k1 X p1 J;obtain⟨m2,q2,e2,c2⟩:=key x k2 h2 p2 Q;obtain rfl:=znb h q1 q2 (by rw[e1,e2])
   exact H (by rw[ydt h G X h2 p1 p2 q1 c1 c2])
theorem zqg:∀ {l m:List Int},l.Nodup->(∀ x∈l,x∈m)->l.length<=m.length
 | [],m,_,_=>Nat.zero_le _
 |x::l,m,H,hs=>by
  rw[List.nodup_cons] at H;have G:=hs x List.mem_cons_self;have:=zqg (l:=l) (m:=m.erase x) H.2 λy F=>(List.mem_erase_of_ne λ(e:y=x)=>H.1 (by rw[<-e];exact F)).2 (hs y (List.mem_cons_of_mem _ F))
  rw[List.length_erase_of_mem G] at this;have:0<m.length:=List.length_pos_of_mem G
  simp only[List.length_cons];omega
theorem ylu(h:Rgt d){f:Nat}{n:Nt}(H:n∈d.notes)(G:(d.tiers.length:Int)-n.tier<=f):(colN d.notes f n.id).length<=d.notes.length:=by
 have:=zqg (m:=zd5 d.notes) (z0d h f n H G) λx F=>by
  obtain⟨m,E,e,_⟩:=(zss h f n H G x).1 F;unfold zd5;rw[List.mem_map];exact⟨m,E,e⟩
 unfold zd5 at this
 rwa [List.length_map] at this
end
end Go.V.Doc
namespace Go.V.Doc
open Go Go.Proofs
abbrev Grp:=Int×Nat×List Int
def zjk:List Grp->Int->List Int
 | [],_=>[]
 |g::L,p=>if g.1=p then g.2.2 else zjk L p
def zxw(L:List Grp):List (List D):=L.map λg=>[int g.1,ints g.2.2]
theorem zv1(p:Int):∀ L:List Grp,zro (int p) (zxw L)=some (if p∈L.map (·.1) then some (ints (zjk L p)) else none)
 | []=>rfl
 |g::L=>by
  have ih:=zv1 p L;simp only[zxw,List.map_cons,zro,z1c,int,zjk] at ih ⊢;by_cases h:p=g.1
  .simp[h]
  .have H:¬g.1=p:=λe=>h e.symm
   simp only[decide_false,h,H,List.mem_cons,false_or,if_false,Bool.false_eq_true];simpa using ih
theorem yaf{L:List Grp}{p:Int}(h:p∉L.map (·.1)):zjk L p=[]:=by
 induction L with
 |nil=>rfl
 |cons g L ih=>
  simp only[List.map_cons,List.mem_cons,not_or] at h;unfold zjk;rw[if_neg (λe=>h.1 e.symm),ih h.2]
abbrev ypa:Sym:=.fn 115 [.bp 0 0,.bp 1 0,.bp 2 0]
def zfo(L:List Grp)(acc:List Int):List (Nat×Obj'):=
 [(0,.box 182 [.d (.mp (zxw L))]),(1,.box 31 [.ar 3]),(2,.box 183 [ypa]),(3,.arr 3 1 (acc.map λn=>[int n]))]
def ColC(L:List Grp)(l:List Nt)(f:Nat)(id:Int):Prop:=∀ acc:List Int,(acc++colN l f id).length<=2^40 ->
 zbl Tryz.prog 115 [.d (int id),.bp 0 0,.bp 1 0,.bp 2 0] (zfo L acc) 4 (.d (.tup [])) 4 (zfo L (acc++colN l f id)) [3]
theorem yif(L:List Grp)(l:List Nt)(f:Nat)(id:Int)(O:zjk L id=zmh l id)(ih:∀ k∈zmh l id,ColC L l f k):ColC L l (f+1) id:=by
 intro acc H
 refine zbl.ynd (za6 mixed Tryz.func115 rfl c_115 (by simp[Sym.los,Sym.lo]) ?_)
 have Q:=zv1 id L
 simp only[int] at Q
 unfold colN at H ⊢
 by_cases T:id∈L.map (·.1)
 case neg=>
  rw[if_neg T] at Q;rw[<-O,yaf T];simp+decide[Tryz.f115,zfo,int,Q];refine zax mixed (λ_:Unit=>{n:=23,next:=4,base:=4,slots:=[(10,.d (int 0)),(11,.d (int 0))],own:=zfo L acc,moved:=[3]}) (λ_=>True) (λ_=>0) () trivial ?_ ?_
  .simp+decide[int,zfo]
  intro _ _;refine zas mixed ?_
  simp+decide[int,zfo]
 rw[if_pos T,O] at Q
 generalize zmh l id=ks at *
 have J:ks.length<=2^40:=by
  have V:ks.length<=(ks.flatMap λk=>k::colN l f k).length:=by
   clear Q H ih O;induction ks with
   |nil=>simp
   |cons k r ih=>simp only[List.flatMap_cons,List.length_append,List.length_cons];omega
  rw[List.length_append] at H;omega
 simp+decide[Tryz.f115,zfo,int,Q,ints]
 refine zax mixed (λk:Nat=>{n:=23,next:=4,base:=4,slots:=[(1,.bp 0 0),(2,.bp 1 0),(3,.bp 2 0),(9,.d (ints ks)),(10,.d (int ks.length)),(11,.d (int k))],own:=zfo L (acc++(ks.take k).flatMap λk=>k::colN l f k),moved:=[3]})
  (λk=>k<=ks.length) (λk=>ks.length-k) 0 (Nat.zero_le _) ?_ ?_
 .simp+decide[int,ints,zfo]
 intro k X
 refine zas mixed ?_
 by_cases F:k<ks.length
 case neg=>
  have:k=ks.length:=by omega
  subst this;rw[List.take_length];simp+decide[int,ints,zfo]
 have E:(k:Int)<ks.length:=by omega
 obtain⟨q,eq⟩:∃ q,ks[k]=q:=⟨_,rfl⟩
 have e1:ks[k]?=some q:=by rw[List.getElem?_eq_getElem F,eq]
 have hsn:(ks.take (k+1)).flatMap (λk=>k::colN l f k)=(ks.take k).flatMap (λk=>k::colN l f k)++(q::colN l f q):=by
  rw[List.take_succ_eq_append_getElem F,List.flatMap_append,eq];simp
 have G:(acc++(ks.take (k+1)).flatMap λk=>k::colN l f k).length<=2^40:=by
  have:ks.flatMap (λk=>k::colN l f k)=(ks.take (k+1)).flatMap (λk=>k::colN l f k)++(ks.drop (k+1)).flatMap (λk=>k::colN l f k):=by
   rw[<-List.flatMap_append,List.take_append_drop]
  rw[this,<-List.append_assoc,List.length_append] at H;omega
 rw[hsn] at G
 have Y:=ih q (by rw[<-eq];exact List.getElem_mem F) ((acc++(ks.take k).flatMap λk=>k::colN l f k)++[q]) (by simpa using G)
 have M:(acc++(ks.take k).flatMap λk=>k::colN l f k).length<2^40:=by
  rw[<-List.append_assoc,List.length_append,List.length_cons] at G;omega
 have K:acc++((ks.take k).flatMap (λk=>k::colN l f k)++q::colN l f q)=(acc++(ks.take k).flatMap λk=>k::colN l f k)++[q]++colN l f q:=by simp
 generalize acc++(ks.take k).flatMap (λk=>k::colN l f k)=A at *
 simp+decide[int,ints,zfo,F,E,eq,e1,I64,maxLen]
 refine⟨by omega,by omega,?_⟩
 refine zai.mut [0,1,2,3] [.d (int q),.bp 0 0,.bp 1 0,.bp 2 0] (zfo L (A++[q])) (by rfl) (by simp[int]) (by simp[Sym.los,Sym.lo]) (by simp[zfo,int];rfl) Y ?_
 simp+decide[int,ints,zfo,I64]
 exact⟨⟨by omega,by omega⟩,k+1,F,by omega,by omega,by rw[hsn,<-List.map_append (l₁:=acc),K];simp⟩
theorem yn5{d:Dc}(h:Rgt d){L:List Grp}(H:∀ p,zjk L p=zmh d.notes p):∀ (f:Nat) (n:Nt),n∈d.notes->(d.tiers.length:Int)-n.tier<=f->ColC L d.notes f n.id:=by
 intro f
 induction f with
 |zero=>intro n G F;have:=(h.nok n G).t1;omega
 |succ f ih=>
  intro n G F;refine yif L _ f n.id (H _) λk E=>?_
  obtain⟨m,K,J,rfl⟩:=zhv.1 E;have:=zg3 h G K J
  exact ih m K (by omega)
def addU:List Grp->Int->Int->Nat->List Grp
 | [],p,x,nx=>[(p,nx,[x])]
 |g::L,p,x,nx=>if g.1=p then (g.1,g.2.1,g.2.2++[x])::L else g::addU L p x nx
def ze2(L:List Grp):List Int:=L.map (·.1)
def zbr(L:List Grp):List Sym:=L.map λg=>.ar g.2.1
def zdy(L:List Grp):List (Nat×Obj'):=L.map λg=>(g.2.1,.arr 3 1 (g.2.2.map λn=>[int n]))
def idsU(L:List Grp):List Nat:=L.map (·.2.1)
def zg0:List Grp->Int->Option (Nat×List Int)
 | [],_=>none
 |g::L,p=>if g.1=p then some g.2 else zg0 L p
theorem z7w(L:List Grp)(p x:Int)(nx:Nat)(q:Int):zjk (addU L p x nx) q=if p=q then zjk L q++[x] else zjk L q:=by
 induction L with
 |nil=>simp[addU,zjk]
 |cons g L ih=>
  unfold addU;by_cases h:g.1=p
  .rw[if_pos h]
   simp only[zjk];by_cases h2:g.1=q
   .rw[if_pos h2,if_pos h2,if_pos (h.symm.trans h2)]
   .rw[if_neg h2,if_neg h2,if_neg (λe=>h2 (h.trans e))]
  .rw[if_neg h]
   simp only[zjk];by_cases h2:g.1=q
   .rw[if_pos h2,if_pos h2,if_neg (λe=>h (h2.trans e.symm))]
   .rw[if_neg h2,if_neg h2,ih]
theorem zst:∀ (L:List Grp) (p:Int),zp3 (ze2 L) (zbr L) p=(zg0 L p).map λg=>Sym.ar g.1
 | [],p=>rfl
 |g::L,p=>by
  have ih:=zst L p;simp only[ze2,zbr,List.map_cons,zp3,zg0] at ih ⊢;split
  .rfl
  .exact ih
theorem zne:∀ {L:List Grp} {p:Int} {g:Nat×List Int},zg0 L p=some g->(p,g)∈L
 | [],p,g,h=>by cases h
 |a::L,p,g,h=>by
  unfold zg0 at h;split at h
  .rename_i e;cases h;rw[<-e];exact List.mem_cons_self
  .exact List.mem_cons_of_mem _ (zne h)
theorem z7x:∀ {L:List Grp} {p x:Int} {nx:Nat} {g:Nat×List Int},zg0 L p=some g->ze2 (addU L p x nx)=ze2 L/\idsU (addU L p x nx)=idsU L
 | [],p,x,nx,g,h=>by cases h
 |a::L,p,x,nx,g,h=>by
  unfold zg0 at h;unfold addU;split at h
  .rename_i e;rw[if_pos e];exact⟨rfl,rfl⟩
  .rename_i e
   rw[if_neg e];have:=z7x (x:=x) (nx:=nx) h
   simp only[ze2,idsU,List.map_cons] at this ⊢;exact⟨by rw[this.1],by rw[this.2]⟩
theorem z7y:∀ {L:List Grp} {p x:Int} {nx:Nat} {g:Nat×List Int},zg0 L p=some g->(idsU L).Nodup->∀ i,zac (zdy (addU L p x nx)) i=if i=g.1 then some (.arr 3 1 ((g.2++[x]).map λn=>[int n])) else zac (zdy L) i
 | [],p,x,nx,g,h,_,i=>by cases h
 |a::L,p,x,nx,g,h,H,i=>by
  unfold zg0 at h;unfold addU;simp only[idsU,List.map_cons,List.nodup_cons] at H;split at h
  .rename_i e
   cases h;rw[if_pos e];simp only[zdy,List.map_cons,zac];by_cases G:a.2.1=i
   .rw[if_pos G,if_pos G.symm]
   .rw[if_neg G,if_neg (λe2=>G e2.symm),if_neg G]
  .rename_i e
   rw[if_neg e];have ih:=z7y (x:=x) (nx:=nx) h H.2 i;have F:g.1∈L.map (·.2.1):=List.mem_map.2 ⟨_,zne h,rfl⟩
   simp only[zdy,List.map_cons,zac] at ih ⊢;by_cases G:a.2.1=i
   .have:¬i=g.1:=λe2=>H.1 (by rw[G,e2];exact F)
    rw[if_pos G,if_neg this,if_pos G]
   .rw[if_neg G,if_neg G,ih]
theorem zhw:∀ {L:List Grp} {i:Nat} {o:Obj'},zac (zdy L) i=some o->i∈idsU L/\∃ ks:List Int,o = .arr 3 1 (ks.map λn=>[int n])
 | [],i,o,h=>by cases h
 |g::L,i,o,h=>by
  simp only[zdy,List.map_cons,zac] at h;simp only[idsU,List.map_cons,List.mem_cons];split at h
  .rename_i e;cases h;exact⟨.inl e.symm,_,rfl⟩
  .have:=zhw (L:=L) h;exact⟨.inr this.1,this.2⟩
theorem ydu{L:List Grp}{p:Int}{g:Nat×List Int}(h:zg0 L p=some g)(H:(idsU L).Nodup):zac (zdy L) g.1=some (.arr 3 1 (g.2.map λn=>[int n])):=by
 induction L with
 |nil=>cases h
 |cons a L ih=>
  simp only[idsU,List.map_cons,List.nodup_cons] at H;unfold zg0 at h;simp only[zdy,List.map_cons,zac];split at h
  .cases h;rw[if_pos rfl]
  .have G:g.1∈L.map (·.2.1):=List.mem_map.2 ⟨_,zne h,rfl⟩
   rw[if_neg (λe=>H.1 (by rw[e];exact G))]
   exact ih h H.2
theorem ydw:∀ {L:List Grp} {p x:Int} {nx:Nat} {g:Nat×List Int},zg0 L p=some g->(idsU L).Nodup->zho (ze2 L) (zby g.1 (zbr L)) p (.ar g.1)=(ze2 L,zbr L)
 | [],p,x,nx,g,h,_=>by cases h
 |a::L,p,x,nx,g,h,G=>by
  simp only[idsU,List.map_cons,List.nodup_cons] at G;unfold zg0 at h;have rest:∀ (M:List Grp),g.1∉M.map (·.2.1)->zby g.1 (zbr M)=zbr M:=by
   intro M;induction M with
   |nil=>intro _;rfl
   |cons b M ih=>
    intro F;simp only[List.map_cons,List.mem_cons,not_or] at F;simp only[zbr,List.map_cons,zby,za2] at ih ⊢;rw[if_neg (λe=>F.1 e.symm),ih F.2]
  split at h
  .rename_i e
   cases h;simp only[ze2,zbr,List.map_cons,zby,zho,if_pos e];have:=rest L G.1
   simp only[zbr] at this;rw[this]
  .rename_i e
   have ih:=ydw (x:=x) (nx:=nx) h G.2;have E:g.1∈L.map (·.2.1):=List.mem_map.2 ⟨_,zne h,rfl⟩
   have H:¬a.2.1=g.1:=λe=>G.1 (by rw[e];exact E)
   simp only[ze2,zbr,List.map_cons,zby,za2,if_neg H,zho,if_neg e] at ih ⊢;rw[ih]
theorem zry:∀ {L:List Grp} {p x:Int} {nx:Nat},zg0 L p=none->addU L p x nx=L++[(p,nx,[x])]
 | [],p,x,nx,_=>rfl
 |a::L,p,x,nx,h=>by
  unfold zg0 at h;unfold addU;split at h
  .cases h
  .rename_i e;rw[if_neg e,zry h];rfl
theorem z7z:∀ {L:List Grp} {p:Int} {s:Sym},zg0 L p=none->zho (ze2 L) (zbr L) p s=(ze2 L++[p],zbr L++[s])
 | [],p,s,_=>rfl
 |a::L,p,s,h=>by
  unfold zg0 at h;split at h
  .cases h
  .rename_i e
   have ih:=z7z (s:=s) h;simp only[ze2,zbr,List.map_cons,zho,if_neg e] at ih ⊢;rw[ih];rfl
theorem zqh{j:Nat}:∀ {L:List Grp},j∉idsU L->zby j (zbr L)=zbr L
 | [],_=>rfl
 |b::M,H=>by
  simp only[idsU,List.map_cons,List.mem_cons,not_or] at H;have ih:=zqh (L:=M) H.2;simp only[zbr,List.map_cons,zby,za2] at ih ⊢;rw[if_neg (λe=>H.1 e.symm),ih]
theorem zdk{α:Type}:∀ (l m:List (Nat×α)) (i:Nat),zac (l++m) i=(zac l i).or (zac m i)
 | [],m,i=>by simp[zac]
 |(t,x)::l,m,i=>by
  simp only[List.cons_append,zac];split
  .rfl
  .exact zdk l m i
theorem ydx{L:List Grp}{p x:Int}{nx:Nat}(h:zg0 L p=none)(H:nx∉idsU L)(i:Nat):zac (zdy (addU L p x nx)) i=if i=nx then some (.arr 3 1 [[int x]]) else zac (zdy L) i:=by
 rw[zry h]
 unfold zdy
 rw[List.map_append,zdk]
 by_cases e:i=nx
 .subst e
  rw[if_pos rfl];cases G:zac (List.map (λg:Grp=>(g.2.1,Obj'.arr 3 1 (g.2.2.map λn=>[int n]))) L) i with
  |none=>simp[zac]
  |some o=>exact absurd (zhw (L:=L) G).1 H
 .rw[if_neg e]
  have e':¬nx=i:=λe2=>e e2.symm
  simp[zac,e']
end Go.V.Doc
namespace Go.V.Doc
open Go Go.Proofs Go.Sort Go.RowKit
theorem zva{P:Program}{f:Nat}{ds:List D}{T sz k nx:Nat}{rows:List (List D)}{mv:List Nat}(h:zbl P f (ds.map .d) [] 0 (.ar k) nx [(k,.arr T sz rows)] mv)(H:∀ r∈rows,r.length=sz):zua P f ds T sz rows:=by
 refine⟨h.1,H,λw E vs L M=>?_⟩
 have O:Mods E (.of w) (zbt [] 0 0 []) (λ_=>.pointer none) act0 w:=
  ⟨⟨λb Q hmay=>hmay.elim (λh=>by have:w.heap.size<=b:=h;have:=L.1 b Q;omega) (λh=>h),L.2.over (Over.less λb h=>h.elim id False.elim)⟩,⟨Nat.le_refl _,λ_ _ _=>rfl⟩,λ_=>rfl,rfl,rfl,Kept.refl _,by simp[zbt],by simp[zbt],by simp[zbt],by intro t s V;simp[zbt,zac] at V⟩
 have F:Over w E w (Ex E (λ_=>Value.pointer none) []):=Over.less λb Q=>Q.elim id λ⟨_,_,X,_⟩=>by cases X
 refine(h.2 E (.of w) _ w vs rfl O (Sms.zd1 (za9.over F _ _ M))).mono λe w' Y=>?_
 obtain⟨β',v,rfl,G,_,hs⟩:=Y
 simp only[Sm] at hs
 obtain⟨_,K,xs,X,Z,J⟩:=G.obj (id:=k) (o:=.arr T sz rows) (by simp[zbt,zac,St.look])
 have A:∀ b,(Base.of w).may b->w.heap.size<=b:=λb Q=>Q.elim id False.elim
 rw[<-hs] at X
 exact⟨v,xs,rfl,G.below.below,X.row A,λb Q=>(X.2 b Q).2,zah.over (Over.less λb Q=>Q.elim .inl λQ=>.inr ⟨k,_,List.mem_cons_self,by rw[<-hs];exact Q⟩) _ _ Z⟩
def colL(r:Option XR):Option (List (List D)):=match r with
 |some ⟨.ar k,_,[(k',.arr T sz rows)],_⟩=>if Nat.beq k k'&&(Nat.beq T 3&&Nat.beq sz 1) then some rows else none
 |_=>none
theorem zgi{l:List Int}(h:colL (z3b mkGs (z3i mkGs) 40 186 [.d (.fn 188 [.ptr [.sl (l.map λn=>[.int .i64 n])]])] [] 0)=some (l.map λn=>[.int .i64 n])):
  zua Tryz.prog 186 [.fn 188 [.ptr [ints l]]] 3 1 (l.map λn=>[int n]):=by
 have H:=z3m zmb zzv 40
 unfold colL at h
 split at h
 .rename_i k nx k' T sz rows mv G
  split at h
  .rename_i F
   simp only[Bool.and_eq_true,Nat.beq_eq] at F;obtain⟨rfl,rfl,rfl⟩:=F;cases h;have:=H _ _ _ _ _ G (by simp[Sym.los,Sym.lo])
   exact zva (ds:=[.fn 188 [.ptr [ints l]]]) this (by simp)
  .cases h
 .cases h
theorem yag:∀ l:List Int,l≠[]->l.length<=15->zua Tryz.prog 186 [.fn 188 [.ptr [ints l]]] 3 1 (l.map λn=>[int n])
 | [],h,_=>absurd rfl h
 | [a1],_,_=>zgi (by kernel_rfl)
 | [a1,a2],_,_=>zgi (by kernel_rfl)
 | [a1,a2,a3],_,_=>zgi (by kernel_rfl)
 | [a1,a2,a3,a4],_,_=>zgi (by kernel_rfl)
 | [a1,a2,a3,a4,a5],_,_=>zgi (by kernel_rfl)
 | [a1,a2,a3,a4,a5,a6],_,_=>zgi (by kernel_rfl)
 | [a1,a2,a3,a4,a5,a6,a7],_,_=>zgi (by kernel_rfl)
 | [a1,a2,a3,a4,a5,a6,a7,a8],_,_=>zgi (by kernel_rfl)
 | [a1,a2,a3,a4,a5,a6,a7,a8,a9],_,_=>zgi (by kernel_rfl)
 | [a1,a2,a3,a4,a5,a6,a7,a8,a9,a10],_,_=>zgi (by kernel_rfl)
 | [a1,a2,a3,a4,a5,a6,a7,a8,a9,a10,a11],_,_=>zgi (by kernel_rfl)
 | [a1,a2,a3,a4,a5,a6,a7,a8,a9,a10,a11,a12],_,_=>zgi (by kernel_rfl)
 | [a1,a2,a3,a4,a5,a6,a7,a8,a9,a10,a11,a12,a13],_,_=>zgi (by kernel_rfl)
 | [a1,a2,a3,a4,a5,a6,a7,a8,a9,a10,a11,a12,a13,a14],_,_=>zgi (by kernel_rfl)
 | [a1,a2,a3,a4,a5,a6,a7,a8,a9,a10,a11,a12,a13,a14,a15],_,_=>zgi (by kernel_rfl)
 |_::_::_::_::_::_::_::_::_::_::_::_::_::_::_::_::_,_,h=>by simp at h
abbrev encI(n:Int):List Value:=[.int .i64 n]
abbrev rowI(n:Int):List D:=[int n]
theorem ydy:RowEnc encI rowI 1 where
 pos:=by decide
 len:=λ_=>rfl
 one:=λx v hv=>by simp[encI] at hv;subst hv;rfl
 rlen:=λ_=>rfl
 read:=λw E x=>by simp only[rowI,encI,int,zah,R];exact⟨_,_,rfl,rfl,rfl,rfl⟩
 uniq:=λw E x vs h=>by
  simp only[rowI,int,zah,R] at h;obtain⟨_,_,rfl,_,rfl,rfl⟩:=h;rfl
def zin(l:List Int):List Int:=l.mergeSort λx y=>decide (x<=y)
theorem z0e(l:List Int):flatK encI 1 l.toArray=(l.map (Value.int .i64)).toArray:=by
 have:=ydy.flatK l
 rw[<-Array.toList_inj,this]
 clear this
 induction l with
 |nil=>rfl
 |cons n r ih=>simpa[encI] using ih
theorem z0f(l:List Int):putCells id 0 (l.map (Value.int .i64)).toArray=putCells (Value.int .i64) 0 l.toArray:=by
 funext c
 unfold putCells
 congr 1
 funext k x
 by_cases h:k<l.length
 .simp[h]
 .simp[h]
theorem zj0(l:List Int):(zin l).length=l.length:=List.length_mergeSort l
theorem zo6(l:List Int):(zin l).Perm l:=List.mergeSort_perm l _
theorem yig(l:List Int)(F:l≠[])(J:l.length<4611686018427387904):
  zbl Tryz.prog 187 [.ar 0] [(0,.arr 3 1 (l.map rowI))] 1 (.d (.tup [])) 1 [(0,.arr 3 1 ((zin l).map rowI))] []:=by
 refine zit ydy c_187 F (zj0 l) ?_
 intro w E β vs H G g cap L M O
 simp only[Sms] at H
 subst H
 have Q:Holds (Value.int .i64) w g 0 l.toArray:=by
  unfold HoldsK at O;rw[z0e] at O;intro j T;have:=O j (by simpa using T)
  have K:j<l.length:=by simpa using T
  simpa[K] using this
 have:=Any.slices_Sort_int Tryz.sortInt g 0 cap l w Q L J
 change Calls Tryz.prog 187 _ _ _ at this
 refine this.mono λe w' V=>?_
 obtain⟨X,n,os,h2⟩:=V
 refine⟨X,n,os,?_⟩
 rw[h2]
 unfold sortWorldK putRowK putRow
 rw[z0e,z0f]
 rfl
theorem yah(l:List Int)(hs:l.Pairwise λa b=>a<b)(L:l.length<2^40):
  zbl Tryz.prog 128 [.ar 0] [(0,.arr 3 1 (l.map rowI))] 1 (.ar 0) 1 [(0,.arr 3 1 (l.map rowI))] []:=by
 refine za6 mixed Tryz.func128 rfl c_128 (by simp[Sym.los,Sym.lo]) ?_
 by_cases h2:l.length<2
 .have H:(l.length:Int)<2:=by omega
  simp+decide[Tryz.f128,int,h2,H]
 have H:¬(l.length:Int)<2:=by omega
 simp+decide[Tryz.f128,int,h2,H]
 refine zae mixed (λk:Nat=>{n:=61,next:=1,slots:=[(0,.ar 0),(3,.d (int k))],own:=[(0,.arr 3 1 (l.map rowI))],base:=1})
  (λk=>1<=k/\k<=l.length) (λk=>l.length-k) 1 (by omega) (by simp+decide[int]) ?_
 rintro k ⟨J,M⟩
 by_cases G:k<l.length
 .have F:(k:Int)<l.length:=by omega
  obtain⟨j,rfl⟩:∃ j,k=j+1:=⟨k-1,by omega⟩
  have O:j<l.length:=by omega
  have E:(j:Int)<l.length:=by omega
  have e1:l[j+1]?=some l[j+1]:=List.getElem?_eq_getElem G
  have e0:l[j]?=some l[j]:=List.getElem?_eq_getElem O
  have K:¬l[j+1]=l[j]:=by
   have:=List.pairwise_iff_getElem.1 hs j (j+1) O G (by omega)
   omega
  have j1:((j:Int)+1-1)=j:=by omega
  have jn:((j:Int)+1).toNat=j+1:=by omega
  have j0:(0:Int)<=(j:Int)+1:=by omega
  simp+decide[int,G,F,O,E,e0,e1,K,j1,jn,j0,I64];exact λ_=>⟨by omega,by omega,⟨by omega,by omega⟩,j+2,⟨by omega,by omega⟩,by omega,by omega⟩
 .have:k=l.length:=by omega
  subst this;simp+decide[int]
theorem ydz(l:List Int):zbl Tryz.prog 130 [.d (ints l)] [] 0 (.fn 188 [.bp 0 0]) 1 [(0,.box 31 [.d (ints l)])] []:=by
 refine za6 mixed Tryz.func130 rfl c_130 (by simp[Sym.los,Sym.lo]) ?_
 simp+decide[Tryz.f130,ints]
theorem zsu(l:List Int)(H:l≠[])(G:l.length<=15):zua Tryz.prog 129 [.fn 188 [.ptr [ints l]]] 3 1 ((zin l).map rowI):=by
 refine zi3 mixed Tryz.func129 rfl c_129 (by simp) ?_
 simp+decide[Tryz.f129]
 refine zai.fresh (by rfl) (yag l H G) (by simp) ?_
 simp+decide
 refine zai.mut [1] [.ar 0] [(0,.arr 3 1 (l.map rowI))] (by rfl) (by simp) (by simp[Sym.los,Sym.lo]) (by simp) (yig l H (by omega)) ?_
 simp+decide
theorem z0g(l:List Int)(H:l≠[])(G:l.length<=15)(F:l.Nodup):zvf Tryz.prog 78 [ints l] (ints (zin l)):=by
 have hs:(zin l).Pairwise λa b=>a<b:=by
  have E:(zin l).Pairwise λa b=>decide (a<=b)=true:=List.pairwise_mergeSort (λa b c E h2=>by simp at *;omega) (λa b=>by simp;omega) l
  have h2:(zin l).Nodup:=(zo6 l).nodup_iff.2 F
  exact(List.pairwise_and_iff.2 ⟨E,h2⟩).imp λ{a b} h=>by have:=h.1;have:=h.2;simp at *;omega
 have K:zua Tryz.prog 78 [ints l] 3 1 ((zin l).map rowI):=by
  refine zi3 mixed Tryz.func78 rfl c_78 (by simp) ?_
  simp+decide[Tryz.f78];refine zai.mut [] [.d (ints l)] [] (by rfl) (by simp) (by simp) (by simp) (ydz l) ?_
  simp+decide
  refine zai.fresh (by rfl) (zsu l H G) (by simp[zg2]) ?_
  simp+decide
  refine zai.mut [2] [.ar 0] [(0,.arr 3 1 ((zin l).map rowI))] (by rfl) (by simp) (by simp[Sym.los,Sym.lo]) (by simp) (yah (zin l) hs (by rw[zj0];omega)) ?_
  simp+decide
 exact zhn K (zg2 _)
theorem z0h{P:Program}{f:Nat}{ds:List D}(T sz:Nat){nx:Nat}{own':List (Nat×Obj')}{mv:List Nat}(h:zbl P f (ds.map .d) [] 0 .nils nx own' mv):zua P f ds T sz []:=by
 refine⟨h.1,by simp,λw E vs F K=>?_⟩
 have J:Mods E (.of w) (zbt [] 0 0 []) (λ_=>.pointer none) act0 w:=
  ⟨⟨λb L hmay=>hmay.elim (λh=>by have:w.heap.size<=b:=h;have:=F.1 b L;omega) (λh=>h),F.2.over (Over.less λb h=>h.elim id False.elim)⟩,⟨Nat.le_refl _,λ_ _ _=>rfl⟩,λ_=>rfl,rfl,rfl,Kept.refl _,by simp[zbt],by simp[zbt],by simp[zbt],by intro t s M;simp[zbt,zac] at M⟩
 have H:Over w E w (Ex E (λ_=>Value.pointer none) []):=Over.less λb L=>L.elim id λ⟨_,_,O,_⟩=>by cases O
 refine(h.2 E (.of w) _ w vs rfl J (Sms.zd1 (za9.over H _ _ K))).mono λe w' Q=>?_
 obtain⟨β',v,rfl,G,_,hs⟩:=Q
 simp only[Sm] at hs
 exact⟨v,[],rfl,G.below.below,⟨by simp,.inl ⟨hs,rfl⟩⟩,λb L=>by rw[hs] at L;simp[blk] at L,by simp[zah]⟩
def nilL(r:Option XR):Bool:=match r with
 |some ⟨.nils,_,_,_⟩=>true
 |_=>false
theorem zxx:zvf Tryz.prog 78 [ints []] (ints []):=by
 have h:nilL (z3b mkGs (z3i mkGs) 60 78 [.d (.sl [])] [] 0)=true:=by kernel_rfl
 have H:=z3m zmb zzv 60
 unfold nilL at h
 split at h
 .rename_i nx own' mv G
  exact zhn (z0h (ds:=[.sl []]) 3 1 (H _ _ _ _ _ G (by simp[Sym.los,Sym.lo]))) rfl
 .cases h
theorem yd0:zin []=[]:=by simp[zin]
theorem zxy(l:List Int)(H:l.length<=15)(G:l.Nodup):zvf Tryz.prog 78 [ints l] (ints (zin l)):=by
 by_cases h:l=[]
 .subst h;rw[yd0];exact zxx
 .exact z0g l h H G
end Go.V.Doc
namespace Go.V.Doc
open Go Go.Proofs
section
variable {P:Program} {st:St} {Q:DE->St->Prop}
theorem zxz{f:Nat}{fn:Func}{c:Code}(F:P.funcs[f]?=some fn)(K:fn.body=some c)(G:callable P f=true){args:List D}{r:D}
  (h:Triple P c (zy1 (zvm P fn.results.toList r)) (zgu fn.ntmps args)):zan P f args r:=by
 refine⟨G,λw E vs J L=>?_⟩
 refine calls_of_wp F K ?_
 refine wp_mono (h E (.of w) _ _ w (Mods.init J L)) ?_
 rintro e a' w' ⟨de,st',β',M,O,H⟩
 cases e <;> cases de <;> simp only[exM] at M
 .obtain⟨v,Q,h2⟩:=zdq H O
  exact⟨H.defers,v,Q,v,rfl,H.below.below,h2⟩
 .exact O.elim
 .obtain⟨v,Q,h2⟩:=zdq H O
  exact⟨H.defers,v,Q,v,rfl,H.below.below,h2⟩
def cutZ{α:Type}(S:α->St)(inv:α->Prop)(Q:DE->St->Prop):DE->St->Prop
 |.normal,st=>∃ x,inv x/\Weak st (S x)
 |e,st=>Q e st
theorem zsv{α:Type}{x y:Code}(S:α->St)(inv:α->Prop)(h:Triple P x (cutZ S inv Q) st)(h2:∀ z,inv z->Triple P y Q (S z)):Triple P (.seq x y) Q st:=by
 intro X w0 β a w G
 refine wp_seq (wp_mono (h X w0 β a w G) ?_)
 rintro e a' w' ⟨de,st',β',F,E,H⟩
 cases e <;> cases de <;> simp only[exM] at F
 .obtain⟨z,K,J⟩:=E
  exact h2 z K X w0 β' a' w' (H.weak J)
 .subst F;exact⟨.exit _,st',β',rfl,E,H⟩
 .exact⟨.ret,st',β',trivial,E,H⟩
theorem zx0{c:Code}{id T e sz:Nat}(h:st.look id=some (.box T [.nils]))(E:Triple P c Q {st.new (.arr e sz []) with own:=aset id (.box T [.ar st.next]) (st.new (.arr e sz [])).own}):Triple P c Q st:=by
 intro X w0 β a w K
 refine E X w0 (λi=>if i=st.next then .slice none 0 0 else β i) a w ?_
 have G:=K.z1l e sz
 obtain⟨hid,_,b,vs,J,L,M,hs,O⟩:=K.obj h
 have F:¬st.next=id:=by omega
 have H:¬id=st.next:=by omega
 have V:(st.new (.arr e sz [])).look id=some (.box T [.nils]):=by simp only[St.look,St.new,zac,if_neg F];exact h
 refine G.update V (b:=b) (by simp only[if_neg H];rw[J];rfl) L (λ_ _=>rfl) rfl rfl rfl rfl (Drw.refl _) (by simp[Obj'.lo,Sym.los,Sym.lo,St.new]) ?_
 refine⟨b,vs,by simp only[if_neg H];exact J,L,M,?_,O⟩
 simp only[Sms,Sm] at hs ⊢
 simpa using hs
theorem zsw{α:Type}{S:α->St}{inv:α->Prop}:cutZ S inv Q .normal st = ∃ x,inv x/\Weak st (S x):=rfl
theorem z0i{α:Type}{S:α->St}{inv:α->Prop}(i:Nat):cutZ S inv Q (.exit i) st=Q (.exit i) st:=rfl
theorem z8a{α:Type}{S:α->St}{inv:α->Prop}:cutZ S inv Q .ret st=Q .ret st:=rfl
theorem yai{c:Code}{id T:Nat}(h:st.look id=some (.map T []))(H:Triple P c Q {st with own:=aset id (.raw (.mq []) []) st.own}):Triple P c Q st:=
 λX w0 β a w hm=>H X w0 β a w (hm.mq0 h)
end
theorem z8b{st:St}{m:Nat}:∀ {l:List (Nat×Sym)},(∀ t s,(t,s)∈l->zac st.slots t=some s/\Sym.lo m s)->z6c st m l
 | [],_=>trivial
 |(t,s)::r,h=>by
  obtain⟨H,h2⟩:=h t s List.mem_cons_self;unfold z6c;rw[H];exact⟨rfl,h2,z8b λt s G=>h t s (List.mem_cons_of_mem _ G)⟩
theorem z8c{st:St}{m:Nat}:∀ {l:List (Nat×Obj')},(∀ t s,(t,s)∈l->zac st.own t=some s/\t<m/\s.lo m)->z6d st m l
 | [],_=>trivial
 |(t,s)::r,h=>by
  obtain⟨H,h2,G⟩:=h t s List.mem_cons_self;unfold z6d;rw[H];exact⟨rfl,h2,G,z8c λt s F=>h t s (List.mem_cons_of_mem _ F)⟩
theorem zrz{α:Type}:∀ {l:List (Nat×α)} {t:Nat} {s:α},(l.map (·.1)).Nodup->(t,s)∈l->zac l t=some s
 | [],t,s,_,h=>by cases h
 |(u,x)::r,t,s,H,h=>by
  simp only[List.map_cons,List.nodup_cons] at H;rcases List.mem_cons.1 h with e | h
  .cases e;simp[zac]
  .have:¬u=t:=λe=>H.1 (by rw[e];exact List.mem_map.2 ⟨_,h,rfl⟩)
   simp only[zac,if_neg this];exact zrz H.2 h
theorem zsx{st st':St}(H:st'.n=st.n)(h2:st'.base=st.base)(G:st'.base<=st'.next)(F:∀ id∈st.moved,id∈st'.moved)(E:(st'.own.map (·.1)).Nodup)
  (hs:∀ t s,(t,s)∈st'.slots->zac st.slots t=some s/\Sym.lo st'.next s) (K:∀ t s,(t,s)∈st'.own->zac st.own t=some s/\t<st'.next/\s.lo st'.next):Weak st st':=
 ⟨⟨H,h2,G,F⟩,E,z8b hs,z8c K⟩
attribute [local simp] zsw z0i z8a
def zcc(d:Dc)(L:List Grp):List (Nat×Obj'):=[(0,.box 53 (zbd d)),(2,.raw (.mq (ze2 L)) (zbr L)),(3,.box 182 [.mp 2])]
def uSt(d:Dc)(id:Int)(x:Nat×List Grp×Nat):St:=
 {n:=46,next:=x.2.2,slots:=[(1,.d (int id)),(2,.bp 0 0),(5,.bp 3 0),(14,.d (zak d.notes)),(15,.d (int d.notes.length)),(16,.d (int x.1))],own:=zcc d x.2.1++zdy x.2.1,moved:=idsU x.2.1}
structure UInv(d:Dc)(x:Nat×List Grp×Nat):Prop where
 le:x.1<=d.notes.length
 nx:4<=x.2.2
 ids:∀ i∈idsU x.2.1,4<=i/\i<x.2.2
 nodup:(idsU x.2.1).Nodup
 kids:∀ p,zjk x.2.1 p=zmh (d.notes.take x.1) p
theorem UInv.own{d:Dc}{x:Nat×List Grp×Nat}(h:UInv d x){id:Int}:((uSt d id x).own.map (·.1)).Nodup/\∀ t s,(t,s)∈(uSt d id x).own->zac (uSt d id x).own t=some s/\t<x.2.2/\s.lo x.2.2:=by
 obtain⟨k,L,nx⟩:=x
 obtain⟨F,h2,E,K,J⟩:=h
 simp only at F h2 E K J
 have H:((uSt d id (k,L,nx)).own.map (·.1)).Nodup:=by
  have e:(uSt d id (k,L,nx)).own.map (·.1)=[0,2,3]++idsU L:=by simp[uSt,zcc,zdy,idsU,Function.comp_def]
  rw[e,List.nodup_append];refine⟨by decide,K,λa M b O e=>?_⟩
  subst e;have:=(E a O).1
  simp at M
  omega
 refine⟨H,λt s Q=>⟨zrz H Q,?_⟩⟩
 have G:Sym.los nx (zbr L):=by
  clear H Q K J;induction L with
  |nil=>simp[zbr,Sym.los]
  |cons g L ih=>
   have:=ih λi hi=>E i (by simp only[idsU,List.map_cons,List.mem_cons] at hi ⊢;exact .inr hi)
   simp only[zbr,List.map_cons,Sym.los,Sym.lo] at this ⊢;exact⟨(E g.2.1 (by simp[idsU])).2,this⟩
 simp only[uSt,zcc,List.cons_append,List.nil_append,List.mem_cons] at Q
 rcases Q with e | e | e | Q
 .cases e;exact⟨by simp only;omega,by simp[Obj'.lo,Sym.los,Sym.lo,zbd]⟩
 .cases e;exact⟨by simp only;omega,by simpa[Obj'.lo] using G⟩
 .cases e;exact⟨by simp only;omega,by simp[Obj'.lo,Sym.los,Sym.lo];omega⟩
 .obtain⟨g,T,e⟩:=List.mem_map.1 Q
  cases e;exact⟨(E g.2.1 (List.mem_map.2 ⟨g,T,rfl⟩)).2,by simp[Obj'.lo]⟩
theorem znf{d:Dc}{m:Nat}{x:Nat×List Grp×Nat}(G:UInv d (m,x.2)){id:Int}{st:St}(F:st.n=46)(h2:st.base=0)(E:∀ i∈st.moved,i∈idsU x.2.1)
  (hs:∀ t s,(t,s)∈(uSt d id x).slots->zac st.slots t=some s) (K:∀ t s,zac (uSt d id x).own t=some s->zac st.own t=some s):Weak st (uSt d id x):=by
 have J:=G.own (id:=id)
 refine zsx F.symm h2.symm (Nat.zero_le _) E J.1 (λt s L=>⟨hs t s L,?_⟩) (λt s L=>⟨K t s (J.2 t s L).1,(J.2 t s L).2⟩)
 have H:=G.nx
 simp only at H
 simp only[uSt,List.mem_cons,List.not_mem_nil,or_false,Prod.mk.injEq] at L ⊢
 rcases L with⟨_,rfl⟩ | ⟨_,rfl⟩ | ⟨_,rfl⟩ | ⟨_,rfl⟩ | ⟨_,rfl⟩ | ⟨_,rfl⟩ <;> simp[Sym.lo] <;> omega
def uMid(d:Dc)(id:Int)(k:Nat)(L:List Grp)(nx:Nat)(n:Nt):St:=
 {n:=46,next:=nx+1,slots:=[(1,.d (int id)),(2,.bp 0 0),(5,.bp 3 0),(7,.bp nx 0),(14,.d (zak d.notes)),(15,.d (int d.notes.length)),(16,.d (int k))],own:=(nx,.box 72 (noteCells n))::(zcc d L++zdy L),moved:=idsU L}
theorem UInv.yn6{d:Dc}{x:Nat×List Grp×Nat}(h:UInv d x):x.2.2∉idsU x.2.1:=λH=>by have:=(h.ids _ H).2;omega
theorem yd1{d:Dc}{id:Int}{k:Nat}{L:List Grp}{nx:Nat}{n:Nt}(H:UInv d (k,L,nx)){st:St}(G:st.n=46)(h2:st.base=0)(F:∀ i∈st.moved,i∈idsU L)
  (hs:∀ t s,(t,s)∈(uMid d id k L nx n).slots->zac st.slots t=some s) (E:st.own=(uMid d id k L nx n).own):Weak st (uMid d id k L nx n):=by
 have K:=H.own (id:=id)
 have J:=H.nx
 simp only at J
 have M:((uMid d id k L nx n).own.map (·.1)).Nodup:=by
  have e:(uMid d id k L nx n).own.map (·.1)=nx::(uSt d id (k,L,nx)).own.map (·.1):=rfl
  rw[e,List.nodup_cons];refine⟨λO=>?_,K.1⟩
  obtain⟨⟨t,s⟩,Q,T⟩:=List.mem_map.1 O;have:=(K.2 t s Q).2.1
  simp only at T this
  omega
 refine zsx G.symm h2.symm (Nat.zero_le _) F M (λt s O=>⟨hs t s O,?_⟩) (λt s O=>⟨by rw[E];exact zrz M O,?_⟩)
 .simp only[uMid,List.mem_cons,List.not_mem_nil,or_false,Prod.mk.injEq] at O ⊢
  rcases O with⟨_,rfl⟩ | ⟨_,rfl⟩ | ⟨_,rfl⟩ | ⟨_,rfl⟩ | ⟨_,rfl⟩ | ⟨_,rfl⟩ | ⟨_,rfl⟩ <;> simp[Sym.lo] <;> omega
 .rcases List.mem_cons.1 O with e | O
  .cases e
   exact⟨by simp only[uMid];omega,by simp[Obj'.lo,Sym.los,Sym.lo]⟩
  .have:=(K.2 t s O).2
   simp only at this
   exact⟨by simp only[uMid];omega,Obj'.ze9 (by simp only[uMid];omega) this.2⟩
theorem z0j:∀ {L:List Grp} {p:Int} {g:Nat×List Int},zg0 L p=some g->zjk L p=g.2
 | [],p,g,h=>by cases h
 |a::L,p,g,h=>by
  unfold zg0 at h;unfold zjk;split at h
  .rename_i e;cases h;rw[if_pos e]
  .rename_i e;rw[if_neg e];exact z0j h
theorem z0k(L:List Grp):zbr L=(idsU L).map Sym.ar:=by simp[zbr,idsU]
theorem ylv{d:Dc}{L L':List Grp}{nx:Nat}{g:Nat×List Int}{ob:Obj'}{bx:Obj'}(E:ze2 L'=ze2 L)(hi:idsU L'=idsU L)(K:∀ i,zac (zdy L') i=if i=g.1 then some ob else zac (zdy L) i)
  (J:∀ i∈idsU L,4<=i/\i<nx) (O:g.1∈idsU L) (G:4<=nx):∀ t s,zac (zcc d L'++zdy L') t=some s->zac (aset 2 (.raw (.mq (ze2 L)) (zbr L)) (zbz g.1 ob ((nx,bx)::(zcc d L++zdy L)))) t=some s:=by
 intro t s hs
 have F:=J _ O
 rw[zdx,zdr]
 rw[zdk] at hs
 by_cases t2:t=2
 .subst t2
  simp[zcc,zac] at hs;rw[if_pos rfl,<-hs,E,z0k,z0k,hi]
 rw[if_neg t2]
 by_cases t0:t=0
 .subst t0
  have b0:¬0=g.1:=by omega
  have n0:¬nx=0:=by omega
  simp[zcc,zac] at hs;subst hs;simp[zcc,zac,n0,b0,zb5,zby,za2,zbd]
 by_cases t3:t=3
 .subst t3
  have b0:¬3=g.1:=by omega
  have b2:¬2=g.1:=by omega
  have n0:¬nx=3:=by omega
  simp[zcc,zac] at hs;subst hs;simp[zcc,zac,n0,b0,b2,zb5,zby,za2]
 have e0:¬0=t:=λe=>t0 e.symm
 have e2:¬2=t:=λe=>t2 e.symm
 have e3:¬3=t:=λe=>t3 e.symm
 simp[zcc,zac,e0,e2,e3] at hs
 have H:¬nx=t:=by
  intro e;rw[<-e,K,if_neg (by omega)] at hs
  have:=(J _ (zhw hs).1).2
  omega
 simp only[zcc,List.cons_append,List.nil_append,zac,if_neg H,if_neg e0,if_neg e2,if_neg e3]
 rw[K] at hs
 by_cases e:t=g.1
 .rw[if_pos e] at hs
  cases hs;cases Q:zac (zdy L) t with
  |none=>
   exfalso
   rw[e] at Q;have:∀ M:List Grp,g.1∈idsU M->zac (zdy M) g.1≠none:=by
    intro M;induction M with
    |nil=>intro h;simp[idsU] at h
    |cons a M ih=>
     intro h;simp only[idsU,List.map_cons,List.mem_cons] at h;simp only[zdy,List.map_cons,zac];by_cases T:a.2.1=g.1
     .rw[if_pos T];simp
     .rw[if_neg T];exact ih (h.resolve_left λe=>T e.symm)
   exact this L O Q
  |some o=>simp[e]
 .rw[if_neg e] at hs
  obtain⟨_,ks,rfl⟩:=zhw hs;rw[hs];simp[e,zb5]
theorem yih{d:Dc}{L:List Grp}{p x:Int}{nx:Nat}{bx:Obj'}{o0:Obj'}(E:zg0 L p=none)(K:∀ i∈idsU L,4<=i/\i<nx)(F:4<=nx):
  ∀ t s,zac (zcc d (addU L p x (nx+1))++zdy (addU L p x (nx+1))) t=some s ->
   zac (aset 2 (.raw (.mq (ze2 L++[p])) (zbr L++[.ar (nx+1)])) (zbz (nx+1) (.arr 3 1 [[int x]]) ((nx+1,o0)::(nx,bx)::(zcc d L++zdy L)))) t=some s:=by
 intro t s hs
 have H:nx+1∉idsU L:=λJ=>by have:=(K _ J).2;omega
 have M:=ydx (x:=x) (nx:=nx+1) E H
 rw[zdx,zdr]
 rw[zdk] at hs
 by_cases t2:t=2
 .subst t2
  simp[zcc,zac] at hs;rw[if_pos rfl,<-hs,zry E];simp[ze2,zbr]
 rw[if_neg t2]
 by_cases t0:t=0
 .subst t0
  have b0:¬0=nx+1:=by omega
  have n0:¬nx=0:=by omega
  simp[zcc,zac] at hs;subst hs;simp[zcc,zac,n0,zb5,zby,za2,zbd]
 by_cases t3:t=3
 .subst t3
  have b0:¬nx+1=3:=by omega
  have b1:¬3=nx+1:=by omega
  have b2:¬2=nx+1:=by omega
  have n0:¬nx=3:=by omega
  simp[zcc,zac] at hs;subst hs;simp only[zcc,List.cons_append,List.nil_append,zac,if_neg b0,if_neg n0];simp[b1,b2,zb5,zby,za2,show ¬nx=2 by omega,show ¬nx=1 by omega,show ¬2=nx by omega,show ¬1=nx by omega]
 have e0:¬0=t:=λe=>t0 e.symm
 have e2:¬2=t:=λe=>t2 e.symm
 have e3:¬3=t:=λe=>t3 e.symm
 simp[zcc,zac,e0,e2,e3] at hs
 rw[M] at hs
 by_cases e:t=nx+1
 .subst e
  rw[if_pos rfl] at hs;cases hs;simp[zac]
 rw[if_neg e] at hs
 have G:¬nx=t:=by
  intro e;rw[<-e] at hs;have:=(K _ (zhw hs).1).2
  omega
 have en:¬nx+1=t:=λe2=>e e2.symm
 obtain⟨_,ks,rfl⟩:=zhw hs
 simp only[zcc,List.cons_append,List.nil_append,zac,if_neg en,if_neg G,if_neg e0,if_neg e2,if_neg e3,hs]
 simp[e,zb5]
theorem zng(id:Nat)(x:D):∀ (l:List (Nat×Obj')) (t:Nat),zac (zcm id x l) t=if t=id then none else (zac l t).map (zkd id x)
 | [],t=>by simp[zcm,zac]
 |(k,o)::r,t=>by
  have ih:=zng id x r t;unfold zcm;by_cases e:k=id
  .rw[if_pos e,ih]
   by_cases e2:t=id
   .rw[if_pos e2,if_pos e2]
   .have:¬k=t:=λe3=>e2 (e3.symm.trans e)
    rw[if_neg e2,if_neg e2];simp only[zac,if_neg this]
  .rw[if_neg e]
   simp only[zac];by_cases e2:k=t
   .have:¬t=id:=λe3=>e (e2.trans e3)
    rw[if_pos e2,if_pos e2,if_neg this];rfl
   .rw[if_neg e2,if_neg e2,ih]
def uFrz(d:Dc)(id:Int)(nx:Nat)(M:List Nat)(L1 L2:List Grp):St:=
 {n:=46,next:=nx,slots:=[(1,.d (int id)),(2,.bp 0 0),(5,.bp 3 0)],own:=[(0,.box 53 (zbd d)),(2,.raw (.mq (ze2 (L1++L2))) ((L1.map λg=>Sym.d (ints g.2.2))++zbr L2)),(3,.box 182 [.mp 2])]++zdy L2,moved:=M}
theorem z8d(j:Nat)(x:D):∀ L:List Grp,zfa j x (L.map λg=>Sym.d (ints g.2.2))=L.map λg=>Sym.d (ints g.2.2)
 | []=>rfl
 |g::L=>by simp only[List.map_cons,zfa,thaw,z8d j x L]
theorem z0l(j:Nat)(x:D):∀ l m:List Sym,zfa j x (l++m)=zfa j x l++zfa j x m
 | [],m=>rfl
 |s::l,m=>by simp only[List.cons_append,zfa,z0l j x l m]
theorem zsy{j:Nat}{x:D}:∀ {L:List Grp},j∉idsU L->zfa j x (zbr L)=zbr L
 | [],_=>rfl
 |g::L,h=>by
  simp only[idsU,List.map_cons,List.mem_cons,not_or] at h;have ih:=zsy (x:=x) (L:=L) h.2;have:¬g.2.1=j:=λe=>h.1 e.symm
  simp only[zbr,List.map_cons,zfa,thaw,if_neg this] at ih ⊢;rw[ih]
theorem yd2{X:Nat->Prop}{w0:Base}{β:Nat->Value}{a:Act}{w:World}{d:Dc}{id:Int}{nx:Nat}{M:List Nat}(T:4<=nx):∀ (L2 L1:List Grp),(∀ i∈idsU L2,4<=i/\i<nx)->(idsU L2).Nodup->Mods X w0 (uFrz d id nx M L1 L2) β a w->Mods X w0 (uFrz d id nx M (L1++L2) []) β a w
 | [],L1,_,_,A=>by rw[List.append_nil];exact A
 |g::L2,L1,B,H,A=>by
  have e:L1++g::L2=(L1++[g])++L2:=by simp
  rw[e];simp only[idsU,List.map_cons,List.nodup_cons] at H;have C:=B g.2.1 (by simp[idsU])
  have E:g.2.1∉idsU L2:=H.1
  have G:∀ i∈idsU L2,4<=i/\i<nx:=λi hi=>B i (by simp only[idsU,List.map_cons,List.mem_cons] at hi ⊢;exact .inr hi)
  refine yd2 T L2 (L1++[g]) G H.2 ?_
  have n0:¬0=g.2.1:=by omega
  have n2:¬2=g.2.1:=by omega
  have n3:¬3=g.2.1:=by omega
  have J:(uFrz d id nx M L1 (g::L2)).look g.2.1=some (.arr 3 1 (g.2.2.map λn=>[int n])):=by
   simp only[St.look,uFrz,zdy,List.map_cons,List.cons_append,List.nil_append,zac,if_neg n0,if_neg n2,if_neg n3,if_true]
  have I:=A.frz g.2.1;unfold St.frz at I;rw[J] at I;refine I.weak (zsx rfl rfl (Nat.zero_le _) (λ_ h=>h) ?_ ?_ ?_)
  .have:(uFrz d id nx M (L1++[g]) L2).own.map (·.1)=[0,2,3]++idsU L2:=by simp[uFrz,zdy,idsU,Function.comp_def]
   rw[this,List.nodup_append];refine⟨by decide,H.2,λa N b P e=>?_⟩
   subst e;have:=(G a P).1
   simp at N
   omega
  .intro t s A
   simp only[uFrz,List.mem_cons,List.not_mem_nil,or_false,Prod.mk.injEq] at A;rcases A with⟨rfl,rfl⟩ | ⟨rfl,rfl⟩ | ⟨rfl,rfl⟩ <;> simp[uFrz,zcp,thaw,zac,Sym.lo] <;> omega
  .intro t s F
   have V:Sym.los nx ((L1++[g]).map (λg=>Sym.d (ints g.2.2))++zbr L2):=by
    have S:∀ (l m:List Sym),Sym.los nx l->Sym.los nx m->Sym.los nx (l++m):=by
     intro l;induction l with
     |nil=>intro m _ h;exact h
     |cons a l ih=>intro m S h2;simp only[List.cons_append,Sym.los] at S ⊢;exact⟨S.1,ih m S.2 h2⟩
    refine S _ _ ?_ ?_
    .generalize L1++[g]=L
     induction L with
     |nil=>simp[Sym.los]
     |cons a l ih=>simp only[List.map_cons,Sym.los,Sym.lo];exact⟨trivial,ih⟩
    .clear J I F H E A e
     induction L2 with
     |nil=>simp[zbr,Sym.los]
     |cons a l ih=>
      simp only[zbr,List.map_cons,Sym.los,Sym.lo];exact⟨(G a.2.1 (by simp[idsU])).2,ih (λi hi=>B i (by simp only[idsU,List.map_cons,List.mem_cons] at hi ⊢;rcases hi with h | h;exact .inl h;exact .inr (.inr h))) (λi hi=>G i (by simp only[idsU,List.map_cons,List.mem_cons] at hi ⊢;exact .inr hi))⟩
   simp only[uFrz,List.cons_append,List.nil_append,List.mem_cons] at F;rw[zng];rcases F with e | e | e | F
   .cases e;exact⟨by rw[if_neg n0];simp[uFrz,zac,zkd,zfa,thaw,zbd],by simp only[uFrz];omega,by simp[Obj'.lo,Sym.los,Sym.lo]⟩
   .cases e
    refine⟨?_,by simp only[uFrz];omega,by simp only[Obj'.lo];exact V⟩
    rw[if_neg n2];have W:zbr (g::L2)=Sym.ar g.2.1::zbr L2:=rfl
    simp only[uFrz,List.cons_append,List.nil_append,zac,if_true,Option.map_some,zkd,show ¬(0:Nat)=2 by decide,if_false,z0l,z8d,W,zfa,thaw,zsy E]
    simp[ints,int]
   .cases e;exact⟨by rw[if_neg n3];simp[uFrz,zac,zkd,zfa,thaw,n2],by simp only[uFrz];omega,by simp[Obj'.lo,Sym.los,Sym.lo,uFrz];omega⟩
   .obtain⟨q,hq,e⟩:=List.mem_map.1 F
    cases e;have O:q.2.1∈idsU L2:=List.mem_map.2 ⟨q,hq,rfl⟩
    have Z:=G _ O;have Q:¬q.2.1=g.2.1:=λe=>E (by rw[<-e];exact O)
    have K:¬g.2.1=q.2.1:=λe=>Q e.symm
    have Y:zac (zdy L2) q.2.1=some (.arr 3 1 (q.2.2.map λn=>[int n])):=zrz (by simpa[zdy,idsU,Function.comp_def] using H.2) (List.mem_map.2 ⟨q,hq,rfl⟩)
    refine⟨?_,by simp only[uFrz];omega,by simp[Obj'.lo]⟩
    rw[if_neg Q];have m0:¬0=q.2.1:=by omega
    have m2:¬2=q.2.1:=by omega
    have m3:¬3=q.2.1:=by omega
    have W:zdy (g::L2)=(g.2.1,Obj'.arr 3 1 (g.2.2.map λn=>[int n]))::zdy L2:=rfl
    simp only[uFrz,List.cons_append,List.nil_append,zac,if_neg m0,if_neg m2,if_neg m3,W,if_neg K,Y];rfl
def uEnd(d:Dc)(id:Int)(L:List Grp):St:=
 {n:=46,next:=4,slots:=[(1,.d (int id)),(2,.bp 0 0),(5,.bp 3 0)],own:=[(0,.box 53 (zbd d)),(3,.box 182 [.d (.mp (zxw L))])],moved:=idsU L}
theorem z4g{P:Program}{c:Code}{Q:DE->St->Prop}{d:Dc}{id:Int}{m:Nat}{x:Nat×List Grp×Nat}(K:UInv d (m,x.2))(h:Triple P c Q (uEnd d id x.2.1)):Triple P c Q (uSt d id x):=by
 intro X w0 β a w J
 obtain⟨k,L,nx⟩:=x
 have M:∀ i∈idsU L,4<=i/\i<nx:=K.ids
 have G:(idsU L).Nodup:=K.nodup
 have E:4<=nx:=K.nx
 have O:=K.own (id:=id)
 have m0:Mods X w0 (uFrz d id nx (idsU L) [] L) β a w:=by
  refine J.weak (zsx rfl rfl (Nat.zero_le _) (λ_ h=>h) O.1 ?_ O.2)
  intro t s J;simp only[uFrz,List.mem_cons,List.not_mem_nil,or_false,Prod.mk.injEq] at J;rcases J with⟨rfl,rfl⟩ | ⟨rfl,rfl⟩ | ⟨rfl,rfl⟩ <;> simp[uSt,uFrz,zac,Sym.lo] <;> omega
 have m1:=yd2 E L [] M G m0
 rw[List.nil_append] at m1
 have F:(uFrz d id nx (idsU L) L []).look 2=some (.raw (.mq (ze2 L)) ((L.map λg=>ints g.2.2).map Sym.d)):=by simp[uFrz,St.look,zac,zbr,Function.comp_def]
 have m2:=(m1.mqD (T:=182) F).frz 2
 have V:((ze2 L).zip (L.map λg=>ints g.2.2)).map (λp=>[D.int .i64 p.1,p.2])=zxw L:=by
  clear J m0 m1 m2 F O K h M G;induction L with
  |nil=>rfl
  |cons g L ih=>simp only[ze2,zxw,List.map_cons,List.zip_cons_cons,int] at ih ⊢;rw[ih]
 rw[V] at m2
 have H:St.look {uFrz d id nx (idsU L) L [] with own:=aset 2 (.map 182 (zxw L)) (uFrz d id nx (idsU L) L []).own} 2=some (.map 182 (zxw L)):=by simp[uFrz,St.look,zac,aset]
 unfold St.frz at m2
 rw[H] at m2
 refine h X w0 β a w (m2.weak (zsx rfl rfl (Nat.zero_le _) (λ_ h=>h) (by simp[uEnd]) ?_ ?_))
 .intro t s J
  simp only[uEnd,List.mem_cons,List.not_mem_nil,or_false,Prod.mk.injEq] at J;rcases J with⟨rfl,rfl⟩ | ⟨rfl,rfl⟩ | ⟨rfl,rfl⟩ <;> simp[uEnd,uFrz,zcp,thaw,zac,Sym.lo]
 .intro t s J
  simp only[uEnd,List.mem_cons,List.not_mem_nil,or_false,Prod.mk.injEq] at J;rcases J with⟨rfl,rfl⟩ | ⟨rfl,rfl⟩ <;> simp[uEnd,uFrz,aset,zcm,zkd,zfa,thaw,zac,Sym.lo,Sym.los,Obj'.lo,zdy,zbd]
end Go.V.Doc
namespace Go.V.Doc
open Go Go.Proofs
attribute [local simp] zsw z0i z8a
theorem yii(d:Dc)(h:Rgt d)(hl:d.notes.length<2^40)(n:Nt)(hn:n∈d.notes)(f:Nat)(hf:(d.tiers.length:Int)-n.tier<=f)(hc:(colN d.notes f n.id).length<=15):zan Tryz.prog 59 [docD d,int n.id] (ints (zin (colN d.notes f n.id))):=by
 obtain⟨id,hid⟩:∃ id,n.id=id:=⟨_,rfl⟩
 have hG:=z7j d n.id (by omega)
 rw[zjx h hn] at hG
 have N:=hc
 have hS:=zxy (colN d.notes f n.id) hc (z0d h f n hn hf)
 have J:∀ L:List Grp,(∀ p,zjk L p=zmh d.notes p)->ColC L d.notes f n.id:=λL hL=>yn5 h hL f n hn hf
 rw[hid] at hG N hS J hc ⊢
 refine zxz Tryz.func59 rfl c_59 ?_
 refine zl5 mixed 2 {n:=46,next:=4,slots:=[(1,.d (int id)),(2,.bp 0 0),(5,.bp 3 0)],own:=[(0,.box 53 (zbd d)),(2,.map 182 []),(3,.box 182 [.mp 2])]} rfl ?_ ?_
 .simp+decide[Tryz.f59,zij,docD,Dc.row,int,zak,zad]
 simp only[Tryz.f59,zik]
 refine yai (id:=2) rfl ?_
 refine zsv (uSt d id) (λx=>UInv d x/\x.1=d.notes.length) ?_ ?_
 .refine zl5 mixed 1 (uSt d id (0,[],4)) rfl ?_ ?_
  .simp+decide[zij,uSt,zcc,ze2,zbr,zdy,idsU,aset,int,zak]
  simp only[zik];refine zfx (zax mixed (uSt d id) (UInv d) (λx=>d.notes.length-x.1) (0,[],4) ?_ ?_ ?_)
  .exact⟨Nat.zero_le _,by simp,by simp[idsU],by simp[idsU],by simp[zjk,zmh]⟩
  .simp+decide[uSt,zcc,ze2,zbr,zdy,idsU]
  intro x hx;by_cases G:x.1<d.notes.length
  case neg=>
   have hk:x.1=d.notes.length:=by have:=hx.le;omega
   refine zas mixed ?_
   simp+decide[uSt,int,hk,-Weak];refine⟨x.1,x.2.1,x.2.2,⟨hx,hk⟩,?_⟩
   refine znf (x:=(x.1,x.2.1,x.2.2)) hx rfl rfl (λ_ h=>h) ?_ (λ_ _ h=>h)
   intro t s hm;simp only[uSt,List.mem_cons,List.not_mem_nil,or_false,Prod.mk.injEq] at hm;rcases hm with⟨rfl,rfl⟩ | ⟨rfl,rfl⟩ | ⟨rfl,rfl⟩ | ⟨rfl,rfl⟩ | ⟨rfl,rfl⟩ | ⟨rfl,rfl⟩ <;> simp[zac,hk,int]
  refine zl5 mixed 2 (uSt d id x) rfl ?_ ?_
  .have F:(x.1:Int)<d.notes.length:=by omega
   simp+decide[zij,uSt,int,G,F,-Weak];refine znf (x:=x) hx rfl rfl (λ_ h=>h) ?_ (λ_ _ h=>h)
   intro t s hm;simp only[uSt,List.mem_cons,List.not_mem_nil,or_false,Prod.mk.injEq] at hm;rcases hm with⟨rfl,rfl⟩ | ⟨rfl,rfl⟩ | ⟨rfl,rfl⟩ | ⟨rfl,rfl⟩ | ⟨rfl,rfl⟩ | ⟨rfl,rfl⟩ <;> simp[zac,int]
  simp only[zik];refine zsv (λy:List Grp×Nat=>uSt d id (x.1,y)) (λy=>UInv d (x.1+1,y)) ?_ ?_
  .refine zfx ?_
   obtain⟨k,L,nx⟩:=x;obtain⟨n,en⟩:∃ n,d.notes[k]=n:=⟨_,rfl⟩;have e1:d.notes[k]?=some n:=by rw[List.getElem?_eq_getElem G,en]
   refine zp1 (uMid d id k L nx n) ?_ ?_
   .refine zas mixed ?_
    have F:(k:Int)<d.notes.length:=by omega
    simp+decide[uSt,int,zak,Nt.row,G,F,en,e1,-Weak];refine yd1 hx rfl rfl (λ_ h=>h) ?_ rfl
    intro t s hm;simp only[uMid,List.mem_cons,List.not_mem_nil,or_false,Prod.mk.injEq] at hm;rcases hm with⟨rfl,rfl⟩ | ⟨rfl,rfl⟩ | ⟨rfl,rfl⟩ | ⟨rfl,rfl⟩ | ⟨rfl,rfl⟩ | ⟨rfl,rfl⟩ | ⟨rfl,rfl⟩ <;> simp[zac,int,zak]
   .have P:nx∉idsU L:=hx.yn6
    have h4:4<=nx:=hx.nx
    have H:∀ i∈idsU L,4<=i/\i<nx:=hx.ids
    have M:(idsU L).Nodup:=hx.nodup
    have a0:¬nx=0:=by omega
    have a2:¬nx=2:=by omega
    have a3:¬nx=3:=by omega
    cases hf:zg0 L n.par with
    |some g=>
     have T:g.1∈idsU L:=List.mem_map.2 ⟨_,zne hf,rfl⟩
     have H2:=H _ T;have b0:¬0=g.1:=by omega
     have b2:¬2=g.1:=by omega
     have b3:¬3=g.1:=by omega
     have bn:¬nx=g.1:=by omega
     have c2:¬g.1=2:=by omega
     have c3:¬g.1=3:=by omega
     have c0:¬g.1=0:=by omega
     have cn:¬g.1=nx:=by omega
     obtain⟨S,hS⟩:∃ S:St,S = {uMid d id k L nx n with slots:=(20,.mp 2)::(21,.bp nx 2)::(22,.d (int n.par))::(23,.mp 2)::(24,.bp nx 2)::(25,.d (int n.par))::(26,.ar g.1)::(27,.bp nx 0)::(28,.d (int n.id))::(29,.d (.sl [[int n.id]]))::(uMid d id k L nx n).slots}:=⟨_,rfl⟩;refine zp4 mixed 11 10 S ((S.renew g.1 (.arr 3 1 ((g.2++[n.id]).map λn=>[int n]))).put (some 30) (.ar g.1)) 30 (.ar g.1) (za2 g.1) (λst=>(st.renew g.1 (.arr 3 1 ((g.2++[n.id]).map λn=>[int n]))).put (some 30) (.ar g.1)) _ (by rfl) (by rfl) (by rfl) (by rfl) (by rfl) rfl rfl rfl ?_ (zw6 S g.1 30 _) ?_ ?_ ?_
     .intro X w0 β a w hm
      subst hS;refine⟨rfl,rfl,rfl,rfl,rfl,λt s hs hj hL=>?_⟩
      simp only[zac] at hs;split at hs
      .rename_i e;exact(hL 0 _ (by omega) rfl (congrArg some e)).elim
      split at hs
      .rename_i e;exact(hL 1 _ (by omega) rfl (congrArg some e)).elim
      split at hs
      .rename_i e;exact(hL 2 _ (by omega) rfl (congrArg some e)).elim
      split at hs
      .rename_i e;exact(hL 3 _ (by omega) rfl (congrArg some e)).elim
      split at hs
      .rename_i e;exact(hL 4 _ (by omega) rfl (congrArg some e)).elim
      split at hs
      .rename_i e;exact(hL 5 _ (by omega) rfl (congrArg some e)).elim
      split at hs
      .rename_i e;exact(hL 6 _ (by omega) rfl (congrArg some e)).elim
      split at hs
      .rename_i e;exact(hL 7 _ (by omega) rfl (congrArg some e)).elim
      split at hs
      .rename_i e;exact(hL 8 _ (by omega) rfl (congrArg some e)).elim
      split at hs
      .rename_i e;exact(hL 9 _ (by omega) rfl (congrArg some e)).elim
      exact hs
     .intro i o hi W ho
      have:i=0\/i=1\/i=2\/i=3\/i=4\/i=5\/i=6\/i=7\/i=8\/i=9:=by omega
      rcases this with rfl | rfl | rfl | rfl | rfl | rfl | rfl | rfl | rfl | rfl <;> simp only[List.getElem?_cons_zero,List.getElem?_cons_succ,Option.some.injEq] at ho <;> subst ho
      .refine zbi (s:=.mp 2) rfl rfl (by subst hS;simp[uMid]) (by subst hS;simp[Sym.lo,uMid] <;> omega) ⟨by rfl,?_⟩ (by subst hS;simp[zac]) (.inr ⟨by subst hS;simp[St.put,St.renew,St.new,uMid],by subst hS;simp[St.put,St.renew,St.new,Sym.lo,uMid] <;> omega,⟨by rfl,?_⟩,by subst hS;simp[zac,St.put,St.renew,St.new,zav,za2,uMid,a0,a2,a3,b0,b2,b3,bn,c0,c2,c3,cn]⟩)
       .subst hS;simp+decide[uMid,zcc,zac,St.val,St.look,int,a0,a2,a3,b0,b2,b3,bn,c0,c2,c3,cn]
       .subst hS;simp+decide[uMid,zcc,zac,St.val,St.look,St.put,St.renew,St.new,zbz,zb5,zby,za2,zav,int,a0,a2,a3,b0,b2,b3,bn,c0,c2,c3,cn]
      .refine zbi (s:=.bp nx 2) rfl rfl (by subst hS;simp[uMid]) (by subst hS;simp[Sym.lo,uMid] <;> omega) ⟨by rfl,?_⟩ (by subst hS;simp[zac]) (.inr ⟨by subst hS;simp[St.put,St.renew,St.new,uMid],by subst hS;simp[St.put,St.renew,St.new,Sym.lo,uMid] <;> omega,⟨by rfl,?_⟩,by subst hS;simp[zac,St.put,St.renew,St.new,zav,za2,uMid,a0,a2,a3,b0,b2,b3,bn,c0,c2,c3,cn]⟩)
       .subst hS;simp+decide[uMid,zcc,zac,St.val,St.look,int,a0,a2,a3,b0,b2,b3,bn,c0,c2,c3,cn]
       .subst hS;simp+decide[uMid,zcc,zac,St.val,St.look,St.put,St.renew,St.new,zbz,zb5,zby,za2,zav,int,a0,a2,a3,b0,b2,b3,bn,c0,c2,c3,cn]
      .refine zbi (s:=.d (int n.par)) rfl rfl (by subst hS;simp[uMid]) (by subst hS;simp[Sym.lo,uMid] <;> omega) ⟨by rfl,?_⟩ (by subst hS;simp[zac]) (.inr ⟨by subst hS;simp[St.put,St.renew,St.new,uMid],by subst hS;simp[St.put,St.renew,St.new,Sym.lo,uMid] <;> omega,⟨by rfl,?_⟩,by subst hS;simp[zac,St.put,St.renew,St.new,zav,za2,uMid,a0,a2,a3,b0,b2,b3,bn,c0,c2,c3,cn]⟩)
       .subst hS;simp+decide[uMid,zcc,zac,St.val,St.look,int,a0,a2,a3,b0,b2,b3,bn,c0,c2,c3,cn]
       .subst hS;simp+decide[uMid,zcc,zac,St.val,St.look,St.put,St.renew,St.new,zbz,zb5,zby,za2,zav,int,a0,a2,a3,b0,b2,b3,bn,c0,c2,c3,cn]
      .refine zbi (s:=.mp 2) rfl rfl (by subst hS;simp[uMid]) (by subst hS;simp[Sym.lo,uMid] <;> omega) ⟨by rfl,?_⟩ (by subst hS;simp[zac]) (.inl ⟨5,by rfl⟩)
       subst hS;simp+decide[uMid,zcc,zac,St.val,St.look,int,a0,a2,a3,b0,b2,b3,bn,c0,c2,c3,cn]
      .refine zbi (s:=.bp nx 2) rfl rfl (by subst hS;simp[uMid]) (by subst hS;simp[Sym.lo,uMid] <;> omega) ⟨by rfl,?_⟩ (by subst hS;simp[zac]) (.inl ⟨5,by rfl⟩)
       subst hS;simp+decide[uMid,zcc,zac,St.val,St.look,int,a0,a2,a3,b0,b2,b3,bn,c0,c2,c3,cn]
      .refine zbi (s:=.d (int n.par)) rfl rfl (by subst hS;simp[uMid]) (by subst hS;simp[Sym.lo,uMid] <;> omega) ⟨by rfl,?_⟩ (by subst hS;simp[zac]) (.inl ⟨5,by rfl⟩)
       subst hS;simp+decide[uMid,zcc,zac,St.val,St.look,int,a0,a2,a3,b0,b2,b3,bn,c0,c2,c3,cn]
      .refine⟨rfl,26,.ar g.1,rfl,.inl ⟨5,by rfl⟩,?_,by subst hS;intro s' h1 _;simp[zac] at h1;exact h1.symm⟩
       intro X w0 st β a w hn H0 E hk hm;have V:st.val (.tmp 23) = .mp 2:=by simp only[St.val];rw[hk 23 (by simp[tmpsOf,Op.operands]) (.mp 2) (by subst hS;simp[zac]) (by simp)];rfl
       have Y:st.val (.tmp 25) = .d (.int .i64 n.par):=by simp only[St.val];rw[hk 25 (by simp[tmpsOf,Op.operands]) (.d (int n.par)) (by subst hS;simp[zac]) (by simp)];rfl
       have O:st.look 2=some (.raw (.mq (ze2 L)) (zbr L)):=by simp only[St.look];rw[E];subst hS;simp[uMid,zcc,zac,a2]
       refine zl7 hm rfl (by intro t ht;cases ht;rw[hn];subst hS;simp[uMid]) V O Y (kt:=3) (et:=31) (by kernel_rfl) ti_3 ti_31 rfl rfl rfl (by kernel_rfl) ?_
       rw[zst,hf];rfl
      .refine zbi (s:=.bp nx 0) rfl rfl (by subst hS;simp[uMid]) (by subst hS;simp[Sym.lo,uMid] <;> omega) ⟨by rfl,?_⟩ (by subst hS;simp[zac]) (.inl ⟨5,by rfl⟩)
       subst hS;simp+decide[uMid,zcc,zac,St.val,St.look,int,a0,a2,a3,b0,b2,b3,bn,c0,c2,c3,cn]
      .refine zbi (s:=.d (int n.id)) rfl rfl (by subst hS;simp[uMid]) (by subst hS;simp[Sym.lo,uMid] <;> omega) ⟨by rfl,?_⟩ (by subst hS;simp[zac]) (.inl ⟨5,by rfl⟩)
       subst hS;simp+decide[uMid,zcc,zac,St.val,St.look,int,a0,a2,a3,b0,b2,b3,bn,c0,c2,c3,cn]
      .refine zbi (s:=.d (.sl [[int n.id]])) rfl rfl (by subst hS;simp[uMid]) (by subst hS;simp[Sym.lo,uMid] <;> omega) ⟨by rfl,?_⟩ (by subst hS;simp[zac]) (.inl ⟨5,by rfl⟩)
       subst hS;simp+decide[uMid,zcc,zac,St.val,St.look,int,a0,a2,a3,b0,b2,b3,bn,c0,c2,c3,cn]
     .intro X w0 L' st hN hk β a w hm
      have Z:zac st.slots 26=some (.ar g.1):=hk 26 (by simp[tmpsOf,Op.operands,Call.operands]) (.ar g.1) (by subst hS;simp[zac]) (by simp)
      have A:zac st.slots 29=some (.d (.sl [[int n.id]])):=hk 29 (by simp[tmpsOf,Op.operands,Call.operands]) (.d (.sl [[int n.id]])) (by subst hS;simp[zac]) (by simp)
      have O:zac st.own g.1=some (.arr 3 1 (g.2.map λn=>[int n])):=by
       rw[hN.own];subst hS;simp only[uMid,zcc,List.cons_append,List.nil_append,zac,if_neg bn,if_neg b0,if_neg b2,if_neg b3];exact ydu hf M
      have H3:g.2.length<=k:=by
       rw[<-z0j hf,hx.kids n.par];unfold zmh;rw[List.length_map];exact Nat.le_trans (List.length_filter_le _ _) (by rw[List.length_take];exact Nat.min_le_left _ _)
      have B:st.n=46:=by rw[hN.n];subst hS;rfl
      refine zc4 hm ?_
      simp+decide[dop,B,Z,A,O,int,maxLen];exact⟨by omega,by omega⟩
     .refine z2s rfl rfl rfl ?_
      intro X w0 β a w hm;refine zl8 hm rfl rfl (id:=2) (keys:=ze2 L) (cells:=zby g.1 (zbr L)) (n:=n.par) ?_ ?_ ?_ (kt:=3) (et:=31) (by kernel_rfl) ti_3 rfl ?_
      .subst hS;simp[St.val,St.put,St.renew,zav,za2,zac,b2]
      .subst hS;simp only[St.look,St.put,St.renew];rw[zdr];simp[uMid,zcc,zac,a2,b2,zb5]
      .subst hS;simp[St.val,St.put,St.renew,zav,za2,zac,int]
      .have hv:((S.renew g.1 (.arr 3 1 ((g.2++[n.id]).map λn=>[int n]))).put (some 30) (.ar g.1)).val (.tmp 30) = .ar g.1:=by simp[St.val,St.put,zac]
       rw[hv,ydw (x:=n.id) (nx:=nx) hf M];have hh:=z7x (x:=n.id) (nx:=nx) hf;have hU:UInv d (k+1,addU L n.par n.id nx,nx+1):=by
        refine⟨G,by simp only;omega,λi hi=>?_,by simp only;rw[hh.2];exact M,λp=>?_⟩
        .simp only at hi ⊢
         rw[hh.2] at hi;have:=H i hi
         omega
        .simp only
         rw[z7w,hx.kids p,List.take_succ_eq_append_getElem G,en];unfold zmh;rw[List.filter_append,List.map_append];by_cases e:n.par=p
         .simp[e]
         .simp[e]
       refine⟨(addU L n.par n.id nx,nx+1),hU,?_⟩
       refine znf (x:=(k,addU L n.par n.id nx,nx+1)) hU (by subst hS;rfl) (by subst hS;rfl) ?_ ?_ ?_
       .subst hS
        simp only[hh.2,St.put,St.renew,uMid,List.mem_cons];rintro i (rfl | hi)
        .exact T
        .exact hi
       .subst hS
        intro t s hm;simp only[uSt,List.mem_cons,List.not_mem_nil,or_false,Prod.mk.injEq] at hm;rcases hm with⟨rfl,rfl⟩ | ⟨rfl,rfl⟩ | ⟨rfl,rfl⟩ | ⟨rfl,rfl⟩ | ⟨rfl,rfl⟩ | ⟨rfl,rfl⟩ <;> simp[St.put,St.renew,zac,uMid,zav,za2,b0,b2,b3]
       .subst hS
        exact ylv hh.1 hh.2 (z7y hf M) H T h4
    |none=>
     have a1:¬nx=1:=by omega
     have b1:¬1=nx:=by omega
     have b2:¬2=nx:=by omega
     have b3:¬3=nx:=by omega
     have Q:nx+1∉idsU L:=λhm=>by have:=(H _ hm).2;omega
     obtain⟨S,hS⟩:∃ S:St,S = {uMid d id k L nx n with slots:=(20,.mp 2)::(21,.bp nx 2)::(22,.d (int n.par))::(23,.mp 2)::(24,.bp nx 2)::(25,.d (int n.par))::(26,.nils)::(27,.bp nx 0)::(28,.d (int n.id))::(29,.d (.sl [[int n.id]]))::(uMid d id k L nx n).slots}:=⟨_,rfl⟩;have H1:S.next=nx+1:=by subst hS;rfl
     refine zp4 mixed 11 10 S (((S.new (.arr 3 1 [])).renew S.next (.arr 3 1 [[int n.id]])).put (some 30) (.ar S.next)) 30 (.ar S.next) (za2 S.next) (λst=>((st.new (.arr 3 1 [])).renew st.next (.arr 3 1 [[int n.id]])).put (some 30) (.ar st.next)) _ (by rfl) (by rfl) (by rfl) (by rfl) (by rfl) rfl rfl rfl ?_ (ykk S 30 _ _) ?_ ?_ ?_
     .intro X w0 β a w hm
      subst hS;refine⟨rfl,rfl,rfl,rfl,rfl,λt s hs hj hL=>?_⟩
      simp only[zac] at hs;split at hs
      .rename_i e;exact(hL 0 _ (by omega) rfl (congrArg some e)).elim
      split at hs
      .rename_i e;exact(hL 1 _ (by omega) rfl (congrArg some e)).elim
      split at hs
      .rename_i e;exact(hL 2 _ (by omega) rfl (congrArg some e)).elim
      split at hs
      .rename_i e;exact(hL 3 _ (by omega) rfl (congrArg some e)).elim
      split at hs
      .rename_i e;exact(hL 4 _ (by omega) rfl (congrArg some e)).elim
      split at hs
      .rename_i e;exact(hL 5 _ (by omega) rfl (congrArg some e)).elim
      split at hs
      .rename_i e;exact(hL 6 _ (by omega) rfl (congrArg some e)).elim
      split at hs
      .rename_i e;exact(hL 7 _ (by omega) rfl (congrArg some e)).elim
      split at hs
      .rename_i e;exact(hL 8 _ (by omega) rfl (congrArg some e)).elim
      split at hs
      .rename_i e;exact(hL 9 _ (by omega) rfl (congrArg some e)).elim
      exact hs
     .intro i o hi W ho
      have:i=0\/i=1\/i=2\/i=3\/i=4\/i=5\/i=6\/i=7\/i=8\/i=9:=by omega
      rcases this with rfl | rfl | rfl | rfl | rfl | rfl | rfl | rfl | rfl | rfl <;> simp only[List.getElem?_cons_zero,List.getElem?_cons_succ,Option.some.injEq] at ho <;> subst ho
      .refine zbi (s:=.mp 2) rfl rfl (by subst hS;simp[uMid]) (by subst hS;simp[Sym.lo,uMid] <;> omega) ⟨by rfl,?_⟩ (by subst hS;simp[zac]) (.inr ⟨by subst hS;simp[St.put,St.renew,St.new,uMid],by subst hS;simp[St.put,St.renew,St.new,Sym.lo,uMid] <;> omega,⟨by rfl,?_⟩,by subst hS;simp[zac,St.put,St.renew,St.new,zav,za2,uMid,a0,a1,a2,a3,b1,b2,b3]⟩)
       .subst hS;simp+decide[uMid,zcc,zac,St.val,St.look,int,a0,a1,a2,a3,b1,b2,b3]
       .subst hS;simp+decide[uMid,zcc,zac,St.val,St.look,St.put,St.renew,St.new,zbz,zb5,zby,za2,zav,int,a0,a1,a2,a3,b1,b2,b3]
      .refine zbi (s:=.bp nx 2) rfl rfl (by subst hS;simp[uMid]) (by subst hS;simp[Sym.lo,uMid] <;> omega) ⟨by rfl,?_⟩ (by subst hS;simp[zac]) (.inr ⟨by subst hS;simp[St.put,St.renew,St.new,uMid],by subst hS;simp[St.put,St.renew,St.new,Sym.lo,uMid] <;> omega,⟨by rfl,?_⟩,by subst hS;simp[zac,St.put,St.renew,St.new,zav,za2,uMid,a0,a1,a2,a3,b1,b2,b3]⟩)
       .subst hS;simp+decide[uMid,zcc,zac,St.val,St.look,int,a0,a1,a2,a3,b1,b2,b3]
       .subst hS;simp+decide[uMid,zcc,zac,St.val,St.look,St.put,St.renew,St.new,zbz,zb5,zby,za2,zav,int,a0,a1,a2,a3,b1,b2,b3]
      .refine zbi (s:=.d (int n.par)) rfl rfl (by subst hS;simp[uMid]) (by subst hS;simp[Sym.lo,uMid] <;> omega) ⟨by rfl,?_⟩ (by subst hS;simp[zac]) (.inr ⟨by subst hS;simp[St.put,St.renew,St.new,uMid],by subst hS;simp[St.put,St.renew,St.new,Sym.lo,uMid] <;> omega,⟨by rfl,?_⟩,by subst hS;simp[zac,St.put,St.renew,St.new,zav,za2,uMid,a0,a1,a2,a3,b1,b2,b3]⟩)
       .subst hS;simp+decide[uMid,zcc,zac,St.val,St.look,int,a0,a1,a2,a3,b1,b2,b3]
       .subst hS;simp+decide[uMid,zcc,zac,St.val,St.look,St.put,St.renew,St.new,zbz,zb5,zby,za2,zav,int,a0,a1,a2,a3,b1,b2,b3]
      .refine zbi (s:=.mp 2) rfl rfl (by subst hS;simp[uMid]) (by subst hS;simp[Sym.lo,uMid] <;> omega) ⟨by rfl,?_⟩ (by subst hS;simp[zac]) (.inl ⟨5,by rfl⟩)
       subst hS;simp+decide[uMid,zcc,zac,St.val,St.look,int,a0,a1,a2,a3,b1,b2,b3]
      .refine zbi (s:=.bp nx 2) rfl rfl (by subst hS;simp[uMid]) (by subst hS;simp[Sym.lo,uMid] <;> omega) ⟨by rfl,?_⟩ (by subst hS;simp[zac]) (.inl ⟨5,by rfl⟩)
       subst hS;simp+decide[uMid,zcc,zac,St.val,St.look,int,a0,a1,a2,a3,b1,b2,b3]
      .refine zbi (s:=.d (int n.par)) rfl rfl (by subst hS;simp[uMid]) (by subst hS;simp[Sym.lo,uMid] <;> omega) ⟨by rfl,?_⟩ (by subst hS;simp[zac]) (.inl ⟨5,by rfl⟩)
       subst hS;simp+decide[uMid,zcc,zac,St.val,St.look,int,a0,a1,a2,a3,b1,b2,b3]
      .refine⟨rfl,26,.nils,rfl,.inl ⟨5,by rfl⟩,?_,by subst hS;intro s' h1 _;simp[zac] at h1;exact h1.symm⟩
       intro X w0 st β a w hn H0 E hk hm;have V:st.val (.tmp 23) = .mp 2:=by simp only[St.val];rw[hk 23 (by simp[tmpsOf,Op.operands]) (.mp 2) (by subst hS;simp[zac]) (by simp)];rfl
       have Y:st.val (.tmp 25) = .d (.int .i64 n.par):=by simp only[St.val];rw[hk 25 (by simp[tmpsOf,Op.operands]) (.d (int n.par)) (by subst hS;simp[zac]) (by simp)];rfl
       have O:st.look 2=some (.raw (.mq (ze2 L)) (zbr L)):=by simp only[St.look];rw[E];subst hS;simp[uMid,zcc,zac,a2]
       refine zl7 hm rfl (by intro t ht;cases ht;rw[hn];subst hS;simp[uMid]) V O Y (kt:=3) (et:=31) (by kernel_rfl) ti_3 ti_31 rfl rfl rfl (by kernel_rfl) ?_
       rw[zst,hf];rfl
      .refine zbi (s:=.bp nx 0) rfl rfl (by subst hS;simp[uMid]) (by subst hS;simp[Sym.lo,uMid] <;> omega) ⟨by rfl,?_⟩ (by subst hS;simp[zac]) (.inl ⟨5,by rfl⟩)
       subst hS;simp+decide[uMid,zcc,zac,St.val,St.look,int,a0,a1,a2,a3,b1,b2,b3]
      .refine zbi (s:=.d (int n.id)) rfl rfl (by subst hS;simp[uMid]) (by subst hS;simp[Sym.lo,uMid] <;> omega) ⟨by rfl,?_⟩ (by subst hS;simp[zac]) (.inl ⟨5,by rfl⟩)
       subst hS;simp+decide[uMid,zcc,zac,St.val,St.look,int,a0,a1,a2,a3,b1,b2,b3]
      .refine zbi (s:=.d (.sl [[int n.id]])) rfl rfl (by subst hS;simp[uMid]) (by subst hS;simp[Sym.lo,uMid] <;> omega) ⟨by rfl,?_⟩ (by subst hS;simp[zac]) (.inl ⟨5,by rfl⟩)
       subst hS;simp+decide[uMid,zcc,zac,St.val,St.look,int,a0,a1,a2,a3,b1,b2,b3]
     .intro X w0 L' st hN hk β a w hm
      have Z:zac st.slots 26=some .nils:=hk 26 (by simp[tmpsOf,Op.operands,Call.operands]) .nils (by subst hS;simp[zac]) (by simp)
      have A:zac st.slots 29=some (.d (.sl [[int n.id]])):=hk 29 (by simp[tmpsOf,Op.operands,Call.operands]) (.d (.sl [[int n.id]])) (by subst hS;simp[zac]) (by simp)
      have B:st.n=46:=by rw[hN.n];subst hS;rfl
      refine zc4 hm ?_
      simp+decide[dop,B,Z,A,int,maxLen]
     .refine z2s rfl rfl rfl ?_
      intro X w0 β a w hm;refine zl8 hm rfl rfl (id:=2) (keys:=ze2 L) (cells:=zby (nx+1) (zbr L)) (n:=n.par) ?_ ?_ ?_ (kt:=3) (et:=31) (by kernel_rfl) ti_3 rfl ?_
      .subst hS;simp[St.val,St.put,St.renew,St.new,zav,za2,zac,uMid,a1,b1]
      .subst hS;simp only[St.look,St.put,St.renew,St.new];rw[zdr];simp[uMid,zcc,zac,a1,a2,b1,b2,zb5]
      .subst hS;simp[St.val,St.put,St.renew,St.new,zav,za2,zac,int]
      .have hv:(((S.new (.arr 3 1 [])).renew S.next (.arr 3 1 [[int n.id]])).put (some 30) (.ar S.next)).val (.tmp 30) = .ar (nx+1):=by simp[St.val,St.put,zac,H1]
       rw[hv,zqh Q,z7z hf];have C:=zry (x:=n.id) (nx:=nx+1) hf;have K:idsU (addU L n.par n.id (nx+1))=idsU L++[nx+1]:=by rw[C];simp[idsU]
       have hU:UInv d (k+1,addU L n.par n.id (nx+1),nx+2):=by
        refine⟨G,by simp only;omega,λi hi=>?_,?_,λp=>?_⟩
        .simp only at hi ⊢
         rw[K,List.mem_append,List.mem_singleton] at hi;rcases hi with hi | rfl
         .have:=H i hi;omega
         .omega
        .simp only
         rw[K,List.nodup_append];refine⟨M,by simp,λa ha b hb e=>?_⟩
         rw[List.mem_singleton] at hb;subst hb;subst e;exact Q ha
        .simp only
         rw[z7w,hx.kids p,List.take_succ_eq_append_getElem G,en];unfold zmh;rw[List.filter_append,List.map_append];by_cases e:n.par=p
         .simp[e]
         .simp[e]
       refine⟨(addU L n.par n.id (nx+1),nx+2),hU,?_⟩
       refine znf (x:=(k,addU L n.par n.id (nx+1),nx+2)) hU (by subst hS;rfl) (by subst hS;rfl) ?_ ?_ ?_
       .subst hS
        simp only[K,St.put,St.renew,St.new,uMid,List.mem_cons,List.mem_append,List.not_mem_nil,or_false];rintro i (rfl | hi)
        .exact .inr rfl
        .exact .inl hi
       .subst hS
        intro t s hm;simp only[uSt,List.mem_cons,List.not_mem_nil,or_false,Prod.mk.injEq] at hm;rcases hm with⟨rfl,rfl⟩ | ⟨rfl,rfl⟩ | ⟨rfl,rfl⟩ | ⟨rfl,rfl⟩ | ⟨rfl,rfl⟩ | ⟨rfl,rfl⟩ <;> simp[St.put,St.renew,St.new,zac,uMid,zav,za2,a1,a2,b1,b2,b3]
       .subst hS
        exact yih hf H h4
  .intro y hy
   refine zas mixed ?_
   simp+decide[uSt,int,I64,-Weak];refine⟨⟨by omega,by omega⟩,x.1+1,y.1,y.2,hy,by omega,?_⟩
   refine znf (x:=(x.1+1,y)) hy rfl rfl (λ_ h=>h) ?_ (λ_ _ h=>h)
   intro t s hm;simp only[uSt,List.mem_cons,List.not_mem_nil,or_false,Prod.mk.injEq] at hm;rcases hm with⟨rfl,rfl⟩ | ⟨rfl,rfl⟩ | ⟨rfl,rfl⟩ | ⟨rfl,rfl⟩ | ⟨rfl,rfl⟩ | ⟨rfl,rfl⟩ <;> simp[zac,int]
 .intro x hx
  refine z4g (m:=x.1) hx.1 ?_
  have hC:=J x.2.1 (λp=>by rw[hx.1.kids p,hx.2,List.take_length])
  generalize x.2.1=L at hC;refine zl5 mixed 4 {n:=46,next:=7,slots:=[(1,.d (int id)),(10,.bp 5 0),(11,.bp 6 0)],own:=[(3,.box 182 [.d (.mp (zxw L))]),(5,.box 31 [.nils]),(6,.box 183 [.fn 115 [.bp 3 0,.bp 5 0,.bp 6 0]])],moved:=idsU L} rfl ?_ ?_
  .simp+decide[zij,uEnd,int,-Weak]
   refine zai.pure (by rfl) hG (by simp[docD,Dc.row]) ?_
   simp+decide[getD',Nt.row,int]
  simp only[zik];refine zx0 (id:=5) (e:=3) (sz:=1) rfl ?_
  refine zas mixed ?_
  have I:=hC [] (by rw[List.nil_append];omega)
  rw[List.nil_append] at I;generalize colN d.notes f id=R at *;simp+decide[int];refine zai.mut [3,5,6,7] [.d (int id),.bp 0 0,.bp 1 0,.bp 2 0] (zfo L []) (by rfl) (by simp[int]) (by simp[Sym.los,Sym.lo]) (by simp[zfo,int];rfl) I ?_
  simp+decide[int,zfo];refine zai.ypj (by rfl) hS ?_
  simp+decide[int]
end Go.V.Doc
namespace Go.V
open Go Go.Proofs
theorem take_snoc{α:Type}{l:List α}{k:Nat}(h:k<l.length):l.take (k+1)=l.take k++[l[k]]:=by
 rw[List.take_add_one,List.getElem?_eq_getElem h];rfl
theorem yd3(l:List Int)(x:Int)(G:l.length<2^62):zan Tryz.prog 260 [ints l,int x] (.bool (decide (x∈l))):=by
 refine zab mixed Tryz.func260 rfl c_260 ?_
 simp[Tryz.f260,ints,int]
 refine zae mixed (λk:Nat=>{n:=18,next:=0,slots:=[(0,.d (ints l)),(1,.d (int x)),(7,.d (.int .i64 l.length)),(8,.d (.int .i64 k))],own:=[]})
  (λk=>k<=l.length/\x∉l.take k) (λk=>l.length-k) 0 (by simp) (by simp[ints,int]) ?_
 intro k ⟨F,E⟩
 by_cases H:k<l.length
 .have e1:l[k]?=some l[k]:=List.getElem?_eq_getElem H
  simp+decide[ints,int,e1,H,I64];refine⟨λh=>?_,λh=>⟨by omega,k+1,⟨H,?_⟩,by omega,by omega⟩⟩
  .rw[<-h];exact List.getElem_mem H
  .rw[take_snoc H,List.mem_append,not_or];exact⟨E,by simpa using λe=>h e.symm⟩
 .have:k=l.length:=by omega
  subst this;simp+decide[ints,int];simpa using E
theorem yij(a b:List Int)(F:b.length<2^62):zan Tryz.prog 171 [ints a,ints b] (.bool (decide (a=b))):=by
 refine zab mixed Tryz.func171 rfl c_171 ?_
 simp[Tryz.f171,ints]
 refine⟨λh e=>h (by rw[e]),λh=>?_⟩
 refine zae mixed (λk:Nat=>{n:=26,next:=0,slots:=[(0,.d (ints a)),(1,.d (ints b)),(12,.d (.int .i64 a.length)),(13,.d (.int .i64 k))],own:=[]})
  (λk=>k<=a.length/\a.take k=b.take k) (λk=>a.length-k) 0 (by simp) (by simp[ints]) ?_
 intro k ⟨E,K⟩
 have h:a.length=b.length:=by omega
 by_cases G:k<a.length
 .have e1:a[k]?=some a[k]:=List.getElem?_eq_getElem G
  have e2:b[k]?=some (b[k]'(by omega)):=List.getElem?_eq_getElem (by omega)
  have H:k<b.length:=by omega
  simp+decide[ints,e1,e2,G,H,I64];refine⟨λhne e=>hne (by subst e;rfl),λhe=>⟨by omega,k+1,⟨G,?_⟩,by omega,by omega⟩⟩
  rw[take_snoc G,take_snoc H,K,he]
 .have:k=a.length:=by omega
  subst this;simp+decide[ints];rw[List.take_length,h,List.take_length] at K;exact K
def zgj(inv:List Phon)(n:Int):Bool:=decide (1<=n)&&decide (n<=inv.length)
theorem zr0(inv:List Phon)(n:Int):zan Tryz.prog 197 [.agg [invD inv],int n] (.bool (zgj inv n)):=by
 refine zab mixed Tryz.func197 rfl c_197 ?_
 simp[Tryz.f197,invD,int,zgj]
 omega
theorem yaj(inv:List Phon)(n:Int):zan Tryz.prog 284 [.agg [invD inv],int n] (.bool (zgj inv n)):=by
 refine zab mixed Tryz.func284 rfl c_284 ?_
 simp[Tryz.f284,invD,int,zgj]
 omega
def cmpI(a b:Int):Int:=if a<b then -1 else if b<a then 1 else 0
def zeb(l:List Ent)(id:Int):Int:=match l.findIdx? (·.id=id) with
 |some k=>k
 |none=>-1
theorem zsz{l:List Ent}{id:Int}{k:Nat}(h:k<l.length)(H:∀ e∈l.take k,e.id≠id)(G:l[k].id=id):l.findIdx? (·.id=id)=some k:=by
 rw[List.findIdx?_eq_some_iff_getElem]
 refine⟨h,by simpa using G,λj hj=>?_⟩
 have:=H l[j] (by rw[List.mem_take_iff_getElem];exact⟨j,by omega,rfl⟩)
 simpa using this
theorem zo7{l:List Ent}{id:Int}(H:∀ e∈l,e.id≠id):l.findIdx? (·.id=id)=none:=by
 rw[List.findIdx?_eq_none_iff];intro e G;simpa using H e G
theorem znh{α:Type}{p:α->Prop}{l:List α}{k:Nat}(h:k<l.length)(H:∀ e∈l.take k,p e)(G:p l[k]):∀ e∈l.take (k+1),p e:=by
 rw[take_snoc h]
 intro e F
 rcases List.mem_append.1 F with F | F
 .exact H e F
 .simp at F;rw[F];exact G
theorem zni(l:List Ent)(id:Int)(G:l.length<2^62):zan Tryz.prog 110 [lexD l,int id] (int (zeb l id)):=by
 refine zab mixed Tryz.func110 rfl c_110 ?_
 simp[Tryz.f110,lexD,int]
 refine zae mixed (λk:Nat=>{n:=20,next:=0,slots:=[(0,.d (lexD l)),(1,.d (int id)),(5,.d (.int .i64 k))],own:=[]})
  (λk=>k<=l.length/\∀ e∈l.take k,e.id≠id) (λk=>l.length-k) 0 (by simp) (by simp[lexD,int]) ?_
 intro k ⟨F,E⟩
 by_cases H:k<l.length
 .have e1:l[k]?=some l[k]:=List.getElem?_eq_getElem H
  simp+decide[lexD,Ent.row,int,e1,H,I64];refine⟨λh=>?_,λh=>⟨by omega,k+1,⟨H,znh H E h⟩,by omega,by omega⟩⟩
  simp[zeb,zsz H E h]
 .have:k=l.length:=by omega
  subst this;simp+decide[lexD,int];simp[zeb,zo7 (by simpa using E)]
theorem zs3(l:List Ent)(id:Int)(G:l.length<2^62):zan Tryz.prog 152 [lexD l,int id] (int (zeb l id)):=by
 refine zab mixed Tryz.func152 rfl c_152 ?_
 simp[Tryz.f152,lexD,int]
 refine zae mixed (λk:Nat=>{n:=20,next:=0,slots:=[(0,.d (lexD l)),(1,.d (int id)),(5,.d (.int .i64 k))],own:=[]})
  (λk=>k<=l.length/\∀ e∈l.take k,e.id≠id) (λk=>l.length-k) 0 (by simp) (by simp[lexD,int]) ?_
 intro k ⟨F,E⟩
 by_cases H:k<l.length
 .have e1:l[k]?=some l[k]:=List.getElem?_eq_getElem H
  simp+decide[lexD,Ent.row,int,e1,H,I64];refine⟨λh=>?_,λh=>⟨by omega,k+1,⟨H,znh H E h⟩,by omega,by omega⟩⟩
  simp[zeb,zsz H E h]
 .have:k=l.length:=by omega
  subst this;simp+decide[lexD,int];simp[zeb,zo7 (by simpa using E)]
def zlj(inv:List Phon)(n:Int)(c:Cls):Bool:=zgj inv n&&(match inv[n.toNat-1]? with
 |some p=>decide (c.value=zjn .and .i64 p.feat c.mask)
 |none=>false)
theorem ypb(inv:List Phon)(n:Int)(c:Cls)(F:inv.length<2^62):zan Tryz.prog 291 [.agg [invD inv],int n,.agg c.row] (.bool (zlj inv n c)):=by
 refine zab mixed Tryz.func291 rfl c_291 ?_
 simp+decide[Tryz.f291,int,Cls.row]
 refine zaa (by rfl) (by rfl) (yaj inv n) (by simp) ?_
 by_cases hs:zgj inv n=true
 .have G:=hs
  simp only[zgj,Bool.and_eq_true,decide_eq_true_eq] at G;have H:n.toNat-1<inv.length:=by omega
  have e1:inv[n.toNat-1]?=some inv[n.toNat-1]:=List.getElem?_eq_getElem H
  have e2:¬n<1:=by omega
  simp+decide[invD,hs,H,e1,Phon.row,int,I64,zlj];omega
 .simp+decide[hs,zlj]
def Ent.zero:Ent:=⟨0,[],0,[],0,[],[],[]⟩
def getE(l:List Ent)(id:Int):Ent×Bool:=match l.find? (·.id=id) with
 |some e=>(e,true)
 |none=>(Ent.zero,false)
theorem yik{l:List Ent}{id:Int}{k:Nat}(h:k<l.length)(H:∀ e∈l.take k,e.id≠id)(G:l[k].id=id):l.find? (·.id=id)=some l[k]:=by
 rw[List.find?_eq_some_iff_getElem]
 refine⟨by simpa using G,k,h,rfl,λj hj=>?_⟩
 have:=H l[j] (by rw[List.mem_take_iff_getElem];exact⟨j,by omega,rfl⟩)
 simpa using this
theorem yd4{l:List Ent}{id:Int}(H:∀ e∈l,e.id≠id):l.find? (·.id=id)=none:=by
 rw[List.find?_eq_none];intro e G;simpa using H e G
theorem znj(l:List Ent)(id:Int)(G:l.length<2^62):zan Tryz.prog 47 [lexD l,int id] (.tup [.agg (getE l id).1.row,.bool (getE l id).2]):=by
 refine zab mixed Tryz.func47 rfl c_47 ?_
 simp[Tryz.f47,lexD,int,Value.oneCell']
 refine zae mixed (λk:Nat=>{n:=25,next:=1,slots:=[(0,.d (lexD l)),(1,.d (int id)),(4,.bp 0 0),(8,.d (.int .i64 l.length)),(9,.d (.int .i64 k))],own:=[(0,.box 102 [.d (int 0),.nils,.d (int 0),.nils,.d (int 0),.nils,.nils,.nils])]})
  (λk=>k<=l.length/\∀ e∈l.take k,e.id≠id) (λk=>l.length-k) 0 (by simp) (by simp[lexD,int]) ?_
 intro k ⟨F,E⟩
 by_cases H:k<l.length
 .have e1:l[k]?=some l[k]:=List.getElem?_eq_getElem H
  simp+decide[lexD,Ent.row,int,e1,H,I64];refine⟨λh=>?_,λh=>⟨by omega,k+1,⟨H,znh H E h⟩,by omega,by omega⟩⟩
  simp[getE,yik H E h,int]
 .have:k=l.length:=by omega
  subst this;simp+decide[lexD,int];simp[getE,yd4 (by simpa using E),Ent.zero,Ent.row,int,ints,zcb,zbv,lnkD,rfD]
def yil(l:List Rule):Bool:=l.any λr=>decide (0∈r.dst)
def Ent.forms(e:Ent):List (List Int):=e.form::e.alts
end Go.V

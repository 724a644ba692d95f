/- Contracts and plain laws of this seat: part MC. It needs no conditions. -/
import Derived.Test.YtknekjalbninmaaGreatMB
import Derived.Test.YtknekjalbninmaaGreatMA
import Derived.Test.YtknekjalbninmaaGreatW1
import Derived.Test.YtknekjalbninmaaGreatW3
import Derived.Test.YtknekjalbninmaaGreatS1
import Derived.Test.YtknekjalbninmaaGreatSn
set_option maxHeartbeats 32000000
set_option linter.unusedVariables false
set_option linter.unusedSimpArgs false
set_option linter.unusedSectionVars false
set_option maxRecDepth 100000
namespace Go.V.Doc
open Go Go.Proofs Go.Sort Go.RowKit
theorem K9(l:List Nt):PermIn 0 l.length l.toArray (xr l).toArray/\SortedIn xE 0 l.length (xr l).toArray:=by
 have:=insertionSort_holds DO l.toArray 0 l.length (Nat.zero_le _) (by simp)
 rw[DK] at this
 exact this
theorem Xm(l:List Nt):(xr l).length=l.length:=by
 have:=(K9 l).1.1
 simpa using this
theorem ZR(l:List Nt):(xr l).Perm l:=by
 obtain⟨H,_,G⟩:=(K9 l).1
 have F:=Xm l
 have e1:(xr l).toArray.extract 0 l.length=(xr l).toArray:=by rw[show l.length=(xr l).toArray.size by simp[F]];simp
 have e2:l.toArray.extract 0 l.length=l.toArray:=by rw[show l.length=l.toArray.size by simp];simp
 rw[e1,e2] at G
 simpa using G
theorem RZ(l:List Nt):(xr l).Pairwise λa b=>xE b a=false:=by
 have hs:=(K9 l).2
 have G:=Xm l
 rw[List.pairwise_iff_getElem]
 intro i j hi F H
 have:=hs i j (Nat.zero_le _) H (by omega)
 simpa[getElem!_pos,hi,F] using this
theorem S0(l:List Nt)(H:l.length<2^62):
  zA Tryz.prog 172 [.ar 0,.d (int 0),.d (int l.length),.fn 113 []] [(0,.arr 72 7 (l.map Nt.row))] 1 (.d (.tup [])) 1 [(0,.arr 72 7 ((xr l).map Nt.row))] []:=by
 cases l with
 |nil=>
  have:xr []=[]:=List.eq_nil_of_length_eq_zero (Xm [])
  rw[this];exact(zA.unit Rb)
 |cons a r=>exact DL 72 (a::r) (by simp) (by omega) (Xm _)
theorem S4(l:List Nt)(F:l.length<20):
  zA Tryz.prog 165 [.ar 0,.d (int l.length),.fn 113 []] [(0,.arr 72 7 (l.map Nt.row))] 1 (.d (.tup [])) 1 [(0,.arr 72 7 ((xr l).map Nt.row))] []:=by
 refine zA.unit (xA mixed Tryz.func165 rfl c_165 (by simp[Sym.los,Sym.lo]) ?_)
 have G:¬(20:Int)<=l.length:=by omega
 have H:¬(20:Int)<l.length:=by omega
 simp+decide[Tryz.f165,int]
 refine zm mixed (λ_:Unit=>{n:=63,next:=1,slots:=[(0,.ar 0),(1,.d (int l.length)),(2,.fn 113 []),(6,.d (int 20)),(7,.d (int 0)),(8,.d (int 20))],own:=[(0,.arr 72 7 (l.map Nt.row))],base:=1})
  (λ_=>True) (λ_=>0) () trivial (by simp+decide[int]) ?_
 intro _ _
 simp+decide[int,G]
 refine zC.mut [0] [.ar 0,.d (int 0),.d (int l.length),.fn 113 []] [(0,.arr 72 7 (l.map Nt.row))] (by rfl) (by simp[int]) (by simp) (by simp) (S0 l (by omega)) ?_
 simp+decide
 refine zm mixed (λ_:Unit=>{n:=63,next:=1,slots:=[(1,.d (int l.length)),(6,.d (int 20))],own:=[(0,.arr 72 7 ((xr l).map Nt.row))],base:=1})
  (λ_=>True) (λ_=>0) () trivial (by simp+decide[int]) ?_
 intro _ _
 simp+decide[int,H]
theorem S5(l:List Nt)(H:l.length<20):
  zA Tryz.prog 112 [.ar 0,.fn 113 []] [(0,.arr 72 7 (l.map Nt.row))] 1 (.d (.tup [])) 1 [(0,.arr 72 7 ((xr l).map Nt.row))] []:=by
 refine zA.unit (xA mixed Tryz.func112 rfl c_112 (by simp[Sym.los,Sym.lo]) ?_)
 simp+decide[Tryz.f112]
 refine zC.mut [0] [.ar 0,.d (int l.length),.fn 113 []] [(0,.arr 72 7 (l.map Nt.row))] (by rfl) (by simp[int]) (by simp) (by simp) (S4 l H) ?_
 simp+decide
def ym(d:Dc)(id t:Int)(n:Nt):Bool:=decide (n.tier=t)&&decide (n.par=id)&&decide (0<=t)&&decide (t<d.tiers.length)
def qk(d:Dc)(id t:Int):List Nt:=xr (d.notes.filter (ym d id t))
def yj(l:List Nt):List Int:=l.map (·.id)
theorem S7(d:Dc)(id t:Int)(L:d.notes.length<2^40)(K:(d.notes.filter (ym d id t)).length<20):
  ua Tryz.prog 53 [zq d,int id,int t] 3 1 ((yj (qk d id t)).map λn=>[int n]):=by
 refine Jm mixed Tryz.func53 rfl c_53 (by simp) ?_
 simp+decide[Tryz.f53,zq,Dc.row,int,ints,zw,zl]
 refine zm mixed (λk:Nat=>{n:=61,next:=3,slots:=[(1,.d (int id)),(2,.d (int t)),(3,.bp 0 0),(7,.ar 2),(14,.d (zl d.notes)),(15,.d (.int .i64 d.notes.length)),(16,.d (.int .i64 k))],own:=[(0,.box 53 (zW d)),(2,.arr 72 7 (((d.notes.take k).filter (ym d id t)).map Nt.row))],moved:=[2]})
  (λk=>k<=d.notes.length) (λk=>d.notes.length-k) 0 (by simp) (by simp+decide[int,ints,zw,zl]) ?_
 intro k M
 by_cases H:k<d.notes.length
 .have G:(k:Int)<d.notes.length:=by omega
  have e1:d.notes[k]?=some d.notes[k]:=List.getElem?_eq_getElem H
  have hsn:(d.notes.take (k+1)).filter (ym d id t)=(d.notes.take k).filter (ym d id t)++(if ym d id t d.notes[k]=true then [d.notes[k]] else []):=by
   rw[take_snoc' H,List.filter_append];by_cases h:ym d id t d.notes[k]=true <;> simp[h]
  have F:((d.notes.take k).filter (ym d id t)).length<=k:=Nat.le_trans (List.length_filter_le _ _) (by rw[List.length_take];omega)
  have no:ym d id t d.notes[k]=false->(d.notes.take (k+1)).filter (ym d id t)=(d.notes.take k).filter (ym d id t):=by
   intro h;rw[hsn,if_neg (by simp[h]),List.append_nil]
  by_cases O:d.notes[k].tier=t
  case neg=>
   have:=no (by simp[ym,O])
   simp+decide[zl,Nt.row,int,H,G,I64,O];exact⟨⟨by omega,by omega⟩,k+1,H,by omega,by omega,by rw[this]⟩
  by_cases h2:d.notes[k].par=id
  case neg=>
   have:=no (by simp[ym,h2])
   simp+decide[zl,Nt.row,int,H,G,I64,O,h2];exact⟨⟨by omega,by omega⟩,k+1,H,by omega,by omega,by rw[this]⟩
  by_cases Q:0<=t
  case neg=>
   have:=no (by simp[ym,Q])
   simp+decide[zl,Nt.row,int,H,G,I64,O,h2,Q];exact⟨⟨by omega,by omega⟩,k+1,H,by omega,by omega,by rw[this]⟩
  by_cases T:t<d.tiers.length
  case neg=>
   have:=no (by simp[ym,T])
   simp+decide[zl,zw,Nt.row,int,H,G,I64,O,h2,Q,T];exact⟨⟨by omega,by omega⟩,k+1,H,by omega,by omega,by rw[this]⟩
  have V:ym d id t d.notes[k]=true:=by simp[ym,O,h2,Q,T]
  rw[if_pos V] at hsn;simp+decide[zl,zw,Nt.row,int,H,G,I64,O,h2,Q,T];exact⟨by omega,by unfold maxLen;omega,⟨by omega,by omega⟩,k+1,H,by omega,by omega,by rw[hsn];simp[Nt.row,int,O,h2]⟩
 .have:k=d.notes.length:=by omega
  subst this;rw[List.take_length];have E:(d.notes.filter (ym d id t)).length<=d.notes.length:=List.length_filter_le _ _
  simp+decide[int];refine zC.mut [2] [.ar 0,.fn 113 []] [(0,.arr 72 7 ((d.notes.filter (ym d id t)).map Nt.row))] (by rfl) (by simp) (by simp) (by simp) (S5 _ (by omega)) ?_
  have J:=Xm (d.notes.filter (ym d id t));unfold qk;rw[<-J] at E;generalize xr (d.notes.filter (ym d id t))=s at E ⊢;simp+decide[int];refine zm mixed (λk:Nat=>{n:=61,next:=4,slots:=[(10,.ar 3),(48,.ar 2),(49,.d (.int .i64 s.length)),(50,.d (.int .i64 k))],own:=[(2,.arr 72 7 (s.map Nt.row)),(3,.arr 3 1 ((yj (s.take k)).map λn=>[int n]))],moved:=[3,2]})
   (λk=>k<=s.length) (λk=>s.length-k) 0 (by simp) (by simp+decide[int,yj]) ?_
  intro k M;by_cases H:k<s.length
  .have G:(k:Int)<s.length:=by omega
   have e1:s[k]?=some s[k]:=List.getElem?_eq_getElem H
   have hsn:yj (s.take (k+1))=yj (s.take k)++[s[k].id]:=by unfold yj;rw[take_snoc' H,List.map_append];rfl
   have F:(yj (s.take k)).length<=k:=by unfold yj;rw[List.length_map,List.length_take];omega
   simp+decide[Nt.row,int,H,G,I64];exact⟨by omega,by unfold maxLen;omega,⟨by omega,by omega⟩,k+1,H,by omega,by omega,by rw[hsn];simp⟩
  .have:k=s.length:=by omega
   subst this;rw[List.take_length];simp+decide[int]
theorem Vg:∀ l:List Int,D.scalars ((l.map λn=>[int n]).flatten)=true
 | []=>rfl
 |n::r=>by simp only[List.map_cons,List.flatten_cons,List.cons_append,List.nil_append,D.scalars,Vg r];rfl
theorem S8(d:Dc)(id t:Int)(G:d.notes.length<2^40)(H:(d.notes.filter (ym d id t)).length<20):wj Tryz.prog 53 [zq d,int id,int t] (ints (yj (qk d id t))):=
 UY (S7 d id t G H) (Vg _)
structure Fw(d:Dc):Prop where
 n:d.notes.length<2^40
 k:∀ id t,(d.notes.filter (ym d id t)).length<20
theorem CL{d:Dc}(H:d.notes.length<20):Fw d:=⟨by omega,λ_ _=>Nat.lt_of_le_of_lt (List.length_filter_le _ _) H⟩
theorem Ko(d:Dc)(id t:Int)(h:Fw d):wj Tryz.prog 53 [zq d,int id,int t] (ints (yj (qk d id t))):=S8 d id t h.n (h.k id t)
end Go.V.Doc
namespace Go.V.Doc
open Go Go.Proofs
section
variable {d:Dc}
theorem Vh(d:Dc){t:Nat}(h:t<d.tiers.length):zx d (t:Int)=d.tiers[t]:=by unfold zx;rw[Int.toNat_natCast,List.getElem?_eq_getElem h];rfl
theorem Rgt.up(h:Rgt d){t:Nat}(H:t<d.tiers.length)(G:(zx d t).kind≠0):0<=(zx d t).par/\(zx d t).par.toNat<t:=by
 rw[Vh d H] at G ⊢
 have:=Ce (h.good.tiers t H) G
 rw[List.length_take] at this
 omega
def inT(d:Dc)(t:Nat)(n:Nt):Prop:=n∈d.notes/\n.tier=t
theorem Kp{t:Nat}{n:Nt}:n∈yb d.notes t↔inT d t n:=by
 unfold yb inT
 rw[List.mem_filter,decide_eq_true_eq]
def Xn(d:Dc)(n:Nt):Nt:=(zi d.notes n.par).1
theorem Rgt.parent(h:Rgt d){t:Nat}{n:Nt}(H:inT d t n)(G:t<d.tiers.length)(F:(zx d t).kind≠0):inT d (zx d t).par.toNat (Xn d n)/\(Xn d n).id=n.par:=by
 have E:=(Xi (Xh h.good H.1).place).2.1
 rw[H.2] at E
 obtain⟨K,h2⟩:=E F
 have J:=jH K
 have L:=h.up G F
 exact⟨⟨J.1,by rw[Xn,h2];omega⟩,J.2⟩
theorem Rgt.root(h:Rgt d){t:Nat}{n:Nt}(H:inT d t n)(G:(zx d t).kind=0):n.par=0:=by
 have F:=(Xi (Xh h.good H.1).place).1
 rw[H.2] at F
 exact F G
def CM(d:Dc)(t:Nat):List Nt:=
 if (zx d t).kind=0 then qk d 0 t else if h:(zx d t).par.toNat<t then (CM d (zx d t).par.toNat).flatMap λp=>qk d p.id t else []
termination_by t
end
end Go.V.Doc
namespace Go.V.Doc
open Go Go.Proofs
theorem Kq{α:Type}{l:List α}{k:Nat}(h:k<l.length):l.take (k+1)=l.take k++[l[k]]:=by
 rw[List.take_add_one,List.getElem?_eq_getElem h];rfl
def Z9{α:Type}(p:α->Bool)(l:List α):Int:=match l.findIdx? p with
 |some k=>k
 |none=>-1
theorem CN{α:Type}{p:α->Bool}{l:List α}{k:Nat}(h:k<l.length)(H:∀ e∈l.take k,p e=false)(G:p l[k]=true):l.findIdx? p=some k:=by
 rw[List.findIdx?_eq_some_iff_getElem]
 refine⟨h,G,λj hj=>?_⟩
 have:=H l[j] (by rw[List.mem_take_iff_getElem];exact⟨j,by omega,rfl⟩)
 simpa using this
theorem S9{α:Type}{p:α->Bool}{l:List α}(H:∀ e∈l,p e=false):l.findIdx? p=none:=by
 rw[List.findIdx?_eq_none_iff];exact H
def zy(l:List Tir)(role:Int):Int:=if role=0 then -1 else Z9 (λt=>decide (t.role=role)) l
theorem Kr(l:List Tir)(role:Int)(G:l.length<2^62):zj Tryz.prog 111 [zw l,int role] (int (zy l role)):=by
 refine zn mixed Tryz.func111 rfl c_111 ?_
 simp+decide[Tryz.f111,zw,int]
 refine zm mixed (λk:Nat=>{n:=24,next:=0,slots:=[(1,.d (int role)),(7,.d (zw l)),(8,.d (.int .i64 l.length)),(9,.d (.int .i64 k))],own:=[]})
  (λk=>k<=l.length/\(role≠0->∀ t∈l.take k,decide (t.role=role)=false)) (λk=>l.length-k) 0 (by simp) (by simp+decide[zw,int]) ?_
 intro k ⟨F,E⟩
 by_cases H:k<l.length
 .have e1:l[k]?=some l[k]:=List.getElem?_eq_getElem H
  by_cases K:role=0
  .subst K
   simp+decide[zw,Tir.row,int,H,I64];exact⟨by omega,k+1,H,by omega,by omega⟩
  .by_cases J:l[k].role=role
   .have L:zy l role=k:=by
     unfold zy Z9;rw[if_neg K,CN H (E K) (by simp[J])]
    simp+decide[zw,Tir.row,int,H,K,J,L]
   .simp+decide[zw,Tir.row,int,H,I64,K,J]
    refine⟨by omega,k+1,⟨H,λt M=>?_⟩,by omega,by omega⟩
    rw[Kq H] at M;rcases List.mem_append.1 M with h | h
    .simpa using E K t h
    .rw[List.mem_singleton] at h;rw[h];exact J
 .have:k=l.length:=by omega
  subst this;rw[List.take_length] at E;have L:zy l role = -1:=by
   unfold zy Z9;by_cases K:role=0
   .rw[if_pos K]
   .rw[if_neg K,S9 (E K)]
  simp+decide[zw,int,L]
theorem Si{P:Program}(F:P.follows .mixedOrders=true){id:Nat}{ops:List Oper}{st:St}{Q:DE->St->Prop}(H:ops≠[])(K:yv ops=true)(E:qC ops (ops.length-1)=true)(L:(ops.getLast H).guard=none)
  (G:(st.own.map (·.1)).Nodup) (h:YE P ops st.next (ops.getLast H) ops.dropLast st (Q .normal)):Triple P (.region id ops.toArray true) Q st:=by
 obtain⟨pre,o,rfl⟩:∃ pre o,ops=pre++[o]:=⟨ops.dropLast,ops.getLast H,(List.dropLast_concat_getLast H).symm⟩
 have J:(pre++[o]).getLast H=o:=by simp
 rw[J] at L h
 rw[List.dropLast_concat] at h
 refine zfy F K ?_ L G h
 simpa using E
def wQ(d:Dc):D:=.agg [int (zy d.tiers 2),int (zy d.tiers 3),int (zy d.tiers 4)]
theorem Xo(d:Dc)(H:d.tiers.length<2^62):zj Tryz.prog 52 [zq d] (wQ d):=by
 refine zn mixed Tryz.func52 rfl c_52 ?_
 have h2:=Kr d.tiers 2 H
 have G:=Kr d.tiers 3 H
 have F:=Kr d.tiers 4 H
 simp+decide[Tryz.f52,zq,Dc.row,int]
 refine Si mixed (by simp) (by rfl) (by rfl) (by rfl) (by simp) ?_
 simp+decide
 refine scp h2 ?_
 simp+decide[int]
 refine scp G ?_
 simp+decide[int]
 refine scp F ?_
 simp+decide[int,wQ]
def xh(d:Dc):Bool:=decide (0<=zy d.tiers 2)&&(decide (0<=zy d.tiers 3)&&decide (0<=zy d.tiers 4))
theorem Vi(d:Dc)(H:d.tiers.length<2^62):zj Tryz.prog 20 [zq d] (.bool (xh d)):=by
 refine zn mixed Tryz.func20 rfl c_20 ?_
 have h:=Xo d H
 unfold xh
 simp+decide[Tryz.f20,zq,Dc.row,int]
 refine zg h ?_
 by_cases c2:0<=zy d.tiers 2
 .by_cases c3:0<=zy d.tiers 3
  .by_cases c4:0<=zy d.tiers 4
   .simp+decide[wQ,int,c2,c3,c4]
   .simp+decide[wQ,int,c2,c3,c4]
  .simp+decide[wQ,int,c2,c3]
 .simp+decide[wQ,int,c2]
def yT(d:Dc)(id:Int):Bool:=(zi d.notes id).2&&decide ((zi d.notes id).1.tier=zy d.tiers 2)
theorem Ks(d:Dc)(id:Int)(H:d.notes.length<2^62)(G:d.tiers.length<2^62):zj Tryz.prog 51 [zq d,int id] (.tup [.agg (zi d.notes id).1.row,.bool (yT d id)]):=by
 refine zn mixed Tryz.func51 rfl c_51 ?_
 have h:=ZM d id H
 have h2:=Xo d G
 unfold yT
 simp+decide[Tryz.f51,zq,Dc.row,int]
 refine zg h ?_
 generalize zi d.notes id=r
 obtain⟨n,ok⟩:=r
 cases ok with
 |false=>
  simp+decide[getD',Nt.row,int];refine G7 mixed 10 [1] (by rfl) (by rfl) (by rfl) (by rfl) (by simp) ?_
  simp+decide
 |true=>
  simp+decide[getD',Nt.row,int];refine G7 mixed 10 [1] (by rfl) (by rfl) (by rfl) (by rfl) (by simp) ?_
  simp+decide
  refine scp h2 ?_
  simp+decide[int,wQ]
def wR(l:List ByteArray):D:=.sl (l.map λs=>[.str s])
def vP(d:Dc)(id:Int):ByteArray:=(zi d.notes id).1.text
def uQ(d:Dc)(l:List Int):ByteArray:=l.foldl (λ_ k=>vP d k) .empty
def yJ(d:Dc)(id:Int)(r:Int):List Int:=yj (qk d id (zy d.tiers r))
def Xp(d:Dc)(w:Int):Bool:=yT d w&&xh d
theorem Kt(d:Dc)(id r:Int)(H:Fw d):(yJ d id r).length<20:=by
 unfold yJ yj qk
 rw[List.length_map,(ZR _).length_eq]
 exact H.k _ _
theorem Sj{d:Dc}{K:List Int}{j:Nat}(h:j<K.length):(K.take (j+1)).foldl (λ_ k=>vP d k) ByteArray.empty=vP d K[j]:=by
 rw[Kq h,List.foldl_append]
 rfl
def fRow(d:Dc)(L:List Int):List (List D):=L.map λm=>[D.str (vP d m)]
def gRow(d:Dc)(L:List Int):List (List D):=L.map λm=>[D.str (uQ d (yJ d m 4))]
theorem Sl(d:Dc)(w:Int)(S:Fw d)(W:d.tiers.length<2^62):
  zj Tryz.prog 18 [zq d,int w] (if Xp d w=true then .tup [wR ((yJ d w 3).map (vP d)),wR ((yJ d w 3).map λm=>uQ d (yJ d m 4))] else .tup [wR [],wR []]):=by
 refine zn mixed Tryz.func18 rfl c_18 ?_
 have B:=S.n
 have hg:=Ks d w (by omega) W
 have hr:=Vi d W
 have hf:=Xo d W
 have X:=Kt d w 3 S
 unfold Xp
 simp+decide[Tryz.f18,zq,Dc.row,int]
 refine zg hg ?_
 cases hw:yT d w with
 |false=>simp+decide[Nt.row,int,wR]
 |true=>
  simp+decide[Nt.row,int];refine zg hr ?_
  cases N:xh d with
  |false=>simp+decide[wR]
  |true=>
   simp+decide
   refine zg hf ?_
   simp+decide[int,wQ];refine zC.UZ (by rfl) (Ko d w (zy d.tiers 3) S) ?_
   change ((yJ d w 3).length<20) at X
   rw[show yj (qk d w (zy d.tiers 3))=yJ d w 3 from rfl]
   generalize yJ d w 3=L at X ⊢;simp+decide[ints];have P:ints d.spk = .sl (d.spk.map λn=>[.int .i64 n]):=rfl
   refine x9 mixed (λk:Nat=>{n:=82,next:=7,slots:=[(2,.bp 0 0),(8,.bp 4 0),(9,.ar 5),(10,.ar 6),(39,.d (ints L)),(40,.d (int L.length)),(41,.d (int k))],own:=[(0,.box 53 (zW d)),(4,.box 112 [.d (int (zy d.tiers 2)),.d (int (zy d.tiers 3)),.d (int (zy d.tiers 4))]),(5,.arr 9 1 (fRow d (L.take k))),(6,.arr 9 1 (gRow d (L.take k)))],moved:=[5,6]})
    (λk=>k<=L.length) (λk=>L.length-k) 0 (Nat.zero_le _) ?_ ?_
   .simp+decide[int,ints,zW,fRow,gRow]
   intro k C;refine ya mixed ?_
   by_cases H:k<L.length
   case neg=>
    have:k=L.length:=by omega
    subst this;simp+decide[int,ints,wR,fRow,gRow,zW,vP]
   have J:(k:Int)<L.length:=by omega
   obtain⟨m,em⟩:∃ m,L[k]=m:=⟨_,rfl⟩;have em1:L[k]?=some m:=by rw[List.getElem?_eq_getElem H,em]
   have Y:=ZM d m (by omega)
   have M:=Ko d m (zy d.tiers 4) S;have O:=Kt d m 4 S;have hsn:=Kq H;rw[em] at hsn;have ef:fRow d (L.take (k+1))=fRow d (L.take k)++[[.str (vP d m)]]:=by rw[hsn];simp[fRow]
   have eg:gRow d (L.take (k+1))=gRow d (L.take k)++[[.str (uQ d (yJ d m 4))]]:=by rw[hsn];simp[gRow]
   have lf:(fRow d (L.take k)).length=k:=by simp[fRow];omega
   have lg:(gRow d (L.take k)).length=k:=by simp[gRow];omega
   generalize fRow d (L.take k)=F at ef lf;generalize gRow d (L.take k)=G at eg lg;rw[show yj (qk d m (zy d.tiers 4))=yJ d m 4 from rfl] at M
   have Q:vP d m=(zi d.notes m).1.text:=rfl
   generalize yJ d m 4=K at M O eg;generalize zi d.notes m=r at Y Q;obtain⟨nm,ok⟩:=r;simp only at Q
   simp+decide[int,ints,zW,H,J,em];refine zg Y ?_
   simp+decide[getD',Nt.row,int];refine zC.UZ (by rfl) M ?_
   simp+decide[ints];refine x9 mixed (λj:Nat=>{n:=82,next:=8,slots:=[(2,.bp 0 0),(8,.bp 4 0),(9,.ar 5),(10,.ar 6),(39,.d (ints L)),(40,.d (int L.length)),(41,.d (int k)),(13,.bp 7 0),(15,.d (.str (uQ d (K.take j)))),(55,.d (ints K)),(56,.d (int K.length)),(57,.d (int j))],own:=[(0,.box 53 (zW d)),(4,.box 112 [.d (int (zy d.tiers 2)),.d (int (zy d.tiers 3)),.d (int (zy d.tiers 4))]),(5,.arr 9 1 F),(6,.arr 9 1 G),(7,.box 72 (nm.row.map .d))],moved:=[5,6]})
    (λj=>j<=K.length) (λj=>K.length-j) 0 (Nat.zero_le _) ?_ ?_
   .simp+decide[int,ints,zW,Nt.row,uQ]
   intro j hj;refine ya mixed ?_
   by_cases E:j<K.length
   case neg=>
    have:j=K.length:=by omega
    subst this;rw[List.take_length];simp+decide[int,ints,zW,Nt.row,I64];exact⟨by omega,by unfold maxLen;omega,by omega,by unfold maxLen;omega,⟨by omega,by omega⟩,k+1,H,by omega,by omega,by rw[ef,Q],by rw[eg]⟩
   have T:(j:Int)<K.length:=by omega
   obtain⟨q,eq⟩:∃ q,K[j]=q:=⟨_,rfl⟩;have eq1:K[j]?=some q:=by rw[List.getElem?_eq_getElem E,eq]
   have Z:=Sj (d:=d) E;rw[eq] at Z;have A:=ZM d q (by omega)
   have V:vP d q=(zi d.notes q).1.text:=rfl
   generalize zi d.notes q=r2 at A V;obtain⟨nq,okq⟩:=r2;simp only at V
   have I:uQ d (K.take (j+1))=nq.text:=by unfold uQ;rw[Z,V]
   simp+decide[int,ints,zW,Nt.row,E,T,eq];refine zg A ?_
   simp+decide[getD',Nt.row,int,I64];exact⟨⟨by omega,by omega⟩,j+1,E,by omega,by rw[I],by omega⟩
theorem Sr{α:Type}{p:α->Bool}{l:List α}(h:0<=Z9 p l):∃ k:Nat,Z9 p l=k/\∃ H:k<l.length,p l[k]=true:=by
 unfold Z9 at h ⊢
 cases G:l.findIdx? p with
 |none=>rw[G] at h;simp at h
 |some k=>
  rw[List.findIdx?_eq_some_iff_getElem] at G;obtain⟨H,F,_⟩:=G;exact⟨k,rfl,H,F⟩
theorem Ss{α:Type}:∀ {l:List α},l.Nodup->(∀ a∈l,∀ b∈l,a=b)->l.length<=1
 | [],_,_=>Nat.zero_le _
 | [a],_,_=>Nat.le_refl _
 |a::b::l,H,h=>by
  have:=h a (by simp) b (by simp)
  subst this;simp at H
theorem Sv{d:Dc}(h:wO d=true):d.notes.length<=14/\d.tiers.length<=6/\d.spk.length<=6/\Rgt d:=by
 simp only[wO,Bool.and_eq_true,decide_eq_true_eq] at h
 exact⟨h.1.1.1,h.1.1.2,h.1.2,CH.1 (by rw[K7];exact h.2)⟩
theorem Za{d:Dc}(h:Rgt d):d.tiers.length<=20:=by
 have:=h.tiers
 unfold jb at this
 split at this
 .cases this
 .omega
theorem Rgt.Ku{d:Dc}(h:Rgt d){m:Nt}(G:m∈d.notes):∃ t:Nat,t<d.tiers.length/\m.tier=t:=by
 have H:=Xh h.good G
 exact⟨m.tier.toNat,by have:=H.t0;have:=H.t1;omega,by have:=H.t0;omega⟩
def Xq(d:Dc)(t:Nat)(n:Nt):List Nt:=n::(if h:(zx d t).kind≠0/\(zx d t).par.toNat<t then Xq d (zx d t).par.toNat (Xn d n) else [])
termination_by t
decreasing_by exact h.2
theorem Sz(d:Dc)(t:Nat)(n:Nt):Xq d t n=n::(if h:(zx d t).kind≠0/\(zx d t).par.toNat<t then Xq d (zx d t).par.toNat (Xn d n) else []):=by rw[Xq]
def xk(d:Dc)(n:Nt):List Nt:=Xq d n.tier.toNat n
def chainE(d:Dc)(r:Nt×Bool):List Nt:=if r.2=true then xk d r.1 else []
theorem yA{d:Dc}(h:Rgt d){n:Nt}(G:n∈d.notes):xk d n=n::chainE d (zi d.notes n.par)/\((zi d.notes n.par).2=true->(zi d.notes n.par).1∈d.notes/\(zi d.notes n.par).1.tier<n.tier):=by
 obtain⟨t,H,et⟩:=h.Ku G
 unfold xk
 rw[et,Int.toNat_natCast,Sz]
 by_cases F:(zx d t).kind=0
 .have E:n.par=0:=h.root ⟨G,et⟩ F
  have K:(zi d.notes n.par).2=false:=by
   cases J:(zi d.notes n.par).2 with
   |false=>rfl
   |true=>
    obtain⟨g1,g2⟩:=jH J;have:=(h.nok _ g1).lo
    omega
  rw[dif_neg (λe=>e.1 F)]
  refine⟨?_,λe=>by rw[K] at e;cases e⟩
  unfold chainE;rw[K];rfl
 .have L:=h.up H F
  obtain⟨p1,p2⟩:=h.parent ⟨G,et⟩ H F;have K:=wP h p1.1;rw[p2] at K;rw[dif_pos ⟨F,L.2⟩,K];refine⟨?_,λ_=>⟨p1.1,by have:=p1.2;rw[this];omega⟩⟩
  unfold chainE xk;rw[if_pos rfl,p1.2,Int.toNat_natCast]
theorem Xr{d:Dc}(h:Rgt d):∀ (k:Nat) (n:Nt),n∈d.notes->n.tier.toNat<=k->(∀ m∈xk d n,m∈d.notes)/\(xk d n).length<=n.tier.toNat+1:=by
 intro k
 induction k with
 |zero=>
  intro n H G;obtain⟨F,h2⟩:=yA h H;have E:(zi d.notes n.par).2=false:=by
   cases K:(zi d.notes n.par).2 with
   |false=>rfl
   |true=>
    have:=h2 K
    have:=(h.nok _ this.1).t0
    omega
  rw[F];unfold chainE;rw[E];exact⟨by simp[H],by simp⟩
 |succ k ih=>
  intro n H G;obtain⟨F,h2⟩:=yA h H;rw[F];unfold chainE;cases K:(zi d.notes n.par).2 with
  |false=>exact⟨by simp[H],by simp⟩
  |true=>
   obtain⟨g1,g2⟩:=h2 K;have g0:=(h.nok _ g1).t0;have:=ih _ g1 (by omega)
   rw[if_pos rfl];refine⟨λm J=>?_,by rw[List.length_cons];omega⟩
   rcases List.mem_cons.1 J with rfl | J
   .exact H
   .exact this.1 m J
theorem SA(d:Dc)(h:Rgt d)(id:Int):zj Tryz.prog 85 [zq d,int id] (ints (yj (chainE d (zi d.notes id)))):=by
 have M:=Za h
 have F:=h.few
 refine gA mixed Tryz.func85 rfl c_85 [1] ?_
 simp+decide[Tryz.f85,zq,Dc.row,int,zw]
 refine zg (jX d id (by omega)) ?_
 have O:=jH (l:=d.notes) (id:=id)
 generalize zi d.notes id=r at O ⊢
 obtain⟨n,ok⟩:=r
 simp+decide[getD',Nt.row,int]
 refine zm mixed (λx:List Nt×Nt×Bool=>{n:=38,next:=4,slots:=[(2,.bp 0 0),(5,.ar 2),(6,.bp 3 0),(7,.d (.bool x.2.2)),(8,.d (int x.1.length))],own:=[(0,.box 53 (zW d)),(2,.arr 3 1 ((yj x.1).map λn=>[int n])),(3,.box 72 (noteCells x.2.1))],moved:=[2]})
  (λx=>(x.2.2=true->x.2.1∈d.notes/\(x.1.length:Int)+x.2.1.tier<d.tiers.length)/\x.1.length<=d.tiers.length/\x.1++chainE d (x.2.1,x.2.2)=chainE d (n,ok)) (λx=>d.tiers.length+1-x.1.length) ([],n,ok)
  ⟨λe=>⟨(O e).1,by have:=(h.nok _ (O e).1).t1;simp only at this ⊢;simpa using this⟩,Nat.zero_le _,rfl⟩ (by simp+decide[int,yj,zw]) ?_
 rintro⟨out,c,b⟩ ⟨Q,T,V⟩
 simp only at Q T V
 have E:(yj out).length=out.length:=by simp[yj]
 have H:(out.length:Int)<=d.tiers.length:=by omega
 cases b with
 |false=>
  have K:chainE d (n,ok)=out:=by rw[<-V];simp[chainE]
  rw[K];simp+decide[int,ints,zw,H]
 |true=>
  obtain⟨G,J⟩:=Q rfl;obtain⟨X,h2⟩:=yA h G;have Y:=jX d c.par (by omega)
  have c0:=(h.nok c G).t0;generalize zi d.notes c.par=g at X h2 Y;obtain⟨p,pk⟩:=g;simp+decide[int,ints,zw,E,H];refine⟨by omega,by unfold maxLen;omega,?_⟩
  refine zg Y ?_
  have Z:(out++[c])++chainE d (p,pk)=chainE d (n,ok):=by
   rw[<-V,List.append_assoc];congr 1
   unfold chainE;rw[if_pos rfl,X];rfl
  have A:List.map (λn=>[D.int .i64 n]) (yj out)++[[D.int .i64 c.id]]=List.map (λn=>[D.int .i64 n]) (yj (out++[c])):=by simp[yj]
  simp+decide[getD',Nt.row,int,ints,zw,I64];have L:(out++[c]).length=out.length+1:=by simp
  refine⟨⟨by omega,by omega⟩,out++[c],p,?_⟩
  cases pk with
  |false=>
   left
   exact⟨⟨by omega,Z⟩,by omega,⟨rfl,by omega⟩,A,rfl,rfl,rfl,rfl,rfl,rfl,rfl⟩
  |true=>
   right
   have g2:=(h2 rfl).2;have g3:=(h2 rfl).1;simp only at g2 g3
   exact⟨⟨⟨g3,by omega⟩,by omega,Z⟩,by omega,⟨rfl,by omega⟩,A,rfl,rfl,rfl,rfl,rfl,rfl,rfl⟩
theorem ZS{d:Dc}(h:Rgt d){n:Nt}(H:n∈d.notes):n∈xk d n:=by
 rw[(yA h H).1];exact List.mem_cons_self
theorem Xt{d:Dc}(h:Rgt d):∀ (k:Nat) (n:Nt),n∈d.notes->n.tier.toNat<=k->∀ m∈chainE d (zi d.notes n.par),m.tier<n.tier:=by
 intro k
 induction k with
 |zero=>
  intro n H G m F;unfold chainE at F;split at F
  .rename_i E
   have:=(yA h H).2 E
   have:=(h.nok _ this.1).t0
   omega
  .cases F
 |succ k ih=>
  intro n H G m F;unfold chainE at F;split at F
  .rename_i E
   obtain⟨K,h2⟩:=(yA h H).2 E;have g0:=(h.nok _ K).t0;rw[(yA h K).1] at F;rcases List.mem_cons.1 F with rfl | F
   .exact h2
   .have:=ih _ K (by omega) m F
    omega
  .cases F
theorem CO{d:Dc}(h:Rgt d):∀ (k:Nat) (n:Nt),n∈d.notes->n.tier.toNat<=k->∀ m∈xk d n,∀ c∈xk d m,c∈xk d n:=by
 intro k
 induction k with
 |zero=>
  intro n F E m K c J;rw[(yA h F).1] at K;rcases List.mem_cons.1 K with rfl | K
  .exact J
  .have:=Xt h _ n F (Nat.le_refl _) m K
   have G:=(Xr h _ n F (Nat.le_refl _)).1 m (by rw[(yA h F).1];exact List.mem_cons_of_mem _ K)
   have:=(h.nok _ G).t0
   omega
 |succ k ih=>
  intro n F E m K c J;rw[(yA h F).1] at K ⊢;rcases List.mem_cons.1 K with rfl | K
  .rw[(yA h F).1] at J;exact J
  .refine List.mem_cons_of_mem _ ?_
   unfold chainE at K ⊢;split at K
   .rename_i H
    rw[if_pos H];obtain⟨L,h2⟩:=(yA h F).2 H;have g0:=(h.nok _ L).t0;exact ih _ L (by omega) m K c J
   .cases K
theorem SB{d:Dc}(h:Rgt d):∀ (k:Nat) (n:Nt),n∈d.notes->n.tier.toNat<=k->∀ a∈xk d n,∀ b∈xk d n,a∈xk d b\/b∈xk d a:=by
 intro k
 induction k with
 |zero=>
  intro n K J a L b M;have H:=L;have G:=M;rw[(yA h K).1] at L M;rcases List.mem_cons.1 L with e | L
  .rw[e];exact .inr G
  .rcases List.mem_cons.1 M with e | M
   .rw[e];exact .inl H
   .have:=Xt h _ n K (Nat.le_refl _) a L
    have E:=(Xr h _ n K (Nat.le_refl _)).1 a (by rw[(yA h K).1];exact List.mem_cons_of_mem _ L)
    have:=(h.nok _ E).t0
    omega
 |succ k ih=>
  intro n K J a L b M;have H:=L;have G:=M;rw[(yA h K).1] at L M;rcases List.mem_cons.1 L with e | L
  .rw[e];exact .inr G
  .rcases List.mem_cons.1 M with e | M
   .rw[e];exact .inl H
   .unfold chainE at L M
    split at L
    .rename_i F
     rw[if_pos F] at M;obtain⟨O,h2⟩:=(yA h K).2 F;have g0:=(h.nok _ O).t0;exact ih _ O (by omega) a L b M
    .cases L
end Go.V.Doc
namespace Go.V.Doc
open Go Go.Proofs
def vr(l:List Nt)(id:Int):List Int:=(l.filter λn=>decide (n.par=id)).map (·.id)
def yw(l:List Nt):Nat->Int->List Int
 |0,_=>[]
 |f+1,id=>(vr l id).flatMap λk=>k::yw l f k
section
variable {d:Dc}
theorem ZT{l:List Nt}{id x:Int}:x∈vr l id↔∃ k∈l,k.par=id/\k.id=x:=by
 unfold vr
 simp only[List.mem_map,List.mem_filter,decide_eq_true_eq]
 exact⟨λ⟨k,⟨H,h2⟩,G⟩=>⟨k,H,h2,G⟩,λ⟨k,H,h2,G⟩=>⟨k,⟨H,h2⟩,G⟩⟩
theorem kQ(h:Rgt d){n k:Nt}(H:n∈d.notes)(G:k∈d.notes)(F:k.par=n.id):n.tier<k.tier:=by
 have:=(yA h G).2
 rw[F,wP h H] at this
 exact(this rfl).2
theorem Vj(h:Rgt d){n k:Nt}(H:n∈d.notes)(G:k∈d.notes)(F:k.par=n.id):xk d k=k::xk d n:=by
 rw[(yA h G).1,F,wP h H];rfl
theorem CP(h:Rgt d){m:Nt}(H:m∈d.notes):(∃ p∈d.notes,p.id=m.par/\chainE d (zi d.notes m.par)=xk d p/\p.tier<m.tier)\/chainE d (zi d.notes m.par)=[]:=by
 cases G:(zi d.notes m.par).2 with
 |false=>right;unfold chainE;rw[G];rfl
 |true=>
  left
  obtain⟨F,h2⟩:=(yA h H).2 G;exact⟨_,F,(jH G).2,by unfold chainE;rw[if_pos G],h2⟩
theorem SC(h:Rgt d):∀ (k:Nat) (m:Nt),m∈d.notes->m.tier.toNat<=k->∀ n∈chainE d (zi d.notes m.par),∃ c∈xk d m,c.par=n.id:=by
 intro k
 induction k with
 |zero=>
  intro m G F n E;have:=Xt h _ m G (Nat.le_refl _) n E
  have H:=(Xr h _ m G (Nat.le_refl _)).1 n (by rw[(yA h G).1];exact List.mem_cons_of_mem _ E)
  have:=(h.nok _ H).t0
  omega
 |succ k ih=>
  intro m G F n E;rcases CP h G with⟨p,K,e1,e2,e3⟩ | e
  .rw[e2,(yA h K).1] at E
   rw[(yA h G).1,e2];rcases List.mem_cons.1 E with rfl | E
   .exact⟨m,List.mem_cons_self,e1.symm⟩
   .have:=(h.nok _ K).t0
    obtain⟨c,J,ec⟩:=ih p K (by omega) n E
    exact⟨c,List.mem_cons_of_mem _ J,ec⟩
  .rw[e] at E;cases E
theorem Vk(h:Rgt d){m c:Nt}(H:m∈d.notes)(G:c∈xk d m):c∈d.notes:=(Xr h _ m H (Nat.le_refl _)).1 c G
theorem Xu(h:Rgt d):∀ (f:Nat) (n:Nt),n∈d.notes->(d.tiers.length:Int)-n.tier<=f->∀ x,x∈yw d.notes f n.id↔∃ m∈d.notes,m.id=x/\n∈chainE d (zi d.notes m.par):=by
 intro f
 induction f with
 |zero=>intro n J L;have:=(h.nok n J).t1;omega
 |succ f ih=>
  intro n J L x;unfold yw;rw[List.mem_flatMap];constructor
  .rintro⟨y,M,O⟩
   obtain⟨k,Q,T,rfl⟩:=ZT.1 M;have V:=kQ h J Q T;have F:=Vj h J Q T;rcases List.mem_cons.1 O with rfl | O
   .refine⟨k,Q,rfl,?_⟩
    rw[T,wP h J];exact ZS h J
   .obtain⟨m,X,rfl,H⟩:=(ih k Q (by omega) x).1 O
    refine⟨m,X,rfl,?_⟩
    rcases CP h X with⟨p,E,e1,e2,e3⟩ | e
    .rw[e2] at H ⊢
     exact CO h _ p E (Nat.le_refl _) k H n (by rw[F];exact List.mem_cons_of_mem _ (ZS h J))
    .rw[e] at H;cases H
  .rintro⟨m,X,rfl,K⟩
   obtain⟨k,Q,ek⟩:=SC h _ m X (Nat.le_refl _) n K;have G:=Vk h X Q;have V:=kQ h J G ek;refine⟨k.id,ZT.2 ⟨k,G,ek,rfl⟩,?_⟩
   rw[(yA h X).1] at Q;rcases List.mem_cons.1 Q with rfl | Q
   .exact List.mem_cons_self
   .exact List.mem_cons_of_mem _ ((ih k G (by omega) m.id).2 ⟨m,X,rfl,Q⟩)
theorem SD(h:Rgt d)(id:Int):(vr d.notes id).Nodup:=by
 unfold vr
 rw[List.nodup_iff_pairwise_ne,List.pairwise_map]
 exact(h.inc.sublist List.filter_sublist).imp λ{a b} H=>by omega
theorem SE(h:Rgt d){n:Nt}(H:n∈d.notes):n∉chainE d (zi d.notes n.par):=λG=>by
 have:=Xt h _ n H (Nat.le_refl _) n G
 omega
theorem Xv(h:Rgt d){n c:Nt}(H:n∈d.notes)(G:c∈xk d n):c.tier<=n.tier:=by
 rw[(yA h H).1] at G
 rcases List.mem_cons.1 G with rfl | G
 .exact Int.le_refl _
 .have:=Xt h _ n H (Nat.le_refl _) c G
  omega
theorem SG(h:Rgt d){n k1 k2 m:Nt}(H:n∈d.notes)(G:k1∈d.notes)(h2:k2∈d.notes)(p1:k1.par=n.id)(p2:k2.par=n.id)(F:m∈d.notes)(c1:k1∈xk d m)(c2:k2∈xk d m):k1=k2:=by
 have t1:=kQ h H G p1
 have t2:=kQ h H h2 p2
 rcases SB h _ m F (Nat.le_refl _) k1 c1 k2 c2 with e | e
 .rw[Vj h H h2 p2] at e
  rcases List.mem_cons.1 e with e | e
  .exact e
  .have:=Xv h H e;omega
 .rw[Vj h H G p1] at e
  rcases List.mem_cons.1 e with e | e
  .exact e.symm
  .have:=Xv h H e;omega
theorem CQ(h:Rgt d):∀ (f:Nat) (n:Nt),n∈d.notes->(d.tiers.length:Int)-n.tier<=f->(yw d.notes f n.id).Nodup:=by
 intro f
 induction f with
 |zero=>intro n G F;have:=(h.nok n G).t1;omega
 |succ f ih=>
  intro n G F;unfold yw;have key:∀ x k,k∈d.notes->k.par=n.id->x∈k.id::yw d.notes f k.id->∃ m∈d.notes,m.id=x/\k∈xk d m:=by
   intro x k E K J;have L:=kQ h G E K;rcases List.mem_cons.1 J with rfl | J
   .exact⟨k,E,rfl,ZS h E⟩
   .obtain⟨m,M,e,O⟩:=(Xu h f k E (by omega) x).1 J
    exact⟨m,M,e,by rw[(yA h M).1];exact List.mem_cons_of_mem _ O⟩
  rw[List.nodup_iff_pairwise_ne,List.pairwise_flatMap];refine⟨λy Q=>?_,(SD h n.id).imp_of_mem λ{a b} T V H x J y Q e=>?_⟩
  .obtain⟨k,E,K,rfl⟩:=ZT.1 Q
   have L:=kQ h G E K;rw[List.pairwise_cons];refine⟨λx J e=>?_,ih k E (by omega)⟩
   subst e;obtain⟨m,M,e,O⟩:=(Xu h f k E (by omega) k.id).1 J
   obtain rfl:=Xl h M E e;exact SE h E O
  .subst e
   obtain⟨k1,X,p1,rfl⟩:=ZT.1 T;obtain⟨k2,h2,p2,rfl⟩:=ZT.1 V;obtain⟨m1,q1,e1,c1⟩:=key x k1 X p1 J;obtain⟨m2,q2,e2,c2⟩:=key x k2 h2 p2 Q;obtain rfl:=Xl h q1 q2 (by rw[e1,e2])
   exact H (by rw[SG h G X h2 p1 p2 q1 c1 c2])
theorem CS:∀ {l m:List Int},l.Nodup->(∀ x∈l,x∈m)->l.length<=m.length
 | [],m,_,_=>Nat.zero_le _
 |x::l,m,H,hs=>by
  rw[List.nodup_cons] at H;have G:=hs x List.mem_cons_self;have:=CS (l:=l) (m:=m.erase x) H.2 λy F=>(List.mem_erase_of_ne λ(e:y=x)=>H.1 (by rw[<-e];exact F)).2 (hs y (List.mem_cons_of_mem _ F))
  rw[List.length_erase_of_mem G] at this;have:0<m.length:=List.length_pos_of_mem G
  simp only[List.length_cons];omega
theorem SH(h:Rgt d){f:Nat}{n:Nt}(H:n∈d.notes)(G:(d.tiers.length:Int)-n.tier<=f):(yw d.notes f n.id).length<=d.notes.length:=by
 have:=CS (m:=yj d.notes) (CQ h f n H G) λx F=>by
  obtain⟨m,E,e,_⟩:=(Xu h f n H G x).1 F;unfold yj;rw[List.mem_map];exact⟨m,E,e⟩
 unfold yj at this
 rwa [List.length_map] at this
end
end Go.V.Doc
namespace Go.V.Doc
open Go Go.Proofs
abbrev zX:=Int×Nat×List Int
def qt:List zX->Int->List Int
 | [],_=>[]
 |g::L,p=>if g.1=p then g.2.2 else qt L p
def kR(L:List zX):List (List D):=L.map λg=>[int g.1,ints g.2.2]
theorem CU(p:Int):∀ L:List zX,jM (int p) (kR L)=some (if p∈L.map (·.1) then some (ints (qt L p)) else none)
 | []=>rfl
 |g::L=>by
  have ih:=CU p L;simp only[kR,List.map_cons,jM,gi,int,qt] at ih ⊢;by_cases h:p=g.1
  .simp[h]
  .have H:¬g.1=p:=λe=>h e.symm
   simp only[decide_false,h,H,List.mem_cons,false_or,if_false];simpa using ih
theorem SI{L:List zX}{p:Int}(h:p∉L.map (·.1)):qt L p=[]:=by
 induction L with
 |nil=>rfl
 |cons g L ih=>
  simp only[List.map_cons,List.mem_cons,not_or] at h;unfold qt;rw[if_neg (λe=>h.1 e.symm),ih h.2]
abbrev SJ:Sym:=.fn 115 [.bp 0 0,.bp 1 0,.bp 2 0]
def qJ(L:List zX)(acc:List Int):List (Nat×Obj'):=
 [(0,.box 182 [.d (.mp (kR L))]),(1,.box 31 [.ar 3]),(2,.box 183 [SJ]),(3,.arr 3 1 (acc.map λn=>[int n]))]
def Vl(L:List zX)(l:List Nt)(f:Nat)(id:Int):Prop:=∀ acc:List Int,(acc++yw l f id).length<=2^40 ->
 zA Tryz.prog 115 [.d (int id),.bp 0 0,.bp 1 0,.bp 2 0] (qJ L acc) 4 (.d (.tup [])) 4 (qJ L (acc++yw l f id)) [3]
theorem SK(L:List zX)(l:List Nt)(f:Nat)(id:Int)(O:qt L id=vr l id)(ih:∀ k∈vr l id,Vl L l f k):Vl L l (f+1) id:=by
 intro acc H
 refine zA.QJ (xA mixed Tryz.func115 rfl c_115 (by simp[Sym.los,Sym.lo]) ?_)
 have Q:=CU id L
 simp only[int] at Q
 unfold yw at H ⊢
 by_cases T:id∈L.map (·.1)
 case neg=>
  rw[if_neg T] at Q;rw[<-O,SI T];simp+decide[Tryz.f115,qJ,int,Q];refine x9 mixed (λ_:Unit=>{n:=23,next:=4,base:=4,slots:=[(10,.d (int 0)),(11,.d (int 0))],own:=qJ L acc,moved:=[3]}) (λ_=>True) (λ_=>0) () trivial ?_ ?_
  .simp+decide[int,qJ]
  intro _ _;refine ya mixed ?_
  simp+decide[int,qJ]
 rw[if_pos T,O] at Q
 generalize vr l id=ks at *
 have J:ks.length<=2^40:=by
  have V:ks.length<=(ks.flatMap λk=>k::yw l f k).length:=by
   clear Q H ih O;induction ks with
   |nil=>simp
   |cons k r ih=>simp only[List.flatMap_cons,List.length_append,List.length_cons];omega
  rw[List.length_append] at H;omega
 simp+decide[Tryz.f115,qJ,int,Q,ints]
 refine x9 mixed (λk:Nat=>{n:=23,next:=4,base:=4,slots:=[(1,.bp 0 0),(2,.bp 1 0),(3,.bp 2 0),(9,.d (ints ks)),(10,.d (int ks.length)),(11,.d (int k))],own:=qJ L (acc++(ks.take k).flatMap λk=>k::yw l f k),moved:=[3]})
  (λk=>k<=ks.length) (λk=>ks.length-k) 0 (Nat.zero_le _) ?_ ?_
 .simp+decide[int,ints,qJ]
 intro k X
 refine ya mixed ?_
 by_cases F:k<ks.length
 case neg=>
  have:k=ks.length:=by omega
  subst this;rw[List.take_length];simp+decide[int,ints,qJ]
 have E:(k:Int)<ks.length:=by omega
 obtain⟨q,eq⟩:∃ q,ks[k]=q:=⟨_,rfl⟩
 have e1:ks[k]?=some q:=by rw[List.getElem?_eq_getElem F,eq]
 have hsn:(ks.take (k+1)).flatMap (λk=>k::yw l f k)=(ks.take k).flatMap (λk=>k::yw l f k)++(q::yw l f q):=by
  rw[List.take_succ_eq_append_getElem F,List.flatMap_append,eq];simp
 have G:(acc++(ks.take (k+1)).flatMap λk=>k::yw l f k).length<=2^40:=by
  have:ks.flatMap (λk=>k::yw l f k)=(ks.take (k+1)).flatMap (λk=>k::yw l f k)++(ks.drop (k+1)).flatMap (λk=>k::yw l f k):=by
   rw[<-List.flatMap_append,List.take_append_drop]
  rw[this,<-List.append_assoc,List.length_append] at H;omega
 rw[hsn] at G
 have Y:=ih q (by rw[<-eq];exact List.getElem_mem F) ((acc++(ks.take k).flatMap λk=>k::yw l f k)++[q]) (by simpa using G)
 have M:(acc++(ks.take k).flatMap λk=>k::yw l f k).length<2^40:=by
  rw[<-List.append_assoc,List.length_append,List.length_cons] at G;omega
 have K:acc++((ks.take k).flatMap (λk=>k::yw l f k)++q::yw l f q)=(acc++(ks.take k).flatMap λk=>k::yw l f k)++[q]++yw l f q:=by simp
 generalize acc++(ks.take k).flatMap (λk=>k::yw l f k)=A at *
 simp+decide[int,ints,qJ,F,E,eq,maxLen]
 refine⟨by omega,by omega,?_⟩
 refine zC.mut [0,1,2,3] [.d (int q),.bp 0 0,.bp 1 0,.bp 2 0] (qJ L (A++[q])) (by rfl) (by simp[int]) (by simp[Sym.los,Sym.lo]) (by simp[qJ,int];rfl) Y ?_
 simp+decide[int,qJ,I64]
 exact⟨⟨by omega,by omega⟩,k+1,F,by omega,by omega,by rw[hsn,<-List.map_append (l₁:=acc),K];simp⟩
theorem SL{d:Dc}(h:Rgt d){L:List zX}(H:∀ p,qt L p=vr d.notes p):∀ (f:Nat) (n:Nt),n∈d.notes->(d.tiers.length:Int)-n.tier<=f->Vl L d.notes f n.id:=by
 intro f
 induction f with
 |zero=>intro n G F;have:=(h.nok n G).t1;omega
 |succ f ih=>
  intro n G F;refine SK L _ f n.id (H _) λk E=>?_
  obtain⟨m,K,J,rfl⟩:=ZT.1 E;have:=kQ h G K J
  exact ih m K (by omega)
def xX:List zX->Int->Int->Nat->List zX
 | [],p,x,nx=>[(p,nx,[x])]
 |g::L,p,x,nx=>if g.1=p then (g.1,g.2.1,g.2.2++[x])::L else g::xX L p x nx
def yU(L:List zX):List Int:=L.map (·.1)
def yh(L:List zX):List Sym:=L.map λg=>.ar g.2.1
def yD(L:List zX):List (Nat×Obj'):=L.map λg=>(g.2.1,.arr 3 1 (g.2.2.map λn=>[int n]))
def zB(L:List zX):List Nat:=L.map (·.2.1)
def xO:List zX->Int->Option (Nat×List Int)
 | [],_=>none
 |g::L,p=>if g.1=p then some g.2 else xO L p
theorem CV(L:List zX)(p x:Int)(nx:Nat)(q:Int):qt (xX L p x nx) q=if p=q then qt L q++[x] else qt L q:=by
 induction L with
 |nil=>simp[xX,qt]
 |cons g L ih=>
  unfold xX;by_cases h:g.1=p
  .rw[if_pos h]
   simp only[qt];by_cases h2:g.1=q
   .rw[if_pos h2,if_pos h2,if_pos (h.symm.trans h2)]
   .rw[if_neg h2,if_neg h2,if_neg (λe=>h2 (h.trans e))]
  .rw[if_neg h]
   simp only[qt];by_cases h2:g.1=q
   .rw[if_pos h2,if_pos h2,if_neg (λe=>h (h2.trans e.symm))]
   .rw[if_neg h2,if_neg h2,ih]
theorem Kv:∀ (L:List zX) (p:Int),jw (yU L) (yh L) p=(xO L p).map λg=>Sym.ar g.1
 | [],p=>rfl
 |g::L,p=>by
  have ih:=Kv L p;simp only[yU,yh,List.map_cons,jw,xO] at ih ⊢;split
  .rfl
  .exact ih
theorem Xw:∀ {L:List zX} {p:Int} {g:Nat×List Int},xO L p=some g->(p,g)∈L
 | [],p,g,h=>by cases h
 |a::L,p,g,h=>by
  unfold xO at h;split at h
  .rename_i e;cases h;rw[<-e];exact List.mem_cons_self
  .exact List.mem_cons_of_mem _ (Xw h)
theorem CW:∀ {L:List zX} {p x:Int} {nx:Nat} {g:Nat×List Int},xO L p=some g->yU (xX L p x nx)=yU L/\zB (xX L p x nx)=zB L
 | [],p,x,nx,g,h=>by cases h
 |a::L,p,x,nx,g,h=>by
  unfold xO at h;unfold xX;split at h
  .rename_i e;rw[if_pos e];exact⟨rfl,rfl⟩
  .rename_i e
   rw[if_neg e];have:=CW (x:=x) (nx:=nx) h
   simp only[yU,zB,List.map_cons] at this ⊢;exact⟨by rw[this.1],by rw[this.2]⟩
theorem CX:∀ {L:List zX} {p x:Int} {nx:Nat} {g:Nat×List Int},xO L p=some g->(zB L).Nodup->∀ i,za (yD (xX L p x nx)) i=if i=g.1 then some (.arr 3 1 ((g.2++[x]).map λn=>[int n])) else za (yD L) i
 | [],p,x,nx,g,h,_,i=>by cases h
 |a::L,p,x,nx,g,h,H,i=>by
  unfold xO at h;unfold xX;simp only[zB,List.map_cons,List.nodup_cons] at H;split at h
  .rename_i e
   cases h;rw[if_pos e];simp only[yD,List.map_cons,za];by_cases G:a.2.1=i
   .rw[if_pos G,if_pos G.symm]
   .rw[if_neg G,if_neg (λe2=>G e2.symm),if_neg G]
  .rename_i e
   rw[if_neg e];have ih:=CX (x:=x) (nx:=nx) h H.2 i;have F:g.1∈L.map (·.2.1):=List.mem_map.2 ⟨_,Xw h,rfl⟩
   simp only[yD,List.map_cons,za] at ih ⊢;by_cases G:a.2.1=i
   .have:¬i=g.1:=λe2=>H.1 (by rw[G,e2];exact F)
    rw[if_pos G,if_neg this,if_pos G]
   .rw[if_neg G,if_neg G,ih]
theorem ZU:∀ {L:List zX} {i:Nat} {o:Obj'},za (yD L) i=some o->i∈zB L/\∃ ks:List Int,o = .arr 3 1 (ks.map λn=>[int n])
 | [],i,o,h=>by cases h
 |g::L,i,o,h=>by
  simp only[yD,List.map_cons,za] at h;simp only[zB,List.map_cons,List.mem_cons];split at h
  .rename_i e;cases h;exact⟨.inl e.symm,_,rfl⟩
  .have:=ZU (L:=L) h;exact⟨.inr this.1,this.2⟩
theorem SN{L:List zX}{p:Int}{g:Nat×List Int}(h:xO L p=some g)(H:(zB L).Nodup):za (yD L) g.1=some (.arr 3 1 (g.2.map λn=>[int n])):=by
 induction L with
 |nil=>cases h
 |cons a L ih=>
  simp only[zB,List.map_cons,List.nodup_cons] at H;unfold xO at h;simp only[yD,List.map_cons,za];split at h
  .cases h;rw[if_pos rfl]
  .have G:g.1∈L.map (·.2.1):=List.mem_map.2 ⟨_,Xw h,rfl⟩
   rw[if_neg (λe=>H.1 (by rw[e];exact G))]
   exact ih h H.2
theorem CY:∀ {L:List zX} {p x:Int} {nx:Nat} {g:Nat×List Int},xO L p=some g->(zB L).Nodup->qd (yU L) (yk g.1 (yh L)) p (.ar g.1)=(yU L,yh L)
 | [],p,x,nx,g,h,_=>by cases h
 |a::L,p,x,nx,g,h,G=>by
  simp only[zB,List.map_cons,List.nodup_cons] at G;unfold xO at h;have rest:∀ (M:List zX),g.1∉M.map (·.2.1)->yk g.1 (yh M)=yh M:=by
   intro M;induction M with
   |nil=>intro _;rfl
   |cons b M ih=>
    intro F;simp only[List.map_cons,List.mem_cons,not_or] at F;simp only[yh,List.map_cons,yk,zo] at ih ⊢;rw[if_neg (λe=>F.1 e.symm),ih F.2]
  split at h
  .rename_i e
   cases h;simp only[yU,yh,List.map_cons,yk,qd,if_pos e];have:=rest L G.1
   simp only[yh] at this;rw[this]
  .rename_i e
   have ih:=CY (x:=x) (nx:=nx) h G.2;have E:g.1∈L.map (·.2.1):=List.mem_map.2 ⟨_,Xw h,rfl⟩
   have H:¬a.2.1=g.1:=λe=>G.1 (by rw[e];exact E)
   simp only[yU,yh,List.map_cons,yk,zo,if_neg H,qd,if_neg e] at ih ⊢;rw[ih]
theorem Vm:∀ {L:List zX} {p x:Int} {nx:Nat},xO L p=none->xX L p x nx=L++[(p,nx,[x])]
 | [],p,x,nx,_=>rfl
 |a::L,p,x,nx,h=>by
  unfold xO at h;unfold xX;split at h
  .cases h
  .rename_i e;rw[if_neg e,Vm h];rfl
theorem CZ:∀ {L:List zX} {p:Int} {s:Sym},xO L p=none->qd (yU L) (yh L) p s=(yU L++[p],yh L++[s])
 | [],p,s,_=>rfl
 |a::L,p,s,h=>by
  unfold xO at h;split at h
  .cases h
  .rename_i e
   have ih:=CZ (s:=s) h;simp only[yU,yh,List.map_cons,qd,if_neg e] at ih ⊢;rw[ih];rfl
theorem B0{j:Nat}:∀ {L:List zX},j∉zB L->yk j (yh L)=yh L
 | [],_=>rfl
 |b::M,H=>by
  simp only[zB,List.map_cons,List.mem_cons,not_or] at H;have ih:=B0 (L:=M) H.2;simp only[yh,List.map_cons,yk,zo] at ih ⊢;rw[if_neg (λe=>H.1 e.symm),ih]
theorem Zb{α:Type}:∀ (l m:List (Nat×α)) (i:Nat),za (l++m) i=(za l i).or (za m i)
 | [],m,i=>by simp[za]
 |(t,x)::l,m,i=>by
  simp only[List.cons_append,za];split
  .rfl
  .exact Zb l m i
theorem SQ{L:List zX}{p x:Int}{nx:Nat}(h:xO L p=none)(H:nx∉zB L)(i:Nat):za (yD (xX L p x nx)) i=if i=nx then some (.arr 3 1 [[int x]]) else za (yD L) i:=by
 rw[Vm h]
 unfold yD
 rw[List.map_append,Zb]
 by_cases e:i=nx
 .subst e
  rw[if_pos rfl];cases G:za (List.map (λg:zX=>(g.2.1,Obj'.arr 3 1 (g.2.2.map λn=>[int n]))) L) i with
  |none=>simp[za]
  |some o=>exact absurd (ZU (L:=L) G).1 H
 .rw[if_neg e]
  have e':¬nx=i:=λe2=>e e2.symm
  simp[za,e']
end Go.V.Doc
namespace Go.V.Doc
open Go Go.Proofs Go.Sort Go.RowKit
abbrev Vn(l:List Int):List (List D):=l.map λn=>[int n]
abbrev wS(l:List Int):D:=.fn 188 [.ptr [ints l]]
def xY(l:List Int):List Sym:=[.junk,.junk,.bp 1 0,.junk,.junk,.junk,.d (wS l),.junk,.junk,.junk,.junk,.junk,.junk]
@[simp] theorem zin(l:List Int):Sym.los 2 (xY l):=by simp[xY,Sym.los,Sym.lo]
@[simp] theorem zio(l:List Int):Sym.los 3 (xY l):=by simp[xY,Sym.los,Sym.lo]
@[simp] theorem ziq(l:List Int):Sym.los 4 (xY l):=by simp[xY,Sym.los,Sym.lo]
noncomputable def qK(q:List Int):Obj':=.raw (.lp #[7] (qD Tryz.f224) (qE Tryz.f224) .ready none) (xY q)
noncomputable def qu(q:List Int):List (Nat×Obj'):=[(0,qK q),(1,.box 31 [.nils])]
@[simp] theorem zjw(l:List Int):yl (yq [0,1] 2) (xY l)=xY l:=rfl
@[simp] theorem zjx(l:List Int):yl (yq [0,1,3] 4) (xY l)=xY l:=rfl
@[simp] theorem zjy(l:List Int):yl (yq [0,1,2] 3) (xY l)=xY l:=rfl
noncomputable def ZV(q l:List Int):List (Nat×Obj'):=[(0,qK q),(1,.box 31 [.ar 2]),(2,.arr 3 1 (Vn l))]
noncomputable def uR(q l:List Int):List (Nat×Obj'):=[(0,qK q),(1,.box 31 [.ar 3]),(3,.arr 3 1 (Vn l))]
theorem SR(q:List Int)(n:Int):uu Tryz.prog 0 [.d (int n)] (qu q) 2 (.d (.bool true)) 4 (uR q [n]) [3]:=by
 refine QF (cells:=xY q) (ps:=#[7]) (aS := qD Tryz.f224) (bd:=qE Tryz.f224) rfl (by simp) (by simp[xY]) (by omega) (by simp[Sym.los,Sym.lo]) ?_
 simp+decide[qu,uR,qK,xY,qD,qE,vI,Tryz.f224,int]
theorem SS(q l:List Int)(n:Int)(H:l.length<2^40):uu Tryz.prog 0 [.d (int n)] (ZV q l) 3 (.d (.bool true)) 3 (ZV q (l++[n])) [2]:=by
 refine QF (cells:=xY q) (ps:=#[7]) (aS := qD Tryz.f224) (bd:=qE Tryz.f224) rfl (by simp) (by simp[xY]) (by omega) (by simp[Sym.los,Sym.lo]) ?_
 simp+decide[ZV,qK,xY,qD,qE,vI,Tryz.f224,int,maxLen]
 exact⟨by omega,by omega⟩
theorem SU(l:List Int)(F:l≠[])(E:l.length<2^40):zA Tryz.prog 188 [.yd 0,.d (.ptr [ints l])] (qu l) 2 (.d (.tup [])) 4 (uR l l) [3]:=by
 refine zA.QJ (xA mixed Tryz.func188 rfl c_188 (by simp[Sym.los,Sym.lo]) ?_)
 simp+decide[Tryz.f188,ints]
 refine x9 mixed (λk:Nat=>{n:=16,next:=if k=0 then 2 else 4,base:=2,slots:=[(0,.yd 0),(5,.d (ints l)),(6,.d (int l.length)),(7,.d (int k))],own:=if k=0 then qu l else uR l (l.take k),moved:=if k=0 then [] else [3]})
  (λk=>k<=l.length) (λk=>l.length-k) 0 (Nat.zero_le _) (by simp+decide[int,ints,qu,qK]) ?_
 intro k K
 refine JD ?_
 by_cases H:k<l.length
 case neg=>
  have:k=l.length:=by omega
  subst this;have J:¬l.length=0:=λe=>F (List.eq_nil_of_length_eq_zero e)
  rw[List.take_length];simp+decide[int,ints,J,uR,qK]
 have G:(k:Int)<l.length:=by omega
 obtain⟨m,em⟩:∃ m,l[k]=m:=⟨_,rfl⟩
 have e1:l[k]?=some m:=by rw[List.getElem?_eq_getElem H,em]
 have hsn:l.take (k+1)=l.take k++[m]:=by rw[List.take_succ_eq_append_getElem H,em]
 by_cases J:k=0
 .subst J
  have L:=SR l m;simp+decide[int,ints,H,em,qu];refine ui.tO 0 [0,1] [.d (int m)] (qu l) (by simp[rho]) (by simp[int]) (by simp[Sym.los,Sym.lo]) (by simp[qu,qK];exact⟨rfl,rfl⟩) L ?_
  simp+decide[int,I64,uR,qK];refine⟨1,H,by omega,?_⟩
  simp+decide
  rw[<-List.map_take,hsn];simp
 .have L:=SS l (l.take k) m (by rw[List.length_take];omega)
  rw[<-hsn] at L;simp+decide[int,ints,H,G,em,J,uR];refine ui.tO 0 [0,1,3] [.d (int m)] (ZV l (l.take k)) (by simp[rho]) (by simp[int]) (by simp[Sym.los,Sym.lo]) (by simp[ZV,qK,int];exact⟨rfl,rfl⟩) L ?_
  simp+decide[int,I64,ZV,qK];refine⟨⟨by omega,by omega⟩,k+1,H,by omega,?_⟩
  simp+decide
theorem SV(l:List Int)(H:l≠[])(G:l.length<2^40):zA Tryz.prog 224 [.nils,.d (.fn 188 [.ptr [ints l]])] [] 0 (.ar 4) 5 [(4,.arr 3 1 (Vn l))] [4]:=by
 refine N4 Tryz.func224 rfl c_224 (by simp[Sym.los,Sym.lo]) ?_
 refine gG mixed 1 {n:=13,next:=2,slots:=[(1,.d (.fn 188 [.ptr [ints l]])),(2,.bp 0 0)],own:=[(0,.box 31 [.nils])]} rfl ?_ ?_
 .simp+decide[Tryz.f224,x8,ints]
 simp only[xB]
 refine JF (gG mixed 1 {n:=13,next:=2,slots:=[(2,.bp 0 0),(6,.d (.fn 188 [.ptr [ints l]]))],own:=[(0,.box 31 [.nils])]} rfl ?_ ?_)
 .simp+decide[x8,ints]
 simp only[xB]
 refine JG (JE (k:=0) (ids:=[2,0]) (args0:=[.yd 0,.d (.ptr [ints l])]) (own0:=qu l) (by rfl) (by simp[rho]) (by simp[rho]) (by simp[Sym.los,Sym.lo]) ?_ (SU l H G) ?_)
 .simp+decide[qu,qK,xY,qD,qE,vI,Tryz.f224]
 .simp+decide[uR,qK]
theorem SX(l:List Int)(H:l≠[])(G:l.length<2^40):ua Tryz.prog 186 [.fn 188 [.ptr [ints l]]] 3 1 (Vn l):=by
 refine Jm mixed Tryz.func186 rfl c_186 (by simp) ?_
 simp+decide[Tryz.f186]
 refine zC.mut [] [.nils,.d (.fn 188 [.ptr [ints l]])] [] (by rfl) (by simp) (by simp[Sym.los,Sym.lo]) (by simp) (SV l H G) ?_
 simp+decide
abbrev encI(n:Int):List Value:=[.int .i64 n]
abbrev wT(n:Int):List D:=[int n]
theorem B2:RowEnc encI wT 1 where
 pos:=by decide
 len:=λ_=>rfl
 one:=λx v hv=>by simp[encI] at hv;subst hv;rfl
 rlen:=λ_=>rfl
 read:=λw E x=>by simp only[encI,int,zc,R];exact⟨_,_,rfl,rfl,rfl,rfl⟩
 uniq:=λw E x vs h=>by
  simp only[int,zc,R] at h;obtain⟨_,_,rfl,_,rfl,rfl⟩:=h;rfl
def ql(l:List Int):List Int:=l.mergeSort λx y=>decide (x<=y)
theorem B5(l:List Int):flatK encI 1 l.toArray=(l.map (Value.int .i64)).toArray:=by
 have:=B2.flatK l
 rw[<-Array.toList_inj,this]
 clear this
 induction l with
 |nil=>rfl
 |cons n r ih=>simpa[encI] using ih
theorem SY(l:List Int):putCells id 0 (l.map (Value.int .i64)).toArray=putCells (Value.int .i64) 0 l.toArray:=by
 funext c
 unfold putCells
 congr 1
 funext k x
 by_cases h:k<l.length
 .simp[h]
 .simp[h]
theorem Kw(l:List Int):(ql l).length=l.length:=List.length_mergeSort l
theorem Kx(l:List Int):(ql l).Perm l:=List.mergeSort_perm l _
theorem SZ(l:List Int)(F:l≠[])(J:l.length<4611686018427387904):
  zA Tryz.prog 187 [.ar 0] [(0,.arr 3 1 (l.map wT))] 1 (.d (.tup [])) 1 [(0,.arr 3 1 ((ql l).map wT))] []:=by
 refine VI B2 c_187 F (Kw l) ?_
 intro w E β vs H G g cap L M O
 simp only[zb] at H
 subst H
 have Q:Holds (Value.int .i64) w g 0 l.toArray:=by
  unfold HoldsK at O;rw[B5] at O;intro j T;have:=O j (by simpa using T)
  have K:j<l.length:=by simpa using T
  simpa[K] using this
 have:=Any.slices_Sort_int Tryz.sortInt g 0 cap l w Q L J
 change Calls Tryz.prog 187 _ _ _ at this
 refine this.mono λe w' V=>?_
 obtain⟨X,n,os,h2⟩:=V
 refine⟨X,n,os,?_⟩
 rw[h2]
 unfold sortWorldK putRowK putRow
 rw[B5,SY]
 rfl
theorem T0(l:List Int)(hs:l.Pairwise λa b=>a<b)(L:l.length<2^40):
  zA Tryz.prog 128 [.ar 0] [(0,.arr 3 1 (l.map wT))] 1 (.ar 0) 1 [(0,.arr 3 1 (l.map wT))] []:=by
 refine xA mixed Tryz.func128 rfl c_128 (by simp[Sym.los,Sym.lo]) ?_
 by_cases h2:l.length<2
 .have H:(l.length:Int)<2:=by omega
  simp+decide[Tryz.f128,H]
 have H:¬(l.length:Int)<2:=by omega
 simp+decide[Tryz.f128,H]
 refine zm mixed (λk:Nat=>{n:=61,next:=1,slots:=[(0,.ar 0),(3,.d (int k))],own:=[(0,.arr 3 1 (l.map wT))],base:=1})
  (λk=>1<=k/\k<=l.length) (λk=>l.length-k) 1 (by omega) (by simp+decide[int]) ?_
 rintro k ⟨J,M⟩
 by_cases G:k<l.length
 .have F:(k:Int)<l.length:=by omega
  obtain⟨j,rfl⟩:∃ j,k=j+1:=⟨k-1,by omega⟩
  have O:j<l.length:=by omega
  have E:(j:Int)<l.length:=by omega
  have e1:l[j+1]?=some l[j+1]:=List.getElem?_eq_getElem G
  have e0:l[j]?=some l[j]:=List.getElem?_eq_getElem O
  have K:¬l[j+1]=l[j]:=by
   have:=List.pairwise_iff_getElem.1 hs j (j+1) O G (by omega)
   omega
  have j1:((j:Int)+1-1)=j:=by omega
  have jn:((j:Int)+1).toNat=j+1:=by omega
  have j0:(0:Int)<=(j:Int)+1:=by omega
  simp+decide[int,G,O,E,K,j1,jn,j0,I64];exact λ_=>⟨by omega,by omega,⟨by omega,by omega⟩,j+2,⟨by omega,by omega⟩,by omega,by omega⟩
 .have:k=l.length:=by omega
  subst this;simp+decide[int]
theorem B6(l:List Int):zj Tryz.prog 130 [ints l] (wS l):=by
 refine zn mixed Tryz.func130 rfl c_130 ?_
 simp+decide[Tryz.f130,ints]
theorem Wz(l:List Int)(H:l≠[])(G:l.length<2^40):ua Tryz.prog 129 [.fn 188 [.ptr [ints l]]] 3 1 ((ql l).map wT):=by
 refine Jm mixed Tryz.func129 rfl c_129 (by simp) ?_
 simp+decide[Tryz.f129]
 refine zC.fresh (by rfl) (SX l H G) (by simp) ?_
 simp+decide
 refine zC.mut [1] [.ar 0] [(0,.arr 3 1 (l.map wT))] (by rfl) (by simp) (by simp[Sym.los,Sym.lo]) (by simp) (SZ l H (by omega)) ?_
 simp+decide
theorem T8(l:List Int)(H:l≠[])(G:l.length<2^40)(F:l.Nodup):wj Tryz.prog 78 [ints l] (ints (ql l)):=by
 have hs:(ql l).Pairwise λa b=>a<b:=by
  have E:(ql l).Pairwise λa b=>decide (a<=b)=true:=List.pairwise_mergeSort (λa b c E h2=>by simp at *;omega) (λa b=>by simp;omega) l
  have h2:(ql l).Nodup:=(Kx l).nodup_iff.2 F
  exact(List.pairwise_and_iff.2 ⟨E,h2⟩).imp λ{a b} h=>by have:=h.1;have:=h.2;simp at *;omega
 have K:ua Tryz.prog 78 [ints l] 3 1 ((ql l).map wT):=by
  refine Jm mixed Tryz.func78 rfl c_78 (by simp) ?_
  simp+decide[Tryz.f78];refine zg (B6 l) ?_
  simp+decide
  refine zC.fresh (by rfl) (Wz l H G) (by simp[Vg]) ?_
  simp+decide
  refine zC.mut [1] [.ar 0] [(0,.arr 3 1 ((ql l).map wT))] (by rfl) (by simp) (by simp[Sym.los,Sym.lo]) (by simp) (T0 (ql l) hs (by rw[Kw];omega)) ?_
  simp+decide
 exact UY K (Vg _)
theorem T9{P:Program}{f:Nat}{ds:List D}(T sz:Nat){nx:Nat}{own':List (Nat×Obj')}{mv:List Nat}(h:zA P f (ds.map .d) [] 0 .nils nx own' mv):ua P f ds T sz []:=by
 refine⟨h.1,by simp,λw E vs F K=>?_⟩
 have J:Mods E (.of w) (zR [] 0 0 []) (λ_=>.pointer none) xx w:=
  ⟨⟨λb L hmay=>hmay.elim (λh=>by have:w.heap.size<=b:=h;have:=F.1 b L;omega) (λh=>h),F.2.over (Over.less λb h=>h.elim id False.elim)⟩,⟨Nat.le_refl _,λ_ _ _=>rfl⟩,λ_=>rfl,rfl,rfl,Kept.refl _,by simp[zR],by simp[zR],by simp[zR],by intro t s M;simp[zR,za] at M⟩
 have H:Over w E w (Ex E (λ_=>Value.pointer none) []):=Over.less λb L=>L.elim id λ⟨_,_,O,_⟩=>by cases O
 refine(h.2 E (.of w) _ w vs rfl J (zb.vB (zt.over H _ _ K))).mono λe w' Q=>?_
 obtain⟨β',v,rfl,G,_,hs⟩:=Q
 simp only[Sm] at hs
 exact⟨v,[],rfl,G.below.below,⟨by simp,.inl ⟨hs,rfl⟩⟩,λb L=>by rw[hs] at L;simp[blk] at L,by simp[zc]⟩
theorem Ta:zA Tryz.prog 188 [.yd 0,.d (.ptr [ints []])] (qu []) 2 (.d (.tup [])) 2 (qu []) []:=by
 refine zA.QJ (xA mixed Tryz.func188 rfl c_188 (by simp[Sym.los,Sym.lo]) ?_)
 simp+decide[Tryz.f188,ints]
 refine x9 mixed (λ_:Unit=>{n:=16,next:=2,base:=2,slots:=[(6,.d (int 0)),(7,.d (int 0))],own:=qu []}) (λ_=>True) (λ_=>0) () trivial (by simp+decide[int,qu,qK]) ?_
 intro _ _
 refine JD ?_
 simp+decide[int,qu,qK]
theorem Tc:zA Tryz.prog 224 [.nils,.d (wS [])] [] 0 .nils 3 [] []:=by
 refine N4 Tryz.func224 rfl c_224 (by simp[Sym.los,Sym.lo]) ?_
 refine gG mixed 1 {n:=13,next:=2,slots:=[(1,.d (wS [])),(2,.bp 0 0)],own:=[(0,.box 31 [.nils])]} rfl ?_ ?_
 .simp+decide[Tryz.f224,x8]
 simp only[xB]
 refine JF (gG mixed 1 {n:=13,next:=2,slots:=[(2,.bp 0 0),(6,.d (wS []))],own:=[(0,.box 31 [.nils])]} rfl ?_ ?_)
 .simp+decide[x8]
 simp only[xB]
 refine JG (JE (k:=0) (ids:=[2,0]) (args0:=[.yd 0,.d (.ptr [ints []])]) (own0:=qu []) (by rfl) (by simp[rho]) (by simp[rho]) (by simp[Sym.los,Sym.lo]) ?_ Ta ?_)
 .simp+decide[qu,qK,xY,qD,qE,vI,Tryz.f224]
 .simp+decide[qu,qK]
theorem Td:zA Tryz.prog 248 [.nils,.d (int 0),.d (int 0)] [] 0 (.tup []) 0 [] []:=by
 refine xA mixed Tryz.func248 rfl c_248 (by simp[Sym.los,Sym.lo]) ?_
 simp+decide[Tryz.f248,int]
 refine⟨by unfold I64;omega,zm mixed (λ_:Unit=>{n:=49,next:=0,slots:=[(2,.d (int 0)),(6,.d (int 1))],own:=[]})
  (λ_=>True) (λ_=>0) () trivial (by simp+decide[int]) ?_⟩
 intro _ _
 simp+decide[int]
theorem Tf:zA Tryz.prog 225 [.nils,.d (int 0),.d (int 0),.d (int 0)] [] 0 (.tup []) 0 [] []:=by
 refine xA mixed Tryz.func225 rfl c_225 (by simp[Sym.los,Sym.lo]) ?_
 simp+decide[Tryz.f225,int]
 refine zm mixed (λ_:Unit=>{n:=134,next:=0,slots:=[(0,.nils),(1,.d (int 0)),(2,.d (int 0))],own:=[]})
  (λ_=>True) (λ_=>0) () trivial (by simp+decide[int]) ?_
 intro _ _
 simp+decide[int]
 refine⟨by unfold I64;omega,?_⟩
 refine zC.mut [] [.nils,.d (int 0),.d (int 0)] [] (by rfl) (by simp[int]) (by simp) (by simp) Td ?_
 simp+decide
theorem Ti:zA Tryz.prog 187 [.nils] [] 0 (.tup []) 0 [] []:=by
 refine xA mixed Tryz.func187 rfl c_187 (by simp[Sym.los,Sym.lo]) ?_
 simp+decide[Tryz.f187,vf,show IntKind.wrap .u64 0=0 from rfl]
 refine zg Rh ?_
 simp+decide[int]
 refine zC.mut [] [.nils,.d (int 0),.d (int 0),.d (int 0)] [] (by rfl) (by simp[int]) (by simp) (by simp) Tf ?_
 simp+decide
theorem Tj:zA Tryz.prog 128 [.nils] [] 0 .nils 0 [] []:=by
 refine xA mixed Tryz.func128 rfl c_128 (by simp[Sym.los,Sym.lo]) ?_
 simp+decide[Tryz.f128]
theorem Tm:zA Tryz.prog 186 [.d (wS [])] [] 0 .nils 3 [] []:=by
 refine xA mixed Tryz.func186 rfl c_186 (by simp[Sym.los,Sym.lo]) ?_
 simp+decide[Tryz.f186]
 refine zC.mut [] [.nils,.d (wS [])] [] (by rfl) (by simp) (by simp[Sym.los,Sym.lo]) (by simp) Tc ?_
 simp+decide
theorem Tn:zA Tryz.prog 129 [.d (wS [])] [] 0 .nils 3 [] []:=by
 refine xA mixed Tryz.func129 rfl c_129 (by simp[Sym.los,Sym.lo]) ?_
 simp+decide[Tryz.f129]
 refine zC.mut [] [.d (wS [])] [] (by rfl) (by simp) (by simp[Sym.los,Sym.lo]) (by simp) Tm ?_
 simp+decide
 refine zC.mut [] [.nils] [] (by rfl) (by simp) (by simp[Sym.los,Sym.lo]) (by simp) Ti ?_
 simp+decide
theorem Tq:wj Tryz.prog 78 [ints []] (ints []):=by
 have h:zA Tryz.prog 78 [.d (ints [])] [] 0 .nils 3 [] []:=by
  refine xA mixed Tryz.func78 rfl c_78 (by simp[Sym.los,Sym.lo]) ?_
  simp+decide[Tryz.f78];refine zg (B6 []) ?_
  simp+decide
  refine zC.mut [] [.d (wS [])] [] (by rfl) (by simp) (by simp) (by simp) Tn ?_
  simp+decide
  refine zC.mut [] [.nils] [] (by rfl) (by simp) (by simp[Sym.los,Sym.lo]) (by simp) Tj ?_
  simp+decide
 exact UY (T9 (ds:=[.sl []]) 3 1 h) rfl
theorem Tt:ql []=[]:=by simp[ql]
theorem Tv(l:List Int)(H:l.length<2^40)(G:l.Nodup):wj Tryz.prog 78 [ints l] (ints (ql l)):=by
 by_cases h:l=[]
 .subst h;rw[Tt];exact Tq
 .exact T8 l h H G
end Go.V.Doc
namespace Go.V.Doc
open Go Go.Proofs
section
variable {P:Program} {st:St} {Q:DE->St->Prop}
theorem Tz{f:Nat}{fn:Func}{c:Code}(F:P.funcs[f]?=some fn)(K:fn.body=some c)(G:callable P f=true){args:List D}{r:D}
  (h:Triple P c (kp (ko P fn.results.toList r)) (vE fn.ntmps args)):zj P f args r:=by
 refine⟨G,λw E vs J L=>?_⟩
 refine calls_of_wp F K ?_
 refine wp_mono (h E (.of w) _ _ w (Mods.init J L)) ?_
 rintro e a' w' ⟨de,st',β',M,O,H⟩
 cases e <;> cases de <;> simp only[zU] at M
 .obtain⟨v,Q,h2⟩:=wu H O
  exact⟨H.defers,v,Q,v,rfl,H.below.below,h2⟩
 .exact O.elim
 .obtain⟨v,Q,h2⟩:=wu H O
  exact⟨H.defers,v,Q,v,rfl,H.below.below,h2⟩
def Vo{α:Type}(S:α->St)(inv:α->Prop)(Q:DE->St->Prop):DE->St->Prop
 |.normal,st=>∃ x,inv x/\Weak st (S x)
 |e,st=>Q e st
theorem B7{α:Type}{x y:Code}(S:α->St)(inv:α->Prop)(h:Triple P x (Vo S inv Q) st)(h2:∀ z,inv z->Triple P y Q (S z)):Triple P (.seq x y) Q st:=by
 intro X w0 β a w G
 refine wp_seq (wp_mono (h X w0 β a w G) ?_)
 rintro e a' w' ⟨de,st',β',F,E,H⟩
 cases e <;> cases de <;> simp only[zU] at F
 .obtain⟨z,K,J⟩:=E
  exact h2 z K X w0 β' a' w' (H.weak J)
 .subst F;exact⟨.exit _,st',β',rfl,E,H⟩
 .exact⟨.ret,st',β',trivial,E,H⟩
theorem TA{c:Code}{id T e sz:Nat}(h:st.look id=some (.box T [.nils]))(E:Triple P c Q {st.new (.arr e sz []) with own:=zD id (.box T [.ar st.next]) (st.new (.arr e sz [])).own}):Triple P c Q st:=by
 intro X w0 β a w K
 refine E X w0 (λi=>if i=st.next then .slice none 0 0 else β i) a w ?_
 have G:=K.VZ e sz
 obtain⟨hid,_,b,vs,J,L,M,hs,O⟩:=K.obj h
 have F:¬st.next=id:=by omega
 have H:¬id=st.next:=by omega
 have V:(st.new (.arr e sz [])).look id=some (.box T [.nils]):=by simp only[St.look,St.new,za,if_neg F];exact h
 refine G.update V (b:=b) (by simp only[if_neg H];rw[J];rfl) L (λ_ _=>rfl) rfl rfl rfl rfl (vx.refl _) (by simp[Obj'.lo,Sym.los,Sym.lo,St.new]) ?_
 refine⟨b,vs,by simp only[if_neg H];exact J,L,M,?_,O⟩
 simp only[zb,Sm] at hs ⊢
 simpa using hs
theorem B8{α:Type}{S:α->St}{inv:α->Prop}:Vo S inv Q .normal st = ∃ x,inv x/\Weak st (S x):=rfl
theorem B9{α:Type}{S:α->St}{inv:α->Prop}(i:Nat):Vo S inv Q (.exit i) st=Q (.exit i) st:=rfl
theorem Ba{α:Type}{S:α->St}{inv:α->Prop}:Vo S inv Q .ret st=Q .ret st:=rfl
theorem TB{c:Code}{id T:Nat}(h:st.look id=some (.map T []))(H:Triple P c Q {st with own:=zD id (.raw (.mq []) []) st.own}):Triple P c Q st:=
 λX w0 β a w hm=>H X w0 β a w (hm.mq0 h)
end
theorem Bc{st:St}{m:Nat}:∀ {l:List (Nat×Sym)},(∀ t s,(t,s)∈l->za st.slots t=some s/\Sym.lo m s)->Zy st m l
 | [],_=>trivial
 |(t,s)::r,h=>by
  obtain⟨H,h2⟩:=h t s List.mem_cons_self;unfold Zy;rw[H];exact⟨rfl,h2,Bc λt s G=>h t s (List.mem_cons_of_mem _ G)⟩
theorem Bd{st:St}{m:Nat}:∀ {l:List (Nat×Obj')},(∀ t s,(t,s)∈l->za st.own t=some s/\t<m/\s.lo m)->Zz st m l
 | [],_=>trivial
 |(t,s)::r,h=>by
  obtain⟨H,h2,G⟩:=h t s List.mem_cons_self;unfold Zz;rw[H];exact⟨rfl,h2,G,Bd λt s F=>h t s (List.mem_cons_of_mem _ F)⟩
theorem Vp{α:Type}:∀ {l:List (Nat×α)} {t:Nat} {s:α},(l.map (·.1)).Nodup->(t,s)∈l->za l t=some s
 | [],t,s,_,h=>by cases h
 |(u,x)::r,t,s,H,h=>by
  simp only[List.map_cons,List.nodup_cons] at H;rcases List.mem_cons.1 h with e | h
  .cases e;simp[za]
  .have:¬u=t:=λe=>H.1 (by rw[e];exact List.mem_map.2 ⟨_,h,rfl⟩)
   simp only[za,if_neg this];exact Vp H.2 h
theorem Xx{st st':St}(H:st'.n=st.n)(h2:st'.base=st.base)(G:st'.base<=st'.next)(F:∀ id∈st.moved,id∈st'.moved)(E:(st'.own.map (·.1)).Nodup)
  (hs:∀ t s,(t,s)∈st'.slots->za st.slots t=some s/\Sym.lo st'.next s) (K:∀ t s,(t,s)∈st'.own->za st.own t=some s/\t<st'.next/\s.lo st'.next):Weak st st':=
 ⟨⟨H,h2,G,F⟩,E,Bc hs,Bd K⟩
attribute [local simp] B8 B9 Ba
def zT(d:Dc)(L:List zX):List (Nat×Obj'):=[(0,.box 53 (zW d)),(2,.raw (.mq (yU L)) (yh L)),(3,.box 182 [.mp 2])]
def yK(d:Dc)(id:Int)(x:Nat×List zX×Nat):St:=
 {n:=46,next:=x.2.2,slots:=[(1,.d (int id)),(2,.bp 0 0),(5,.bp 3 0),(14,.d (zl d.notes)),(15,.d (int d.notes.length)),(16,.d (int x.1))],own:=zT d x.2.1++yD x.2.1,moved:=zB x.2.1}
structure UInv(d:Dc)(x:Nat×List zX×Nat):Prop where
 le:x.1<=d.notes.length
 nx:4<=x.2.2
 ids:∀ i∈zB x.2.1,4<=i/\i<x.2.2
 nodup:(zB x.2.1).Nodup
 kids:∀ p,qt x.2.1 p=vr (d.notes.take x.1) p
theorem UInv.own{d:Dc}{x:Nat×List zX×Nat}(h:UInv d x){id:Int}:((yK d id x).own.map (·.1)).Nodup/\∀ t s,(t,s)∈(yK d id x).own->za (yK d id x).own t=some s/\t<x.2.2/\s.lo x.2.2:=by
 obtain⟨k,L,nx⟩:=x
 obtain⟨F,h2,E,K,J⟩:=h
 simp only at F h2 E K J
 have H:((yK d id (k,L,nx)).own.map (·.1)).Nodup:=by
  have e:(yK d id (k,L,nx)).own.map (·.1)=[0,2,3]++zB L:=by simp[yK,zT,yD,zB,Function.comp_def]
  rw[e,List.nodup_append];refine⟨by decide,K,λa M b O e=>?_⟩
  subst e;have:=(E a O).1
  simp at M
  omega
 refine⟨H,λt s Q=>⟨Vp H Q,?_⟩⟩
 have G:Sym.los nx (yh L):=by
  clear H Q K J;induction L with
  |nil=>simp[yh,Sym.los]
  |cons g L ih=>
   have:=ih λi hi=>E i (by simp only[zB,List.map_cons,List.mem_cons] at hi ⊢;exact .inr hi)
   simp only[yh,List.map_cons,Sym.los,Sym.lo] at this ⊢;exact⟨(E g.2.1 (by simp[zB])).2,this⟩
 simp only[yK,zT,List.cons_append,List.nil_append,List.mem_cons] at Q
 rcases Q with e | e | e | Q
 .cases e;exact⟨by simp only;omega,by simp[Obj'.lo,Sym.los,Sym.lo]⟩
 .cases e;exact⟨by simp only;omega,by simpa[Obj'.lo] using G⟩
 .cases e;exact⟨by simp only;omega,by simp[Obj'.lo,Sym.los,Sym.lo];omega⟩
 .obtain⟨g,T,e⟩:=List.mem_map.1 Q
  cases e;exact⟨(E g.2.1 (List.mem_map.2 ⟨g,T,rfl⟩)).2,by simp[Obj'.lo]⟩
theorem Xy{d:Dc}{m:Nat}{x:Nat×List zX×Nat}(G:UInv d (m,x.2)){id:Int}{st:St}(F:st.n=46)(h2:st.base=0)(E:∀ i∈st.moved,i∈zB x.2.1)
  (hs:∀ t s,(t,s)∈(yK d id x).slots->za st.slots t=some s) (K:∀ t s,za (yK d id x).own t=some s->za st.own t=some s):Weak st (yK d id x):=by
 have J:=G.own (id:=id)
 refine Xx F.symm h2.symm (Nat.zero_le _) E J.1 (λt s L=>⟨hs t s L,?_⟩) (λt s L=>⟨K t s (J.2 t s L).1,(J.2 t s L).2⟩)
 have H:=G.nx
 simp only at H
 simp only[yK,List.mem_cons,List.not_mem_nil,or_false,Prod.mk.injEq] at L ⊢
 rcases L with⟨_,rfl⟩ | ⟨_,rfl⟩ | ⟨_,rfl⟩ | ⟨_,rfl⟩ | ⟨_,rfl⟩ | ⟨_,rfl⟩ <;> simp[Sym.lo] <;> omega
def zr(d:Dc)(id:Int)(k:Nat)(L:List zX)(nx:Nat)(n:Nt):St:=
 {n:=46,next:=nx+1,slots:=[(1,.d (int id)),(2,.bp 0 0),(5,.bp 3 0),(7,.bp nx 0),(14,.d (zl d.notes)),(15,.d (int d.notes.length)),(16,.d (int k))],own:=(nx,.box 72 (noteCells n))::(zT d L++yD L),moved:=zB L}
theorem UInv.TC{d:Dc}{x:Nat×List zX×Nat}(h:UInv d x):x.2.2∉zB x.2.1:=λH=>by have:=(h.ids _ H).2;omega
theorem TD{d:Dc}{id:Int}{k:Nat}{L:List zX}{nx:Nat}{n:Nt}(H:UInv d (k,L,nx)){st:St}(G:st.n=46)(h2:st.base=0)(F:∀ i∈st.moved,i∈zB L)
  (hs:∀ t s,(t,s)∈(zr d id k L nx n).slots->za st.slots t=some s) (E:st.own=(zr d id k L nx n).own):Weak st (zr d id k L nx n):=by
 have K:=H.own (id:=id)
 have J:=H.nx
 simp only at J
 have M:((zr d id k L nx n).own.map (·.1)).Nodup:=by
  have e:(zr d id k L nx n).own.map (·.1)=nx::(yK d id (k,L,nx)).own.map (·.1):=rfl
  rw[e,List.nodup_cons];refine⟨λO=>?_,K.1⟩
  obtain⟨⟨t,s⟩,Q,T⟩:=List.mem_map.1 O;have:=(K.2 t s Q).2.1
  simp only at T this
  omega
 refine Xx G.symm h2.symm (Nat.zero_le _) F M (λt s O=>⟨hs t s O,?_⟩) (λt s O=>⟨by rw[E];exact Vp M O,?_⟩)
 .simp only[zr,List.mem_cons,List.not_mem_nil,or_false,Prod.mk.injEq] at O ⊢
  rcases O with⟨_,rfl⟩ | ⟨_,rfl⟩ | ⟨_,rfl⟩ | ⟨_,rfl⟩ | ⟨_,rfl⟩ | ⟨_,rfl⟩ | ⟨_,rfl⟩ <;> simp[Sym.lo] <;> omega
 .rcases List.mem_cons.1 O with e | O
  .cases e
   exact⟨by simp only[zr];omega,by simp[Obj'.lo,Sym.los,Sym.lo]⟩
  .have:=(K.2 t s O).2
   simp only at this
   exact⟨by simp only[zr];omega,Obj'.jr (by simp only[zr];omega) this.2⟩
theorem Be:∀ {L:List zX} {p:Int} {g:Nat×List Int},xO L p=some g->qt L p=g.2
 | [],p,g,h=>by cases h
 |a::L,p,g,h=>by
  unfold xO at h;unfold qt;split at h
  .rename_i e;cases h;rw[if_pos e]
  .rename_i e;rw[if_neg e];exact Be h
theorem Bf(L:List zX):yh L=(zB L).map Sym.ar:=by simp[yh,zB]
theorem TE{d:Dc}{L L':List zX}{nx:Nat}{g:Nat×List Int}{ob:Obj'}{bx:Obj'}(E:yU L'=yU L)(hi:zB L'=zB L)(K:∀ i,za (yD L') i=if i=g.1 then some ob else za (yD L) i)
  (J:∀ i∈zB L,4<=i/\i<nx) (O:g.1∈zB L) (G:4<=nx):∀ t s,za (zT d L'++yD L') t=some s->za (zD 2 (.raw (.mq (yU L)) (yh L)) (xJ g.1 ob ((nx,bx)::(zT d L++yD L)))) t=some s:=by
 intro t s hs
 have F:=J _ O
 rw[uf,gB]
 rw[Zb] at hs
 by_cases t2:t=2
 .subst t2
  simp[zT,za] at hs;rw[if_pos rfl,<-hs,E,Bf,Bf,hi]
 rw[if_neg t2]
 by_cases t0:t=0
 .subst t0
  have b0:¬0=g.1:=by omega
  have n0:¬nx=0:=by omega
  simp[zT,za] at hs;subst hs;simp[zT,za,n0,b0,xP,yk,zo,zW]
 by_cases t3:t=3
 .subst t3
  have b0:¬3=g.1:=by omega
  have b2:¬2=g.1:=by omega
  have n0:¬nx=3:=by omega
  simp[zT,za] at hs;subst hs;simp[zT,za,n0,b0,b2,xP,yk,zo]
 have e0:¬0=t:=λe=>t0 e.symm
 have e2:¬2=t:=λe=>t2 e.symm
 have e3:¬3=t:=λe=>t3 e.symm
 simp[zT,za,e0,e2,e3] at hs
 have H:¬nx=t:=by
  intro e;rw[<-e,K,if_neg (by omega)] at hs
  have:=(J _ (ZU hs).1).2
  omega
 simp only[zT,List.cons_append,List.nil_append,za,if_neg H,if_neg e0,if_neg e2,if_neg e3]
 rw[K] at hs
 by_cases e:t=g.1
 .rw[if_pos e] at hs
  cases hs;cases Q:za (yD L) t with
  |none=>
   exfalso
   rw[e] at Q;have:∀ M:List zX,g.1∈zB M->za (yD M) g.1≠none:=by
    intro M;induction M with
    |nil=>intro h;simp[zB] at h
    |cons a M ih=>
     intro h;simp only[zB,List.map_cons,List.mem_cons] at h;simp only[yD,List.map_cons,za];by_cases T:a.2.1=g.1
     .rw[if_pos T];simp
     .rw[if_neg T];exact ih (h.resolve_left λe=>T e.symm)
   exact this L O Q
  |some o=>simp[e]
 .rw[if_neg e] at hs
  obtain⟨_,ks,rfl⟩:=ZU hs;rw[hs];simp[e,xP]
theorem TF{d:Dc}{L:List zX}{p x:Int}{nx:Nat}{bx:Obj'}{o0:Obj'}(E:xO L p=none)(K:∀ i∈zB L,4<=i/\i<nx)(F:4<=nx):
  ∀ t s,za (zT d (xX L p x (nx+1))++yD (xX L p x (nx+1))) t=some s ->
   za (zD 2 (.raw (.mq (yU L++[p])) (yh L++[.ar (nx+1)])) (xJ (nx+1) (.arr 3 1 [[int x]]) ((nx+1,o0)::(nx,bx)::(zT d L++yD L)))) t=some s:=by
 intro t s hs
 have H:nx+1∉zB L:=λJ=>by have:=(K _ J).2;omega
 have M:=SQ (x:=x) (nx:=nx+1) E H
 rw[uf,gB]
 rw[Zb] at hs
 by_cases t2:t=2
 .subst t2
  simp[zT,za] at hs;rw[if_pos rfl,<-hs,Vm E];simp[yU,yh]
 rw[if_neg t2]
 by_cases t0:t=0
 .subst t0
  have b0:¬0=nx+1:=by omega
  have n0:¬nx=0:=by omega
  simp[zT,za] at hs;subst hs;simp[zT,za,n0,xP,yk,zo,zW]
 by_cases t3:t=3
 .subst t3
  have b0:¬nx+1=3:=by omega
  have b1:¬3=nx+1:=by omega
  have b2:¬2=nx+1:=by omega
  have n0:¬nx=3:=by omega
  simp[zT,za] at hs;subst hs;simp only[zT,List.cons_append,List.nil_append,za,if_neg b0,if_neg n0];simp[b1,b2,xP,yk,zo]
 have e0:¬0=t:=λe=>t0 e.symm
 have e2:¬2=t:=λe=>t2 e.symm
 have e3:¬3=t:=λe=>t3 e.symm
 simp[zT,za,e0,e2,e3] at hs
 rw[M] at hs
 by_cases e:t=nx+1
 .subst e
  rw[if_pos rfl] at hs;cases hs;simp[za]
 rw[if_neg e] at hs
 have G:¬nx=t:=by
  intro e;rw[<-e] at hs;have:=(K _ (ZU hs).1).2
  omega
 have en:¬nx+1=t:=λe2=>e e2.symm
 obtain⟨_,ks,rfl⟩:=ZU hs
 simp only[zT,List.cons_append,List.nil_append,za,if_neg en,if_neg G,if_neg e0,if_neg e2,if_neg e3,hs]
 simp[e,xP]
theorem Bg(id:Nat)(x:D):∀ (l:List (Nat×Obj')) (t:Nat),za (xw id x l) t=if t=id then none else (za l t).map (gp id x)
 | [],t=>by simp[xw,za]
 |(k,o)::r,t=>by
  have ih:=Bg id x r t;unfold xw;by_cases e:k=id
  .rw[if_pos e,ih]
   by_cases e2:t=id
   .rw[if_pos e2,if_pos e2]
   .have:¬k=t:=λe3=>e2 (e3.symm.trans e)
    rw[if_neg e2,if_neg e2];simp only[za,if_neg this]
  .rw[if_neg e]
   simp only[za];by_cases e2:k=t
   .have:¬t=id:=λe3=>e (e2.trans e3)
    rw[if_pos e2,if_pos e2,if_neg this];rfl
   .rw[if_neg e2,if_neg e2,ih]
def yV(d:Dc)(id:Int)(nx:Nat)(M:List Nat)(L1 L2:List zX):St:=
 {n:=46,next:=nx,slots:=[(1,.d (int id)),(2,.bp 0 0),(5,.bp 3 0)],own:=[(0,.box 53 (zW d)),(2,.raw (.mq (yU (L1++L2))) ((L1.map λg=>Sym.d (ints g.2.2))++yh L2)),(3,.box 182 [.mp 2])]++yD L2,moved:=M}
theorem Bh(j:Nat)(x:D):∀ L:List zX,xl j x (L.map λg=>Sym.d (ints g.2.2))=L.map λg=>Sym.d (ints g.2.2)
 | []=>rfl
 |g::L=>by simp only[List.map_cons,xl,thaw,Bh j x L]
theorem Bi(j:Nat)(x:D):∀ l m:List Sym,xl j x (l++m)=xl j x l++xl j x m
 | [],m=>rfl
 |s::l,m=>by simp only[List.cons_append,xl,Bi j x l m]
theorem Bj{j:Nat}{x:D}:∀ {L:List zX},j∉zB L->xl j x (yh L)=yh L
 | [],_=>rfl
 |g::L,h=>by
  simp only[zB,List.map_cons,List.mem_cons,not_or] at h;have ih:=Bj (x:=x) (L:=L) h.2;have:¬g.2.1=j:=λe=>h.1 e.symm
  simp only[yh,List.map_cons,xl,thaw,if_neg this] at ih ⊢;rw[ih]
theorem Bl{X:Nat->Prop}{w0:Base}{β:Nat->Value}{a:Act}{w:World}{d:Dc}{id:Int}{nx:Nat}{M:List Nat}(T:4<=nx):∀ (L2 L1:List zX),(∀ i∈zB L2,4<=i/\i<nx)->(zB L2).Nodup->Mods X w0 (yV d id nx M L1 L2) β a w->Mods X w0 (yV d id nx M (L1++L2) []) β a w
 | [],L1,_,_,A=>by rw[List.append_nil];exact A
 |g::L2,L1,B,H,A=>by
  have e:L1++g::L2=(L1++[g])++L2:=by simp
  rw[e];simp only[zB,List.map_cons,List.nodup_cons] at H;have C:=B g.2.1 (by simp[zB])
  have E:g.2.1∉zB L2:=H.1
  have G:∀ i∈zB L2,4<=i/\i<nx:=λi hi=>B i (by simp only[zB,List.map_cons,List.mem_cons] at hi ⊢;exact .inr hi)
  refine Bl T L2 (L1++[g]) G H.2 ?_
  have n0:¬0=g.2.1:=by omega
  have n2:¬2=g.2.1:=by omega
  have n3:¬3=g.2.1:=by omega
  have J:(yV d id nx M L1 (g::L2)).look g.2.1=some (.arr 3 1 (g.2.2.map λn=>[int n])):=by
   simp only[St.look,yV,yD,List.map_cons,List.cons_append,List.nil_append,za,if_neg n0,if_neg n2,if_neg n3,if_true]
  have I:=A.xm g.2.1;unfold St.xm at I;rw[J] at I;refine I.weak (Xx rfl rfl (Nat.zero_le _) (λ_ h=>h) ?_ ?_ ?_)
  .have:(yV d id nx M (L1++[g]) L2).own.map (·.1)=[0,2,3]++zB L2:=by simp[yV,yD,zB,Function.comp_def]
   rw[this,List.nodup_append];refine⟨by decide,H.2,λa N b P e=>?_⟩
   subst e;have:=(G a P).1
   simp at N
   omega
  .intro t s A
   simp only[yV,List.mem_cons,List.not_mem_nil,or_false,Prod.mk.injEq] at A;rcases A with⟨rfl,rfl⟩ | ⟨rfl,rfl⟩ | ⟨rfl,rfl⟩ <;> simp[yV,vC,thaw,za,Sym.lo] <;> omega
  .intro t s F
   have V:Sym.los nx ((L1++[g]).map (λg=>Sym.d (ints g.2.2))++yh L2):=by
    have S:∀ (l m:List Sym),Sym.los nx l->Sym.los nx m->Sym.los nx (l++m):=by
     intro l;induction l with
     |nil=>intro m _ h;exact h
     |cons a l ih=>intro m S h2;simp only[List.cons_append,Sym.los] at S ⊢;exact⟨S.1,ih m S.2 h2⟩
    refine S _ _ ?_ ?_
    .generalize L1++[g]=L
     induction L with
     |nil=>simp[Sym.los]
     |cons a l ih=>simp only[List.map_cons,Sym.los,Sym.lo];exact⟨trivial,ih⟩
    .clear J I F H E A e
     induction L2 with
     |nil=>simp[yh,Sym.los]
     |cons a l ih=>
      simp only[yh,List.map_cons,Sym.los,Sym.lo];exact⟨(G a.2.1 (by simp[zB])).2,ih (λi hi=>B i (by simp only[zB,List.map_cons,List.mem_cons] at hi ⊢;rcases hi with h | h;exact .inl h;exact .inr (.inr h))) (λi hi=>G i (by simp only[zB,List.map_cons,List.mem_cons] at hi ⊢;exact .inr hi))⟩
   simp only[yV,List.cons_append,List.nil_append,List.mem_cons] at F;rw[Bg];rcases F with e | e | e | F
   .cases e;exact⟨by rw[if_neg n0];simp[yV,za,gp,xl,thaw,zW],by simp only[yV];omega,by simp[Obj'.lo,Sym.los,Sym.lo]⟩
   .cases e
    refine⟨?_,by simp only[yV];omega,by simp only[Obj'.lo];exact V⟩
    rw[if_neg n2];have W:yh (g::L2)=Sym.ar g.2.1::yh L2:=rfl
    simp only[yV,List.cons_append,List.nil_append,za,if_true,Option.map_some,gp,show ¬(0:Nat)=2 by decide,if_false,Bi,Bh,W,xl,thaw,Bj E]
    simp[ints,int]
   .cases e;exact⟨by rw[if_neg n3];simp[yV,za,gp,xl,thaw,n2],by simp only[yV];omega,by simp[Obj'.lo,Sym.los,Sym.lo,yV];omega⟩
   .obtain⟨q,hq,e⟩:=List.mem_map.1 F
    cases e;have O:q.2.1∈zB L2:=List.mem_map.2 ⟨q,hq,rfl⟩
    have Z:=G _ O;have Q:¬q.2.1=g.2.1:=λe=>E (by rw[<-e];exact O)
    have K:¬g.2.1=q.2.1:=λe=>Q e.symm
    have Y:za (yD L2) q.2.1=some (.arr 3 1 (q.2.2.map λn=>[int n])):=Vp (by simpa[yD,zB,Function.comp_def] using H.2) (List.mem_map.2 ⟨q,hq,rfl⟩)
    refine⟨?_,by simp only[yV];omega,by simp[Obj'.lo]⟩
    rw[if_neg Q];have m0:¬0=q.2.1:=by omega
    have m2:¬2=q.2.1:=by omega
    have m3:¬3=q.2.1:=by omega
    have W:yD (g::L2)=(g.2.1,Obj'.arr 3 1 (g.2.2.map λn=>[int n]))::yD L2:=rfl
    simp only[yV,List.cons_append,List.nil_append,za,if_neg m0,if_neg m2,if_neg m3,W,if_neg K,Y];rfl
def Zc(d:Dc)(id:Int)(L:List zX):St:=
 {n:=46,next:=4,slots:=[(1,.d (int id)),(2,.bp 0 0),(5,.bp 3 0)],own:=[(0,.box 53 (zW d)),(3,.box 182 [.d (.mp (kR L))])],moved:=zB L}
theorem TG{P:Program}{c:Code}{Q:DE->St->Prop}{d:Dc}{id:Int}{m:Nat}{x:Nat×List zX×Nat}(K:UInv d (m,x.2))(h:Triple P c Q (Zc d id x.2.1)):Triple P c Q (yK d id x):=by
 intro X w0 β a w J
 obtain⟨k,L,nx⟩:=x
 have M:∀ i∈zB L,4<=i/\i<nx:=K.ids
 have G:(zB L).Nodup:=K.nodup
 have E:4<=nx:=K.nx
 have O:=K.own (id:=id)
 have m0:Mods X w0 (yV d id nx (zB L) [] L) β a w:=by
  refine J.weak (Xx rfl rfl (Nat.zero_le _) (λ_ h=>h) O.1 ?_ O.2)
  intro t s J;simp only[yV,List.mem_cons,List.not_mem_nil,or_false,Prod.mk.injEq] at J;rcases J with⟨rfl,rfl⟩ | ⟨rfl,rfl⟩ | ⟨rfl,rfl⟩ <;> simp[yK,yV,za,Sym.lo] <;> omega
 have m1:=Bl E L [] M G m0
 rw[List.nil_append] at m1
 have F:(yV d id nx (zB L) L []).look 2=some (.raw (.mq (yU L)) ((L.map λg=>ints g.2.2).map Sym.d)):=by simp[yV,St.look,za,yh,Function.comp_def]
 have m2:=(m1.mqD (T:=182) F).xm 2
 have V:((yU L).zip (L.map λg=>ints g.2.2)).map (λp=>[D.int .i64 p.1,p.2])=kR L:=by
  clear J m0 m1 m2 F O K h M G;induction L with
  |nil=>rfl
  |cons g L ih=>simp only[yU,kR,List.map_cons,List.zip_cons_cons,int] at ih ⊢;rw[ih]
 rw[V] at m2
 have H:St.look {yV d id nx (zB L) L [] with own:=zD 2 (.map 182 (kR L)) (yV d id nx (zB L) L []).own} 2=some (.map 182 (kR L)):=by simp[yV,St.look,za,zD]
 unfold St.xm at m2
 rw[H] at m2
 refine h X w0 β a w (m2.weak (Xx rfl rfl (Nat.zero_le _) (λ_ h=>h) (by simp[Zc]) ?_ ?_))
 .intro t s J
  simp only[Zc,List.mem_cons,List.not_mem_nil,or_false,Prod.mk.injEq] at J;rcases J with⟨rfl,rfl⟩ | ⟨rfl,rfl⟩ | ⟨rfl,rfl⟩ <;> simp[Zc,yV,vC,thaw,za,Sym.lo]
 .intro t s J
  simp only[Zc,List.mem_cons,List.not_mem_nil,or_false,Prod.mk.injEq] at J;rcases J with⟨rfl,rfl⟩ | ⟨rfl,rfl⟩ <;> simp[Zc,yV,zD,xw,gp,xl,thaw,za,Sym.lo,Sym.los,Obj'.lo,yD,zW]
end Go.V.Doc
namespace Go.V.Doc
open Go Go.Proofs
attribute [local simp] B8 B9 Ba
theorem TJ(d:Dc)(h:Rgt d)(hl:d.notes.length<2^40)(n:Nt)(hn:n∈d.notes)(f:Nat)(hf:(d.tiers.length:Int)-n.tier<=f)(hc:(yw d.notes f n.id).length<2^40):zj Tryz.prog 59 [zq d,int n.id] (ints (ql (yw d.notes f n.id))):=by
 obtain⟨id,hid⟩:∃ id,n.id=id:=⟨_,rfl⟩
 have hG:=ZM d n.id (by omega)
 rw[wP h hn] at hG
 have N:=hc
 have hS:=Tv (yw d.notes f n.id) hc (CQ h f n hn hf)
 have J:∀ L:List zX,(∀ p,qt L p=vr d.notes p)->Vl L d.notes f n.id:=λL hL=>SL h hL f n hn hf
 rw[hid] at hG N hS J hc ⊢
 refine Tz Tryz.func59 rfl c_59 ?_
 refine ky mixed 2 {n:=46,next:=4,slots:=[(1,.d (int id)),(2,.bp 0 0),(5,.bp 3 0)],own:=[(0,.box 53 (zW d)),(2,.map 182 []),(3,.box 182 [.mp 2])]} rfl ?_ ?_
 .simp+decide[Tryz.f59,x8,zq,Dc.row,int,zl,zw]
 simp only[Tryz.f59,xB]
 refine TB (id:=2) rfl ?_
 refine B7 (yK d id) (λx=>UInv d x/\x.1=d.notes.length) ?_ ?_
 .refine ky mixed 1 (yK d id (0,[],4)) rfl ?_ ?_
  .simp+decide[x8,yK,zT,yU,yh,yD,zB,zD,int,zl]
  simp only[xB];refine Qz (x9 mixed (yK d id) (UInv d) (λx=>d.notes.length-x.1) (0,[],4) ?_ ?_ ?_)
  .exact⟨Nat.zero_le _,by simp,by simp[zB],by simp[zB],by simp[qt,vr]⟩
  .simp+decide[yK,zT,yU,yh,yD,zB]
  intro x hx;by_cases K:x.1<d.notes.length
  case neg=>
   have hk:x.1=d.notes.length:=by have:=hx.le;omega
   refine ya mixed ?_
   simp+decide[yK,int,hk,-Weak];refine⟨x.1,x.2.1,x.2.2,⟨hx,hk⟩,?_⟩
   refine Xy (x:=(x.1,x.2.1,x.2.2)) hx rfl rfl (λ_ h=>h) ?_ (λ_ _ h=>h)
   intro t s hm;simp only[yK,List.mem_cons,List.not_mem_nil,or_false,Prod.mk.injEq] at hm;rcases hm with⟨rfl,rfl⟩ | ⟨rfl,rfl⟩ | ⟨rfl,rfl⟩ | ⟨rfl,rfl⟩ | ⟨rfl,rfl⟩ | ⟨rfl,rfl⟩ <;> simp[za,hk,int]
  refine ky mixed 2 (yK d id x) rfl ?_ ?_
  .have G:(x.1:Int)<d.notes.length:=by omega
   simp+decide[x8,yK,int,G,-Weak];refine Xy (x:=x) hx rfl rfl (λ_ h=>h) ?_ (λ_ _ h=>h)
   intro t s hm;simp only[yK,List.mem_cons,List.not_mem_nil,or_false,Prod.mk.injEq] at hm;rcases hm with⟨rfl,rfl⟩ | ⟨rfl,rfl⟩ | ⟨rfl,rfl⟩ | ⟨rfl,rfl⟩ | ⟨rfl,rfl⟩ | ⟨rfl,rfl⟩ <;> simp[za,int]
  simp only[xB];refine B7 (λy:List zX×Nat=>yK d id (x.1,y)) (λy=>UInv d (x.1+1,y)) ?_ ?_
  .refine Qz ?_
   obtain⟨k,L,nx⟩:=x;obtain⟨n,en⟩:∃ n,d.notes[k]=n:=⟨_,rfl⟩;have e1:d.notes[k]?=some n:=by rw[List.getElem?_eq_getElem K,en]
   refine UT (zr d id k L nx n) ?_ ?_
   .refine ya mixed ?_
    have G:(k:Int)<d.notes.length:=by omega
    simp+decide[yK,int,zl,Nt.row,K,G,en,-Weak];refine TD hx rfl rfl (λ_ h=>h) ?_ rfl
    intro t s hm;simp only[zr,List.mem_cons,List.not_mem_nil,or_false,Prod.mk.injEq] at hm;rcases hm with⟨rfl,rfl⟩ | ⟨rfl,rfl⟩ | ⟨rfl,rfl⟩ | ⟨rfl,rfl⟩ | ⟨rfl,rfl⟩ | ⟨rfl,rfl⟩ | ⟨rfl,rfl⟩ <;> simp[za,int,zl]
   .have P:nx∉zB L:=hx.TC
    have h4:4<=nx:=hx.nx
    have H:∀ i∈zB L,4<=i/\i<nx:=hx.ids
    have M:(zB L).Nodup:=hx.nodup
    have a0:¬nx=0:=by omega
    have a2:¬nx=2:=by omega
    have a3:¬nx=3:=by omega
    cases hf:xO L n.par with
    |some g=>
     have T:g.1∈zB L:=List.mem_map.2 ⟨_,Xw hf,rfl⟩
     have H2:=H _ T;have b0:¬0=g.1:=by omega
     have b2:¬2=g.1:=by omega
     have b3:¬3=g.1:=by omega
     have bn:¬nx=g.1:=by omega
     have c2:¬g.1=2:=by omega
     have c3:¬g.1=3:=by omega
     have c0:¬g.1=0:=by omega
     have cn:¬g.1=nx:=by omega
     obtain⟨S,hS⟩:∃ S:St,S = {zr d id k L nx n with slots:=(20,.mp 2)::(21,.bp nx 2)::(22,.d (int n.par))::(23,.mp 2)::(24,.bp nx 2)::(25,.d (int n.par))::(26,.ar g.1)::(27,.bp nx 0)::(28,.d (int n.id))::(29,.d (.sl [[int n.id]]))::(zr d id k L nx n).slots}:=⟨_,rfl⟩;refine Gh mixed 11 10 S ((S.renew g.1 (.arr 3 1 ((g.2++[n.id]).map λn=>[int n]))).put (some 30) (.ar g.1)) 30 (.ar g.1) (zo g.1) (λst=>(st.renew g.1 (.arr 3 1 ((g.2++[n.id]).map λn=>[int n]))).put (some 30) (.ar g.1)) _ (by rfl) (by rfl) (by rfl) (by rfl) (by rfl) rfl rfl rfl ?_ (N1 S g.1 30 _) ?_ ?_ ?_
     .intro X w0 β a w hm
      subst hS;refine⟨rfl,rfl,rfl,rfl,rfl,λt s hs hj hL=>?_⟩
      simp only[za] at hs;split at hs
      .rename_i e;exact(hL 0 _ (by omega) rfl (congrArg some e)).elim
      split at hs
      .rename_i e;exact(hL 1 _ (by omega) rfl (congrArg some e)).elim
      split at hs
      .rename_i e;exact(hL 2 _ (by omega) rfl (congrArg some e)).elim
      split at hs
      .rename_i e;exact(hL 3 _ (by omega) rfl (congrArg some e)).elim
      split at hs
      .rename_i e;exact(hL 4 _ (by omega) rfl (congrArg some e)).elim
      split at hs
      .rename_i e;exact(hL 5 _ (by omega) rfl (congrArg some e)).elim
      split at hs
      .rename_i e;exact(hL 6 _ (by omega) rfl (congrArg some e)).elim
      split at hs
      .rename_i e;exact(hL 7 _ (by omega) rfl (congrArg some e)).elim
      split at hs
      .rename_i e;exact(hL 8 _ (by omega) rfl (congrArg some e)).elim
      split at hs
      .rename_i e;exact(hL 9 _ (by omega) rfl (congrArg some e)).elim
      exact hs
     .intro i o hi W ho
      have:i=0\/i=1\/i=2\/i=3\/i=4\/i=5\/i=6\/i=7\/i=8\/i=9:=by omega
      rcases this with rfl | rfl | rfl | rfl | rfl | rfl | rfl | rfl | rfl | rfl <;> simp only[List.getElem?_cons_zero,List.getElem?_cons_succ,Option.some.injEq] at ho <;> subst ho
      .refine xK (s:=.mp 2) rfl rfl (by subst hS;simp[zr]) (by subst hS;simp[Sym.lo,zr] <;> omega) ⟨by rfl,?_⟩ (by subst hS;simp[za]) (.inr ⟨by subst hS;simp[St.put,St.renew,zr],by subst hS;simp[St.put,St.renew,Sym.lo,zr] <;> omega,⟨by rfl,?_⟩,by subst hS;simp[za,St.put,St.renew,yy,zo,zr,b0,b2,b3,bn]⟩)
       .subst hS;simp+decide[zr,zT,za,St.val,St.look,int,a3]
       .subst hS;simp+decide[zr,zT,za,St.val,St.look,St.put,St.renew,xJ,xP,yk,zo,yy,int,a3,b0,b2,b3,bn]
      .refine xK (s:=.bp nx 2) rfl rfl (by subst hS;simp[zr]) (by subst hS;simp[Sym.lo,zr] <;> omega) ⟨by rfl,?_⟩ (by subst hS;simp[za]) (.inr ⟨by subst hS;simp[St.put,St.renew,zr],by subst hS;simp[St.put,St.renew,Sym.lo,zr] <;> omega,⟨by rfl,?_⟩,by subst hS;simp[za,St.put,St.renew,yy,zo,zr,b0,b2,b3,bn]⟩)
       .subst hS;simp+decide[zr,zT,za,St.val,int]
       .subst hS;simp+decide[zr,zT,za,St.val,St.put,St.renew,xJ,xP,yk,zo,yy,int,b0,b2,b3,bn]
      .refine xK (s:=.d (int n.par)) rfl rfl (by subst hS;simp[zr]) (by subst hS;simp[Sym.lo] <;> omega) ⟨by rfl,?_⟩ (by subst hS;simp[za]) (.inr ⟨by subst hS;simp[St.put,St.renew,zr],by subst hS;simp[Sym.lo] <;> omega,⟨by rfl,?_⟩,by subst hS;simp[za,St.put,St.renew,yy,zo,zr,b0,b2,b3,bn]⟩)
       .subst hS;simp+decide[zr,zT,za,St.val,St.look,int]
       .subst hS;simp+decide[zr,zT,za,St.val,St.look,St.put,St.renew,xJ,xP,yk,zo,yy,int,b0,b2,b3,bn]
      .refine xK (s:=.mp 2) rfl rfl (by subst hS;simp[zr]) (by subst hS;simp[Sym.lo,zr] <;> omega) ⟨by rfl,?_⟩ (by subst hS;simp[za]) (.inl ⟨5,by rfl⟩)
       subst hS;simp+decide[zr,zT,za,St.val,St.look,int,a3]
      .refine xK (s:=.bp nx 2) rfl rfl (by subst hS;simp[zr]) (by subst hS;simp[Sym.lo,zr] <;> omega) ⟨by rfl,?_⟩ (by subst hS;simp[za]) (.inl ⟨5,by rfl⟩)
       subst hS;simp+decide[zr,zT,za,St.val,int]
      .refine xK (s:=.d (int n.par)) rfl rfl (by subst hS;simp[zr]) (by subst hS;simp[Sym.lo] <;> omega) ⟨by rfl,?_⟩ (by subst hS;simp[za]) (.inl ⟨5,by rfl⟩)
       subst hS;simp+decide[zr,zT,za,St.val,St.look,int]
      .refine⟨rfl,26,.ar g.1,rfl,.inl ⟨5,by rfl⟩,?_,by subst hS;intro s' h1 _;simp[za] at h1;exact h1.symm⟩
       intro X w0 st β a w hn H0 F hk hm;have V:st.val (.tmp 23) = .mp 2:=by simp only[St.val];rw[hk 23 (by simp[tmpsOf,Op.operands]) (.mp 2) (by subst hS;simp[za]) (by simp)];rfl
       have Y:st.val (.tmp 25) = .d (.int .i64 n.par):=by simp only[St.val];rw[hk 25 (by simp[tmpsOf,Op.operands]) (.d (int n.par)) (by subst hS;simp[za]) (by simp)];rfl
       have O:st.look 2=some (.raw (.mq (yU L)) (yh L)):=by simp only[St.look];rw[F];subst hS;simp[zr,zT,za,a2]
       refine MW hm rfl (by intro t ht;cases ht;rw[hn];subst hS;simp[zr]) V O Y (kt:=3) (et:=31) (by kernel_rfl) ti_3 ti_31 rfl rfl rfl (by kernel_rfl) ?_
       rw[Kv,hf];rfl
      .refine xK (s:=.bp nx 0) rfl rfl (by subst hS;simp[zr]) (by subst hS;simp[Sym.lo,zr] <;> omega) ⟨by rfl,?_⟩ (by subst hS;simp[za]) (.inl ⟨5,by rfl⟩)
       subst hS;simp+decide[zr,zT,za,St.val,int]
      .refine xK (s:=.d (int n.id)) rfl rfl (by subst hS;simp[zr]) (by subst hS;simp[Sym.lo] <;> omega) ⟨by rfl,?_⟩ (by subst hS;simp[za]) (.inl ⟨5,by rfl⟩)
       subst hS;simp+decide[zr,zT,za,St.val,St.look,int]
      .refine xK (s:=.d (.sl [[int n.id]])) rfl rfl (by subst hS;simp[zr]) (by subst hS;simp[Sym.lo] <;> omega) ⟨by rfl,?_⟩ (by subst hS;simp[za]) (.inl ⟨5,by rfl⟩)
       subst hS;simp+decide[zr,zT,za,St.val,int]
     .intro X w0 L' st hN hk β a w hm
      have Z:za st.slots 26=some (.ar g.1):=hk 26 (by simp[tmpsOf,Op.operands,Call.operands]) (.ar g.1) (by subst hS;simp[za]) (by simp)
      have A:za st.slots 29=some (.d (.sl [[int n.id]])):=hk 29 (by simp[tmpsOf,Op.operands,Call.operands]) (.d (.sl [[int n.id]])) (by subst hS;simp[za]) (by simp)
      have O:za st.own g.1=some (.arr 3 1 (g.2.map λn=>[int n])):=by
       rw[hN.own];subst hS;simp only[zr,zT,List.cons_append,List.nil_append,za,if_neg bn,if_neg b0,if_neg b2,if_neg b3];exact SN hf M
      have Hb:g.2.length<=k:=by
       rw[<-Be hf,hx.kids n.par];unfold vr;rw[List.length_map];exact Nat.le_trans (List.length_filter_le _ _) (by rw[List.length_take];exact Nat.min_le_left _ _)
      have B:st.n=46:=by rw[hN.n];subst hS;rfl
      refine jv hm ?_
      simp+decide[zS,B,Z,A,O,int,maxLen];exact⟨by omega,by omega⟩
     .refine N2 rfl rfl rfl ?_
      intro X w0 β a w hm;refine MY hm rfl rfl (id:=2) (keys:=yU L) (cells:=yk g.1 (yh L)) (n:=n.par) ?_ ?_ ?_ (kt:=3) (et:=31) (by kernel_rfl) ti_3 rfl ?_
      .subst hS;simp[St.val,St.put,St.renew,yy,zo,za,b2]
      .subst hS;simp only[St.look,St.put,St.renew];rw[gB];simp[zr,zT,za,a2,b2,xP]
      .subst hS;simp[St.val,St.put,St.renew,yy,zo,za,int]
      .have hv:((S.renew g.1 (.arr 3 1 ((g.2++[n.id]).map λn=>[int n]))).put (some 30) (.ar g.1)).val (.tmp 30) = .ar g.1:=by simp[St.val,St.put,za]
       rw[hv,CY (x:=n.id) (nx:=nx) hf M];have hh:=CW (x:=n.id) (nx:=nx) hf;have hU:UInv d (k+1,xX L n.par n.id nx,nx+1):=by
        refine⟨K,by simp only;omega,λi hi=>?_,by simp only;rw[hh.2];exact M,λp=>?_⟩
        .simp only at hi ⊢
         rw[hh.2] at hi;have:=H i hi
         omega
        .simp only
         rw[CV,hx.kids p,List.take_succ_eq_append_getElem K,en];unfold vr;rw[List.filter_append,List.map_append];by_cases e:n.par=p
         .simp[e]
         .simp[e]
       refine⟨(xX L n.par n.id nx,nx+1),hU,?_⟩
       refine Xy (x:=(k,xX L n.par n.id nx,nx+1)) hU (by subst hS;rfl) (by subst hS;rfl) ?_ ?_ ?_
       .subst hS
        simp only[hh.2,St.put,St.renew,zr,List.mem_cons];rintro i (rfl | hi)
        .exact T
        .exact hi
       .subst hS
        intro t s hm;simp only[yK,List.mem_cons,List.not_mem_nil,or_false,Prod.mk.injEq] at hm;rcases hm with⟨rfl,rfl⟩ | ⟨rfl,rfl⟩ | ⟨rfl,rfl⟩ | ⟨rfl,rfl⟩ | ⟨rfl,rfl⟩ | ⟨rfl,rfl⟩ <;> simp[St.put,St.renew,za,zr,yy,zo,b0,b2,b3]
       .subst hS
        exact TE hh.1 hh.2 (CX hf M) H T h4
    |none=>
     have a1:¬nx=1:=by omega
     have b1:¬1=nx:=by omega
     have b2:¬2=nx:=by omega
     have b3:¬3=nx:=by omega
     have Q:nx+1∉zB L:=λhm=>by have:=(H _ hm).2;omega
     obtain⟨S,hS⟩:∃ S:St,S = {zr d id k L nx n with slots:=(20,.mp 2)::(21,.bp nx 2)::(22,.d (int n.par))::(23,.mp 2)::(24,.bp nx 2)::(25,.d (int n.par))::(26,.nils)::(27,.bp nx 0)::(28,.d (int n.id))::(29,.d (.sl [[int n.id]]))::(zr d id k L nx n).slots}:=⟨_,rfl⟩;have H1:S.next=nx+1:=by subst hS;rfl
     refine Gh mixed 11 10 S (((S.new (.arr 3 1 [])).renew S.next (.arr 3 1 [[int n.id]])).put (some 30) (.ar S.next)) 30 (.ar S.next) (zo S.next) (λst=>((st.new (.arr 3 1 [])).renew st.next (.arr 3 1 [[int n.id]])).put (some 30) (.ar st.next)) _ (by rfl) (by rfl) (by rfl) (by rfl) (by rfl) rfl rfl rfl ?_ (zhi S 30 _ _) ?_ ?_ ?_
     .intro X w0 β a w hm
      subst hS;refine⟨rfl,rfl,rfl,rfl,rfl,λt s hs hj hL=>?_⟩
      simp only[za] at hs;split at hs
      .rename_i e;exact(hL 0 _ (by omega) rfl (congrArg some e)).elim
      split at hs
      .rename_i e;exact(hL 1 _ (by omega) rfl (congrArg some e)).elim
      split at hs
      .rename_i e;exact(hL 2 _ (by omega) rfl (congrArg some e)).elim
      split at hs
      .rename_i e;exact(hL 3 _ (by omega) rfl (congrArg some e)).elim
      split at hs
      .rename_i e;exact(hL 4 _ (by omega) rfl (congrArg some e)).elim
      split at hs
      .rename_i e;exact(hL 5 _ (by omega) rfl (congrArg some e)).elim
      split at hs
      .rename_i e;exact(hL 6 _ (by omega) rfl (congrArg some e)).elim
      split at hs
      .rename_i e;exact(hL 7 _ (by omega) rfl (congrArg some e)).elim
      split at hs
      .rename_i e;exact(hL 8 _ (by omega) rfl (congrArg some e)).elim
      split at hs
      .rename_i e;exact(hL 9 _ (by omega) rfl (congrArg some e)).elim
      exact hs
     .intro i o hi W ho
      have:i=0\/i=1\/i=2\/i=3\/i=4\/i=5\/i=6\/i=7\/i=8\/i=9:=by omega
      rcases this with rfl | rfl | rfl | rfl | rfl | rfl | rfl | rfl | rfl | rfl <;> simp only[List.getElem?_cons_zero,List.getElem?_cons_succ,Option.some.injEq] at ho <;> subst ho
      .refine xK (s:=.mp 2) rfl rfl (by subst hS;simp[zr]) (by subst hS;simp[Sym.lo,zr] <;> omega) ⟨by rfl,?_⟩ (by subst hS;simp[za]) (.inr ⟨by subst hS;simp[St.put,St.renew,St.new,zr],by subst hS;simp[St.put,St.renew,St.new,Sym.lo,zr] <;> omega,⟨by rfl,?_⟩,by subst hS;simp[za,St.put,St.renew,St.new,yy,zo,zr,a0,a1,a2]⟩)
       .subst hS;simp+decide[zr,zT,za,St.val,St.look,int,a3]
       .subst hS;simp+decide[zr,zT,za,St.val,St.look,St.put,St.renew,St.new,xJ,xP,yk,zo,yy,int,a0,a1,a2,a3]
      .refine xK (s:=.bp nx 2) rfl rfl (by subst hS;simp[zr]) (by subst hS;simp[Sym.lo,zr] <;> omega) ⟨by rfl,?_⟩ (by subst hS;simp[za]) (.inr ⟨by subst hS;simp[St.put,St.renew,St.new,zr],by subst hS;simp[St.put,St.renew,St.new,Sym.lo,zr] <;> omega,⟨by rfl,?_⟩,by subst hS;simp[za,St.put,St.renew,St.new,yy,zo,zr,a0,a1,a2]⟩)
       .subst hS;simp+decide[zr,zT,za,St.val,int]
       .subst hS;simp+decide[zr,zT,za,St.val,St.put,St.renew,St.new,xJ,xP,yk,zo,yy,int,a0,a1,a2]
      .refine xK (s:=.d (int n.par)) rfl rfl (by subst hS;simp[zr]) (by subst hS;simp[Sym.lo] <;> omega) ⟨by rfl,?_⟩ (by subst hS;simp[za]) (.inr ⟨by subst hS;simp[St.put,St.renew,St.new,zr],by subst hS;simp[Sym.lo] <;> omega,⟨by rfl,?_⟩,by subst hS;simp[za,St.put,St.renew,St.new,yy,zo,zr,a0,a1,a2]⟩)
       .subst hS;simp+decide[zr,zT,za,St.val,St.look,int]
       .subst hS;simp+decide[zr,zT,za,St.val,St.look,St.put,St.renew,St.new,xJ,xP,yk,zo,yy,int,a0,a1,a2]
      .refine xK (s:=.mp 2) rfl rfl (by subst hS;simp[zr]) (by subst hS;simp[Sym.lo,zr] <;> omega) ⟨by rfl,?_⟩ (by subst hS;simp[za]) (.inl ⟨5,by rfl⟩)
       subst hS;simp+decide[zr,zT,za,St.val,St.look,int,a3]
      .refine xK (s:=.bp nx 2) rfl rfl (by subst hS;simp[zr]) (by subst hS;simp[Sym.lo,zr] <;> omega) ⟨by rfl,?_⟩ (by subst hS;simp[za]) (.inl ⟨5,by rfl⟩)
       subst hS;simp+decide[zr,zT,za,St.val,int]
      .refine xK (s:=.d (int n.par)) rfl rfl (by subst hS;simp[zr]) (by subst hS;simp[Sym.lo] <;> omega) ⟨by rfl,?_⟩ (by subst hS;simp[za]) (.inl ⟨5,by rfl⟩)
       subst hS;simp+decide[zr,zT,za,St.val,St.look,int]
      .refine⟨rfl,26,.nils,rfl,.inl ⟨5,by rfl⟩,?_,by subst hS;intro s' h1 _;simp[za] at h1;exact h1.symm⟩
       intro X w0 st β a w hn H0 F hk hm;have V:st.val (.tmp 23) = .mp 2:=by simp only[St.val];rw[hk 23 (by simp[tmpsOf,Op.operands]) (.mp 2) (by subst hS;simp[za]) (by simp)];rfl
       have Y:st.val (.tmp 25) = .d (.int .i64 n.par):=by simp only[St.val];rw[hk 25 (by simp[tmpsOf,Op.operands]) (.d (int n.par)) (by subst hS;simp[za]) (by simp)];rfl
       have O:st.look 2=some (.raw (.mq (yU L)) (yh L)):=by simp only[St.look];rw[F];subst hS;simp[zr,zT,za,a2]
       refine MW hm rfl (by intro t ht;cases ht;rw[hn];subst hS;simp[zr]) V O Y (kt:=3) (et:=31) (by kernel_rfl) ti_3 ti_31 rfl rfl rfl (by kernel_rfl) ?_
       rw[Kv,hf];rfl
      .refine xK (s:=.bp nx 0) rfl rfl (by subst hS;simp[zr]) (by subst hS;simp[Sym.lo,zr] <;> omega) ⟨by rfl,?_⟩ (by subst hS;simp[za]) (.inl ⟨5,by rfl⟩)
       subst hS;simp+decide[zr,zT,za,St.val,int]
      .refine xK (s:=.d (int n.id)) rfl rfl (by subst hS;simp[zr]) (by subst hS;simp[Sym.lo] <;> omega) ⟨by rfl,?_⟩ (by subst hS;simp[za]) (.inl ⟨5,by rfl⟩)
       subst hS;simp+decide[zr,zT,za,St.val,St.look,int]
      .refine xK (s:=.d (.sl [[int n.id]])) rfl rfl (by subst hS;simp[zr]) (by subst hS;simp[Sym.lo] <;> omega) ⟨by rfl,?_⟩ (by subst hS;simp[za]) (.inl ⟨5,by rfl⟩)
       subst hS;simp+decide[zr,zT,za,St.val,int]
     .intro X w0 L' st hN hk β a w hm
      have Z:za st.slots 26=some .nils:=hk 26 (by simp[tmpsOf,Op.operands,Call.operands]) .nils (by subst hS;simp[za]) (by simp)
      have A:za st.slots 29=some (.d (.sl [[int n.id]])):=hk 29 (by simp[tmpsOf,Op.operands,Call.operands]) (.d (.sl [[int n.id]])) (by subst hS;simp[za]) (by simp)
      have B:st.n=46:=by rw[hN.n];subst hS;rfl
      refine jv hm ?_
      simp+decide[zS,B,Z,A,int,maxLen]
     .refine N2 rfl rfl rfl ?_
      intro X w0 β a w hm;refine MY hm rfl rfl (id:=2) (keys:=yU L) (cells:=yk (nx+1) (yh L)) (n:=n.par) ?_ ?_ ?_ (kt:=3) (et:=31) (by kernel_rfl) ti_3 rfl ?_
      .subst hS;simp[St.val,St.put,St.renew,St.new,yy,zo,za,zr,a1]
      .subst hS;simp only[St.look,St.put,St.renew,St.new];rw[gB];simp[zr,zT,za,a1,a2,xP]
      .subst hS;simp[St.val,St.put,St.renew,St.new,yy,zo,za,int]
      .have hv:(((S.new (.arr 3 1 [])).renew S.next (.arr 3 1 [[int n.id]])).put (some 30) (.ar S.next)).val (.tmp 30) = .ar (nx+1):=by simp[St.val,St.put,za,H1]
       rw[hv,B0 Q,CZ hf];have C:=Vm (x:=n.id) (nx:=nx+1) hf;have E:zB (xX L n.par n.id (nx+1))=zB L++[nx+1]:=by rw[C];simp[zB]
       have hU:UInv d (k+1,xX L n.par n.id (nx+1),nx+2):=by
        refine⟨K,by simp only;omega,λi hi=>?_,?_,λp=>?_⟩
        .simp only at hi ⊢
         rw[E,List.mem_append,List.mem_singleton] at hi;rcases hi with hi | rfl
         .have:=H i hi;omega
         .omega
        .simp only
         rw[E,List.nodup_append];refine⟨M,by simp,λa ha b hb e=>?_⟩
         rw[List.mem_singleton] at hb;subst hb;subst e;exact Q ha
        .simp only
         rw[CV,hx.kids p,List.take_succ_eq_append_getElem K,en];unfold vr;rw[List.filter_append,List.map_append];by_cases e:n.par=p
         .simp[e]
         .simp[e]
       refine⟨(xX L n.par n.id (nx+1),nx+2),hU,?_⟩
       refine Xy (x:=(k,xX L n.par n.id (nx+1),nx+2)) hU (by subst hS;rfl) (by subst hS;rfl) ?_ ?_ ?_
       .subst hS
        simp only[E,St.put,St.renew,St.new,zr,List.mem_cons,List.mem_append,List.not_mem_nil,or_false];rintro i (rfl | hi)
        .exact .inr rfl
        .exact .inl hi
       .subst hS
        intro t s hm;simp only[yK,List.mem_cons,List.not_mem_nil,or_false,Prod.mk.injEq] at hm;rcases hm with⟨rfl,rfl⟩ | ⟨rfl,rfl⟩ | ⟨rfl,rfl⟩ | ⟨rfl,rfl⟩ | ⟨rfl,rfl⟩ | ⟨rfl,rfl⟩ <;> simp[St.put,St.renew,St.new,za,zr,yy,zo,a1,a2]
       .subst hS
        exact TF hf H h4
  .intro y hy
   refine ya mixed ?_
   simp+decide[yK,int,I64,-Weak];refine⟨⟨by omega,by omega⟩,x.1+1,y.1,y.2,hy,by omega,?_⟩
   refine Xy (x:=(x.1+1,y)) hy rfl rfl (λ_ h=>h) ?_ (λ_ _ h=>h)
   intro t s hm;simp only[yK,List.mem_cons,List.not_mem_nil,or_false,Prod.mk.injEq] at hm;rcases hm with⟨rfl,rfl⟩ | ⟨rfl,rfl⟩ | ⟨rfl,rfl⟩ | ⟨rfl,rfl⟩ | ⟨rfl,rfl⟩ | ⟨rfl,rfl⟩ <;> simp[za,int]
 .intro x hx
  refine TG (m:=x.1) hx.1 ?_
  have hC:=J x.2.1 (λp=>by rw[hx.1.kids p,hx.2,List.take_length])
  generalize x.2.1=L at hC;refine ky mixed 4 {n:=46,next:=7,slots:=[(1,.d (int id)),(10,.bp 5 0),(11,.bp 6 0)],own:=[(3,.box 182 [.d (.mp (kR L))]),(5,.box 31 [.nils]),(6,.box 183 [.fn 115 [.bp 3 0,.bp 5 0,.bp 6 0]])],moved:=zB L} rfl ?_ ?_
  .simp+decide[x8,Zc,int,-Weak]
   refine zg hG ?_
   simp+decide[getD',Nt.row,int]
  simp only[xB];refine TA (id:=5) (e:=3) (sz:=1) rfl ?_
  refine ya mixed ?_
  have I:=hC [] (by rw[List.nil_append];omega)
  rw[List.nil_append] at I;generalize yw d.notes f id=R at *;simp+decide[int];refine zC.mut [3,5,6,7] [.d (int id),.bp 0 0,.bp 1 0,.bp 2 0] (qJ L []) (by rfl) (by simp[int]) (by simp[Sym.los,Sym.lo]) (by simp[qJ,int];rfl) I ?_
  simp+decide[int,qJ];refine zC.UZ (by rfl) hS ?_
  simp+decide
theorem TL{P:Program}{f:Nat}{ds:List D}{s:Sym}{k T sz nx:Nat}{rows:List (List D)}{mv:List Nat}{r:D}(h:zA P f (ds.map .d) [] 0 s nx [(k,.arr T sz rows)] mv)(J:∀ w E β v,Sm w E β (thaw k (.sl rows) s) v->R w E r v):zj P f ds r:=by
 refine⟨h.1,λw E vs L M=>?_⟩
 have O:Mods E (.of w) (zR [] 0 0 []) (λ_=>.pointer none) xx w:=
  ⟨⟨λb Q hmay=>hmay.elim (λh=>by have:w.heap.size<=b:=h;have:=L.1 b Q;omega) (λh=>h),L.2.over (Over.less λb h=>h.elim id False.elim)⟩,⟨Nat.le_refl _,λ_ _ _=>rfl⟩,λ_=>rfl,rfl,rfl,Kept.refl _,by simp[zR],by simp[zR],by simp[zR],by intro t s J;simp[zR,za] at J⟩
 have G:Over w E w (Ex E (λ_=>Value.pointer none) []):=Over.less λb Q=>Q.elim id λ⟨_,_,V,_⟩=>by cases V
 refine(h.2 E (.of w) _ w vs rfl O (zb.vB (zt.over G _ _ M))).mono λe w' X=>?_
 obtain⟨β',v,rfl,H,F,hs⟩:=X
 let st1:St:={n:=1,next:=nx,slots:=[(0,s)],own:=[(k,.arr T sz rows)],moved:=mv}
 have m1:Mods E (.of w) st1 β' {tmps:=#[v],defers:=[]} w':=by
  refine⟨H.outer,H.still,H.one,rfl,rfl,H.below,H.keys,H.own,H.apart,λt s' hs'=>?_⟩
  simp only[st1,za] at hs';split at hs'
  .rename_i e;subst e;cases hs';exact⟨F,by simpa using hs⟩
  .cases hs'
 have m2:=m1.xm k
 have K:st1.look k=some (.arr T sz rows):=by simp[st1,St.look,za]
 unfold St.xm at m2
 rw[K] at m2
 have Y:=(m2.slots 0 (thaw k (.sl rows) s) (by simp[st1,vC,za])).2
 have Z:R w' (Ex E β' (xw k (.sl rows) st1.own)) r v:=J _ _ _ _ (by simpa using Y)
 exact⟨v,rfl,H.below.below,Z.over (Over.less λb Q=>Or.inl Q) _ _⟩
theorem TM{P:Program}{f:Nat}{ds:List D}{s:Sym}{k T sz nx:Nat}{rows:List (List D)}{mv:List Nat}{x y:D}(h:zA P f (ds.map .d) [] 0 s nx [(k,.arr T sz rows)] mv)(H:thaw k (.sl rows) s = .tup [.d x,.d y]):zj P f ds (.tup [x,y]):=
 TL h λw E β v hv=>by
  rw[H] at hv;simp only[Sm,zb] at hv;simp only[R,zt];simpa using hv
def qW(d:Dc)(m:Int):List Int:=m::ql (yw d.notes d.tiers.length m)
def ZW(d:Dc)(w:Int):List Int:=(yJ d w 3).flatMap (qW d)
def Xz(d:Dc)(w:Int)(n:Nt):Bool:=decide (n.id∈ZW d w)
def zE(d:Dc)(w:Int):List Nt:=d.notes.filter λn=>!Xz d w n
def jj(d:Dc)(w:Int):Dc:={d with notes:=zE d w}
theorem Ky{d:Dc}(h:Rgt d){w r m:Int}(H:m∈yJ d w r):∃ n∈d.notes,n.id=m/\n.tier=zy d.tiers r/\n.par=w:=by
 unfold yJ yj qk at H
 obtain⟨n,G,rfl⟩:=List.mem_map.1 H
 have G:=List.mem_filter.1 ((ZR _).mem_iff.1 G)
 have F:=G.2
 unfold ym at F
 simp only[Bool.and_eq_true,decide_eq_true_eq] at F
 exact⟨n,G.1,rfl,F.1.1.1,F.1.1.2⟩
theorem Bm{d:Dc}(h:Rgt d){n:Nt}(H:n∈d.notes):(yw d.notes d.tiers.length n.id).length<=300:=by
 have:=(h.nok n H).t0
 exact Nat.le_trans (SH h H (by omega)) h.few
theorem TN{d:Dc}(h:Rgt d){w m:Int}(H:m∈yJ d w 3):(qW d m).length<=301:=by
 obtain⟨n,G,rfl,_⟩:=Ky h H
 unfold qW
 rw[List.length_cons,Kw]
 have:=Bm h G
 omega
theorem Bn{d:Dc}(h:Rgt d){w:Int}:∀ l:List Int,(∀ m∈l,m∈yJ d w 3)->(l.flatMap (qW d)).length<=301*l.length
 | [],_=>Nat.le_refl _
 |m::l,H=>by
  have G:=TN h (H m List.mem_cons_self);have h2:=Bn h l λm F=>H m (List.mem_cons_of_mem _ F)
  simp only[List.flatMap_cons,List.length_append,List.length_cons];omega
abbrev XA(l:List Int):List (List D):=l.map λn=>[int n]
theorem TO{d:Dc}(H:d.notes.length<2^40)(G:d.tiers.length<2^40)(w:Int)(F:xh d=false):zj Tryz.prog 22 [zq d,int w] (.tup [zq ⟨0,.empty,0,0,[],[],[]⟩,int 14]):=by
 refine zn mixed Tryz.func22 rfl c_22 ?_
 have E:=Vi d (by omega)
 rw[F] at E
 simp+decide[Tryz.f22,zq,Dc.row,int]
 refine zg E ?_
 simp+decide
 exact⟨rfl,rfl,rfl⟩
theorem TP{d:Dc}(H:d.notes.length<2^40)(G:d.tiers.length<2^40)(w:Int)(F:xh d=true)(E:yT d w=false):zj Tryz.prog 22 [zq d,int w] (.tup [zq ⟨0,.empty,0,0,[],[],[]⟩,int 9]):=by
 refine zn mixed Tryz.func22 rfl c_22 ?_
 have K:=Vi d (by omega)
 have J:=Ks d w (by omega) (by omega)
 rw[F] at K
 rw[E] at J
 simp+decide[Tryz.f22,zq,Dc.row,int]
 refine zg K ?_
 simp+decide
 refine zg J ?_
 simp+decide[Nt.row,int]
 exact⟨rfl,rfl,rfl⟩
abbrev zeroCells:List Sym:=[.d (int 0),.d (.str ⟨#[]⟩),.d (int 0),.d (int 0),.nils,.nils,.nils]
def yO(d:Dc)(w:Int)(ks:List Int)(x:Nat×List Int):St:=
 {n:=67,next:=4,slots:=[(1,.d (int w)),(2,.bp 0 0),(4,.bp 1 0),(8,.ar 3),(32,.d (ints ks)),(33,.d (int ks.length)),(34,.d (int x.1))],own:=[(0,.box 53 (zW d)),(1,.box 53 zeroCells),(3,.arr 3 1 (XA x.2))],moved:=[3]}
def xG(d:Dc)(w:Int)(ks:List Int)(k:Nat)(G:List Int)(m:Int):St:=
 {yO d w ks (k,G) with slots:=(10,.d (int m))::(yO d w ks (k,G)).slots}
theorem Bo{d:Dc}(h:Rgt d)(w:Int)(hr:xh d=true)(hw:yT d w=true)(hc:Fw d):
  zA Tryz.prog 22 [.d (zq d),.d (int w)] [] 0 (.tup [.agg [.d (int d.id),.d (.str d.name),.d (int d.len),.d (int d.day),.d (ints d.spk),.d (zw d.tiers),.ar 4],.d (int 0)]) 6 [(4,.arr 72 7 ((zE d w).map Nt.row))] [3,4]:=by
 have Q:=h.few
 have T:=Za h
 have M:=Vi d (by omega)
 have hg:=Ks d w (by omega) (by omega)
 have V:=Xo d (by omega)
 have hk:=Ko d w (zy d.tiers 3) hc
 have Y:=Kt d w 3 hc
 rw[show yj (qk d w (zy d.tiers 3))=yJ d w 3 from rfl] at hk
 rw[hr] at M
 rw[hw] at hg
 refine xA mixed Tryz.func22 rfl c_22 (by simp[Sym.los,Sym.lo]) ?_
 simp+decide[Tryz.f22,zq,Dc.row,int]
 refine zg M ?_
 simp+decide
 refine zg hg ?_
 simp+decide[Nt.row,int]
 refine scp V ?_
 simp+decide[wQ,int]
 refine zcx (by rfl) (by rfl) hk ?_
 have hU:∀ m∈yJ d w 3,zj Tryz.prog 59 [zq d,int m] (ints (ql (yw d.notes d.tiers.length m))):=by
  intro m hm;obtain⟨n,hn,e,_⟩:=Ky h hm;have:=(h.nok n hn).t0
  have:=Bm h hn
  rw[<-e];exact TJ d h (by omega) n hn _ (by omega) (by omega)
 have K:=λl hl=>Bn h (w:=w) l hl
 have J:zE d w=d.notes.filter λn=>!decide (n.id∈(yJ d w 3).flatMap (qW d)):=rfl
 generalize zE d w=C at J ⊢
 generalize yJ d w 3=ks at Y hU K J
 simp+decide[ints]
 refine x9 mixed (λk:Nat=>yO d w ks (k,(ks.take k).flatMap (qW d))) (λk=>k<=ks.length) (λk=>ks.length-k) 0 (Nat.zero_le _) ?_ ?_
 .simp+decide[yO,int,ints]
 intro k hk
 by_cases H:k<ks.length
 case neg=>
  have:k=ks.length:=by omega
  subst this;rw[List.take_length];refine ya mixed ?_
  have Z:=K ks λm hm=>hm
  generalize ks.flatMap (qW d)=G at Z J;subst J;simp+decide[yO,int,zl];refine x9 mixed (λk:Nat=>{n:=67,next:=5,slots:=[(2,.bp 0 0),(4,.bp 1 0),(8,.ar 3),(11,.ar 4),(48,.d (zl d.notes)),(49,.d (int d.notes.length)),(50,.d (int k))],own:=[(0,.box 53 (zW d)),(1,.box 53 zeroCells),(3,.arr 3 1 (XA G)),(4,.arr 72 7 (((d.notes.take k).filter λn=>!decide (n.id∈G)).map Nt.row))],moved:=[3,4]})
   (λk=>k<=d.notes.length) (λk=>d.notes.length-k) 0 (Nat.zero_le _) ?_ ?_
  .simp+decide[int,zl]
  intro k hk;refine ya mixed ?_
  by_cases H:k<d.notes.length
  case neg=>
   have:k=d.notes.length:=by omega
   subst this;rw[List.take_length];simp+decide[int,zl];exact rfl
  have E:(k:Int)<d.notes.length:=by omega
  obtain⟨n,en⟩:∃ n,d.notes[k]=n:=⟨_,rfl⟩;have e1:d.notes[k]?=some n:=by rw[List.getElem?_eq_getElem H,en]
  have hH:=FZ G n.id (by omega)
  have hsn:(d.notes.take (k+1)).filter (λn=>!decide (n.id∈G))=(d.notes.take k).filter (λn=>!decide (n.id∈G))++(if n.id∈G then [] else [n]):=by
   rw[List.take_succ_eq_append_getElem H,List.filter_append,en];by_cases e:n.id∈G <;> simp[e]
  have A:((d.notes.take k).filter λn=>!decide (n.id∈G)).length<=k:=Nat.le_trans (List.length_filter_le _ _) (by rw[List.length_take];exact Nat.min_le_left _ _)
  generalize (d.notes.take k).filter (λn=>!decide (n.id∈G))=F at hsn A
  simp+decide[int,zl,Nt.row,H,E,en];refine zg hH ?_
  by_cases hg:n.id∈G
  .rw[if_pos hg,List.append_nil] at hsn
   simp+decide[I64,hg];exact⟨⟨by omega,by omega⟩,k+1,H,by omega,by omega,by rw[hsn]⟩
  .rw[if_neg hg] at hsn
   simp+decide[int,I64,hg,maxLen];exact⟨by omega,by omega,⟨by omega,by omega⟩,k+1,H,by omega,by omega,by rw[hsn];simp[Nt.row,int]⟩
 have E:(k:Int)<ks.length:=by omega
 obtain⟨m,em⟩:∃ m,ks[k]=m:=⟨_,rfl⟩
 have em1:ks[k]?=some m:=by rw[List.getElem?_eq_getElem H,em]
 have O:m∈ks:=by rw[<-em];exact List.getElem_mem H
 have hsn:(ks.take (k+1)).flatMap (qW d)=(ks.take k).flatMap (qW d)++qW d m:=by
  rw[List.take_succ_eq_append_getElem H,List.flatMap_append,em];simp
 have B:((ks.take k).flatMap (qW d)).length<=301*20:=by
  have:=K (ks.take k) λm hm=>List.mem_of_mem_take hm
  rw[List.length_take] at this;omega
 have L:=K [m] (by simpa using O)
 simp only[List.flatMap_cons,List.flatMap_nil,List.append_nil,List.length_cons,List.length_nil] at L
 have I:=hU m O
 generalize (ks.take k).flatMap (qW d)=G at hsn B
 refine ky mixed 2 (yO d w ks (k,G)) rfl ?_ ?_
 .simp+decide[x8,yO,int,ints,E]
 simp only[xB]
 refine UT (yO d w ks (k,G++qW d m)) ?_ ?_
 .refine Qz (UT (xG d w ks k G m) ?_ ?_)
  .refine ya mixed ?_
   simp+decide[yO,xG,int,ints,H,E,em]
  .obtain⟨S,hS⟩:∃ S:St,S = {xG d w ks k G m with slots:=(38,.ar 3)::(39,.d (int m))::(40,.d (.sl [[int m]]))::(42,.d (zq d))::(43,.d (int m))::(xG d w ks k G m).slots}:=⟨_,rfl⟩
   refine Gh mixed 6 3 S ((S.renew 3 (.arr 3 1 (XA (G++[m])))).put (some 41) (.ar 3)) 41 (.ar 3) (zo 3) (λst=>(st.renew 3 (.arr 3 1 (XA (G++[m])))).put (some 41) (.ar 3)) _ (by rfl) (by rfl) (by rfl) (by rfl) (by rfl) rfl rfl rfl ?_ (N1 S 3 41 _) ?_ ?_ ?_
   .intro X w0 β a w hm
    subst hS;refine⟨rfl,rfl,rfl,rfl,rfl,λt s hs hj hL=>?_⟩
    simp only[za] at hs;split at hs
    .rename_i e;exact(hL 0 _ (by omega) rfl (congrArg some e)).elim
    split at hs
    .rename_i e;exact(hL 1 _ (by omega) rfl (congrArg some e)).elim
    split at hs
    .rename_i e;exact(hL 2 _ (by omega) rfl (congrArg some e)).elim
    split at hs
    .rename_i e;exact(hL 4 _ (by omega) rfl (congrArg some e)).elim
    split at hs
    .rename_i e;exact(hL 5 _ (by omega) rfl (congrArg some e)).elim
    exact hs
   .intro i o hi H2 ho
    have:i=0\/i=1\/i=2\/i=4\/i=5:=by omega
    rcases this with rfl | rfl | rfl | rfl | rfl <;> simp only[List.getElem?_cons_zero,List.getElem?_cons_succ,Option.some.injEq] at ho <;> subst ho
    .refine xK (s:=.ar 3) rfl rfl (by subst hS;simp[xG,yO]) (by subst hS;simp[Sym.lo,xG,yO]) ⟨by rfl,?_⟩ (by subst hS;simp[za]) (.inl ⟨5,by rfl⟩)
     subst hS;simp+decide[xG,yO,za,St.val]
    .refine xK (s:=.d (int m)) rfl rfl (by subst hS;simp[xG,yO]) (by subst hS;simp[Sym.lo]) ⟨by rfl,?_⟩ (by subst hS;simp[za]) (.inl ⟨5,by rfl⟩)
     subst hS;simp+decide[xG,yO,za,St.val]
    .refine xK (s:=.d (.sl [[int m]])) rfl rfl (by subst hS;simp[xG,yO]) (by subst hS;simp[Sym.lo]) ⟨by rfl,?_⟩ (by subst hS;simp[za]) (.inl ⟨5,by rfl⟩)
     subst hS;simp+decide[xG,yO,za,St.val,int]
    .refine xK (s:=.d (zq d)) rfl rfl (by subst hS;simp[xG,yO]) (by subst hS;simp[Sym.lo]) ⟨by rfl,?_⟩ (by subst hS;simp[za]) (.inr ⟨by subst hS;simp[St.put,St.renew,xG,yO],by subst hS;simp[Sym.lo],⟨by rfl,?_⟩,by subst hS;simp[za,St.put,St.renew,yy,zo,xG,yO]⟩)
     .subst hS;simp+decide[xG,yO,za,St.val,St.look,zq,Dc.row]
     .subst hS;simp+decide[xG,yO,za,St.val,St.look,St.put,St.renew,xJ,xP,yk,zo,yy,zq,Dc.row]
    .refine xK (s:=.d (int m)) rfl rfl (by subst hS;simp[xG,yO]) (by subst hS;simp[Sym.lo]) ⟨by rfl,?_⟩ (by subst hS;simp[za]) (.inr ⟨by subst hS;simp[St.put,St.renew,xG,yO],by subst hS;simp[Sym.lo],⟨by rfl,?_⟩,by subst hS;simp[za,St.put,St.renew,yy,zo,xG,yO]⟩)
     .subst hS;simp+decide[xG,yO,za,St.val]
     .subst hS;simp+decide[xG,yO,za,St.val,St.put,St.renew,zo,yy]
   .intro X w0 L' st hN hk β a w hm
    have N:za st.slots 38=some (.ar 3):=hk 38 (by simp[tmpsOf,Op.operands,Call.operands]) (.ar 3) (by subst hS;simp[za]) (by simp)
    have P:za st.slots 40=some (.d (.sl [[int m]])):=hk 40 (by simp[tmpsOf,Op.operands,Call.operands]) (.d (.sl [[int m]])) (by subst hS;simp[za]) (by simp)
    have W:za st.own 3=some (.arr 3 1 (XA G)):=by rw[hN.own];subst hS;simp[xG,yO,za]
    have H0:st.n=67:=by rw[hN.n];subst hS;rfl
    refine jv hm ?_
    simp+decide[zS,H0,N,P,W,int,maxLen];exact⟨by omega,by omega,rfl⟩
   .refine JC (by simp) rfl (λi h1 h2=>?_) ?_
    .have:i=7\/i=8:=by simp at h2;omega
     rcases this with rfl | rfl <;> rfl
    subst hS;simp+decide[xG,yO,int];refine zg I ?_
    have H1:qW d m=m::ql (yw d.notes d.tiers.length m):=rfl
    rw[H1] at L ⊢;rw[List.length_cons] at L;generalize ql (yw d.notes d.tiers.length m)=R at *;simp+decide[int,ints,maxLen];exact⟨by omega,by omega⟩
 .refine ya mixed ?_
  simp+decide[yO,int,ints,I64];exact⟨⟨by omega,by omega⟩,k+1,H,by omega,by omega,by rw[hsn];simp[int]⟩
theorem TQ{d:Dc}(h:Rgt d)(w:Int)(H:xh d=true)(G:yT d w=true)(F:Fw d):
  zj Tryz.prog 22 [zq d,int w] (.tup [zq (jj d w),int 0]):=
 TM (ds:=[zq d,int w]) (Bo h w H G F) (by simp[thaw,xl,vy,zq,Dc.row,jj,zl])
theorem wU{a b:Dc}:a=b↔a.id=b.id/\a.name=b.name/\a.len=b.len/\a.day=b.day/\a.spk=b.spk/\a.tiers=b.tiers/\a.notes=b.notes:=by cases a;cases b;simp
theorem TR(a b:Dc)(F:b.fit):zj Tryz.prog 24 [zq a,zq b] (.bool (decide (a=b))):=by
 obtain⟨f1,f2,f3⟩:=F
 refine zn mixed Tryz.func24 rfl c_24 ?_
 simp+decide[Tryz.f24,zq,Dc.row]
 refine QC mixed 8 [] (by rfl) (by rfl) (by rfl) (by rfl) ?_
 simp+decide[int]
 refine⟨by rfl,?_⟩
 by_cases E:a.id=b.id
 case neg=>simp+decide[E,wU]
 by_cases K:a.name=b.name
 case neg=>simp+decide[E,K,wU]
 by_cases J:a.len=b.len
 case neg=>simp+decide[E,K,J,wU]
 by_cases L:a.day=b.day
 case neg=>simp+decide[E,K,J,L,wU]
 simp+decide[E,K,J,L]
 refine zg (Pg a.spk b.spk (by omega)) ?_
 by_cases M:a.spk=b.spk
 case neg=>simp+decide[M,wU]
 by_cases l2:a.tiers.length=b.tiers.length
 case neg=>
  have:¬a.tiers=b.tiers:=λe=>l2 (by rw[e])
  have l2':¬(a.tiers.length:Int)=b.tiers.length:=by omega
  simp+decide[M,wU,this,l2',zw,zl]
 by_cases l3:a.notes.length=b.notes.length
 case neg=>
  have:¬a.notes=b.notes:=λe=>l3 (by rw[e])
  have l3':¬(a.notes.length:Int)=b.notes.length:=by omega
  simp+decide[M,wU,this,l2,l3',zw,zl]
 simp+decide[M,l2,l3,zw,zl]
 refine zm mixed (λk:Nat=>{n:=99,next:=2,slots:=[(2,.bp 0 0),(3,.bp 1 0),(7,.d (.int .i64 k))],own:=[(0,.box 53 (zW a)),(1,.box 53 (zW b))]})
  (λk=>k<=a.tiers.length/\a.tiers.take k=b.tiers.take k) (λk=>a.tiers.length-k) 0 (by simp) (by simp+decide[zw,zl,M,E,K,J,L,int]) ?_
 intro k ⟨O,Q⟩
 by_cases G:k<a.tiers.length
 .have e1:a.tiers[k]?=some a.tiers[k]:=List.getElem?_eq_getElem G
  have e2:b.tiers[k]?=some (b.tiers[k]'(by omega)):=List.getElem?_eq_getElem (by omega)
  have H:k<b.tiers.length:=by omega
  simp+decide[zw,Tir.row,int,G,H,I64];refine⟨λhne e=>?_,λg1 g2 g3 g4=>⟨by omega,k+1,⟨G,?_⟩,by omega,by omega⟩⟩
  .rw[wU] at e
   obtain⟨_,_,_,_,_,e,_⟩:=e;simp[e] at hne
  .have T:a.tiers[k]=b.tiers[k]:=by
    rcases V:a.tiers[k] with⟨x1,x2,x3,x4⟩;rcases X:b.tiers[k] with⟨y1,y2,y3,y4⟩;rw[V,X] at g1 g2 g3 g4;simp only at g1 g2 g3 g4
    rw[g1,g2,g3,g4]
   rw[take_snoc' G,take_snoc' H,Q,T]
 .have:k=a.tiers.length:=by omega
  subst this;have Y:a.tiers=b.tiers:=by rw[List.take_length,l2,List.take_length] at Q;exact Q
  simp+decide[zw,zl];refine zm mixed (λk:Nat=>{n:=99,next:=2,slots:=[(2,.bp 0 0),(3,.bp 1 0),(8,.d (.int .i64 k))],own:=[(0,.box 53 (zW a)),(1,.box 53 (zW b))]})
   (λk=>k<=a.notes.length/\a.notes.take k=b.notes.take k) (λk=>a.notes.length-k) 0 (by simp) (by simp+decide) ?_
  intro k ⟨O,Q⟩;by_cases G:k<a.notes.length
  .have e1:a.notes[k]?=some a.notes[k]:=List.getElem?_eq_getElem G
   have e2:b.notes[k]?=some (b.notes[k]'(by omega)):=List.getElem?_eq_getElem (by omega)
   have H:k<b.notes.length:=by omega
   simp+decide[zl,Nt.row,int,G,H,I64];refine⟨λhne e=>?_,λg1 g2 g3 g4 g5 g6 g7=>⟨by omega,k+1,⟨G,?_⟩,by omega,by omega⟩⟩
   .rw[wU] at e
    obtain⟨_,_,_,_,_,_,e⟩:=e;simp[e] at hne
   .have T:a.notes[k]=b.notes[k]:=by
     rcases V:a.notes[k] with⟨x1,x2,x3,x4,x5,x6,x7⟩;rcases X:b.notes[k] with⟨y1,y2,y3,y4,y5,y6,y7⟩;rw[V,X] at g1 g2 g3 g4 g5 g6 g7;simp only at g1 g2 g3 g4 g5 g6 g7
     rw[g1,g2,g3,g4,g5,g6,g7]
    rw[take_snoc' G,take_snoc' H,Q,T]
  .have:k=a.notes.length:=by omega
   subst this;have Z:a.notes=b.notes:=by rw[List.take_length,l3,List.take_length] at Q;exact Q
   simp+decide[zl,wU,M,E,K,J,L,Y,Z]
theorem TS{d:Dc}(h:Rgt d){w r:Int}{c:Nt}(H:c∈d.notes)(G:c.tier=zy d.tiers r)(h2:c.par=w):c.id∈yJ d w r:=by
 unfold yJ yj qk
 refine List.mem_map.2 ⟨c,(ZR _).mem_iff.2 (List.mem_filter.2 ⟨H,?_⟩),rfl⟩
 have t0:=(h.nok c H).t0
 have t1:=(h.nok c H).t1
 rw[G] at t0 t1
 simp[ym,G,h2,t0,t1]
theorem uS{d:Dc}(h:Rgt d){w:Int}{n:Nt}(E:n∈d.notes):n.id∈ZW d w↔∃ c∈xk d n,c.tier=zy d.tiers 3/\c.par=w:=by
 unfold ZW
 rw[List.mem_flatMap]
 constructor
 .rintro⟨m,K,J⟩
  obtain⟨c,L,rfl,q1,q2⟩:=Ky h K;have t0:=(h.nok c L).t0;refine⟨c,?_,q1,q2⟩
  unfold qW at J;rcases List.mem_cons.1 J with e | J
  .obtain rfl:=Xl h E L e
   exact ZS h E
  .have J:=(Kx _).mem_iff.1 J
   obtain⟨m',G,e,F⟩:=(Xu h d.tiers.length c L (by omega) n.id).1 J
   obtain rfl:=Xl h G E e;rw[(yA h G).1];exact List.mem_cons_of_mem _ F
 .rintro⟨c,L,q1,q2⟩
  have H:=Vk h E L;have t0:=(h.nok c H).t0;refine⟨c.id,TS h H q1 q2,?_⟩
  unfold qW;rw[(yA h E).1] at L;rcases List.mem_cons.1 L with rfl | L
  .exact List.mem_cons_self
  .exact List.mem_cons_of_mem _ ((Kx _).mem_iff.2 ((Xu h d.tiers.length c H (by omega) n.id).2 ⟨n,E,rfl,L⟩))
def jZ:Dc:=⟨0,.empty,0,0,[],[],[]⟩
def vQ(d:Dc)(w:Int):Dc×Int:=if xh d=false then (jZ,14) else if yT d w=false then (jZ,9) else (jj d w,0)
theorem TU{d:Dc}(h:Rgt d)(w:Int)(H:Fw d):zj Tryz.prog 22 [zq d,int w] (.tup [zq (vQ d w).1,int (vQ d w).2]):=by
 have:=h.few
 have:=Za h
 unfold vQ
 cases G:xh d with
 |false=>rw[if_pos rfl];exact TO (by omega) (by omega) w G
 |true=>
  rw[if_neg (by decide)]
  cases F:yT d w with
  |false=>rw[if_pos rfl];exact TP (by omega) (by omega) w G F
  |true=>rw[if_neg (by decide)];exact TQ h w G F H
end Go.V.Doc
namespace Go.V.Doc
open Go Go.Proofs Go.Sort Go.RowKit
section
variable [Dr]
def kS(a b:Nt):Int:=j5 a.id b.id
theorem TV(a b:Nt):zj Tryz.prog 66 [.agg a.row,.agg b.row] (int (kS a b)):=by
 refine zn mixed Tryz.func66 rfl c_66 ?_
 simp+decide[Tryz.f66,Nt.row,int]
 refine zg (V6 a.id b.id) ?_
 simp+decide[kS,int]
theorem Bq{blk off size:Nat}{w:World}{E:Nat->Prop}(H:Seen w E)(G:E blk):Go.Proofs.CmpLays Tryz.prog 66 #[] Nt.enc 7 kS blk off size w:=by
 let d:Dr:=⟨true⟩
 exact @ER d _ _ _ _ _ _ _ rfl _ _ jW (λx y=>@TV d x y) _ _ _ _ _ H G
end
def vt:Nt->Nt->Bool:=ltOf kS
theorem Br:∀ args w,(callFunc 66 args).run Tryz.prog w = .ok (.enter 66 args) w:=enters_of Tryz.func66 (by kernel_rfl) rfl
def Kz:Nat->Nat->Array Nt->Array Nt
 |0,_,d=>d
 |k+1,i,d=>Kz k (i+1) (insInner vt 0 i d)
theorem Bt(b:Nat):∀ (k i:Nat) (d:Array Nt),k=b-i->insOuter vt 0 b i d=Kz k i d
 |0,i,d,h=>by unfold insOuter;rw[if_neg (by omega)];rfl
 |k+1,i,d,h=>by unfold insOuter;rw[if_pos (by omega),Bt b k (i+1) _ (by omega)];rfl
def ZX(l:List Nt):List Nt:=(Kz (l.length-1) 1 l.toArray).toList
theorem TW(l:List Nt):(Sort.insertionSort vt l.toArray 0 l.length)=(ZX l).toArray:=by
 unfold Sort.insertionSort ZX
 rw[Bt l.length (l.length-1) (0+1) _ (by omega)]
theorem TX(T:Nat)(l:List Nt)(F:l≠[])(K:l.length<4611686018427387904)(hs:(ZX l).length=l.length):
  zA Tryz.prog 172 [.ar 0,.d (int 0),.d (int l.length),.fn 66 []] [(0,.arr T 7 (l.map Nt.row))] 1 (.d (.tup [])) 1 [(0,.arr T 7 ((ZX l).map Nt.row))] []:=by
 refine VI jW c_172 F hs ?_
 intro w E β vs G H g cap J L M
 simp only[zb,Sm,R,int] at G
 obtain⟨_,_,rfl,rfl,_,_,rfl,rfl,_,_,rfl,⟨_,rfl,rfl⟩,rfl⟩:=G
 have:=AnyQ.insertionSortCmpFunc Tryz.EV 7 WM WN Nt.enc jW.len jW.one kS 66 #[] g 0 cap 0 l.length l.toArray w Br
  (Bq H L) M J (Nat.zero_le _) (by simp) (by simpa using K)
 change Calls Tryz.prog 172 _ _ _ at this
 rw[show ltOf kS=vt from rfl,TW] at this
 simpa using this
end Go.V.Doc

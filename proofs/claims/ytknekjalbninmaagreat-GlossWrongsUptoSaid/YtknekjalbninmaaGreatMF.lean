/- Contracts and plain laws of this seat: part MF. It needs no conditions. -/
import Derived.Test.YtknekjalbninmaaGreatS3
import Derived.Test.YtknekjalbninmaaGreatSw
import Derived.Test.YtknekjalbninmaaGreatMD
import Derived.Test.YtknekjalbninmaaGreatME
import Derived.Test.YtknekjalbninmaaGreatMA
import Derived.Test.YtknekjalbninmaaGreatMC
import Derived.Test.YtknekjalbninmaaGreatW1
import Derived.Test.YtknekjalbninmaaGreatMB
import Derived.Test.YtknekjalbninmaaGreatB1
import Derived.Test.YtknekjalbninmaaGreatW2
import Derived.WalkKit
import Derived.Recover
import Derived.Test.YtknekjalbninmaaGreatW3
set_option maxHeartbeats 32000000
set_option linter.unusedVariables false
set_option linter.unusedSimpArgs false
set_option linter.unusedSectionVars false
set_option maxRecDepth 100000
namespace Go.V
open Go Go.Proofs
theorem zi2(a b:List Int)(E:b.length<2^62):zi Tryz.prog 158 [ints a,ints b] (.bool (decide (a=b))):=by
 refine zp mixed Tryz.func158 rfl c_158 ?_
 simp[Tryz.f158,ints]
 refine⟨λh e=>h (by rw[e]),λh=>?_⟩
 refine zr mixed (λk:Nat=>{n:=26,next:=0,slots:=[(0,.d (ints a)),(1,.d (ints b)),(12,.d (.int .i64 a.length)),(13,.d (.int .i64 k))],own:=[]})
  (λk=>k<=a.length/\a.take k=b.take k) (λk=>a.length-k) 0 (by simp) (by simp[ints]) ?_
 intro k ⟨K,J⟩
 have h:a.length=b.length:=by omega
 by_cases G:k<a.length
 .have e1:a[k]?=some a[k]:=List.getElem?_eq_getElem G
  have e2:b[k]?=some (b[k]'(by omega)):=List.getElem?_eq_getElem (by omega)
  have H:k<b.length:=by omega
  simp+decide[ints,int,e1,e2,G,H,I64];refine⟨λF e=>by subst e;simp at F,λhe=>⟨by omega,k+1,⟨G,?_⟩,by omega,by omega⟩⟩
  rw[y9 G,y9 H,J,he]
 .have:k=a.length:=by omega
  subst this;simp+decide[ints];rw[List.take_length,h,List.take_length] at J;exact J
def qE(w s:List Int):Bool:=decide (s.length<=w.length)&&decide (s=w.take s.length)
def q9(us:List Grap)(w:List Int):Nat->Option Nat
 |0=>none
 |k+1=>match us[k]? with
  |none=>q9 us w k
  |some u=>if qE w u.segs=true then (match q9 us w k with
    |none=>some k
    |some b=>if ((us[b]?.map λv=>v.segs.length).getD 0)<u.segs.length then some k else some b)
   else q9 us w k
theorem Z1{us:List Grap}{w:List Int}:∀ {k b:Nat},q9 us w k=some b->∃ v,us[b]?=some v/\qE w v.segs=true
 |0,b,h=>by cases h
 |k+1,b,h=>by
  unfold q9 at h;split at h
  .exact Z1 h
  .rename_i u H
   split at h
   .rename_i G
    split at h
    .obtain rfl:=Option.some.inj h;exact⟨u,H,G⟩
    .rename_i b' hb'
     split at h
     .obtain rfl:=Option.some.inj h;exact⟨u,H,G⟩
     .obtain rfl:=Option.some.inj h
      exact Z1 hb'
   .exact Z1 h
theorem ze0(o:Orth)(V:OrthC o)(w:List Int)(X:w.length<2^40):zi Tryz.prog 99 [.agg o.cells,ints w] (int (xA (q9 o.units w o.units.length))):=by
 have O:=V.few.1
 refine zp mixed Tryz.func99 rfl c_99 ?_
 simp+decide[Tryz.f99,int,ints,zI,Orth.cells]
 refine yg mixed (λk:Nat=>{n:=51,next:=1,slots:=[(1,.d (ints w)),(2,.bp 0 0),(5,.d (int (xA (q9 o.units w k)))),(9,.d (zI o.units)),(10,.d (int o.units.length)),(11,.d (int k))],own:=[(0,.box 28 (o.cells.map .d))]})
  (λk=>k<=o.units.length) (λk=>o.units.length-k) 0 (Nat.zero_le _) ?_ ?_
 .simp+decide[int,ints,zI,Orth.cells,q9,xA]
 intro k Y
 refine zM mixed ?_
 by_cases G:k<o.units.length
 case neg=>
  have:k=o.units.length:=by omega
  subst this;simp+decide[int,ints,zI,Orth.cells]
 have F:(k:Int)<o.units.length:=by omega
 obtain⟨u,eu⟩:∃ u,o.units[k]=u:=⟨_,rfl⟩
 have eu1:o.units[k]?=some u:=by rw[List.getElem?_eq_getElem G,eu]
 have Q:=(V.units o.units[k] (List.getElem_mem G)).2
 rw[eu] at Q
 have H:q9 o.units w (k+1)=if qE w u.segs=true then (match q9 o.units w k with
    |none=>some k
    |some b=>if ((o.units[b]?.map λv=>v.segs.length).getD 0)<u.segs.length then some k else some b)
   else q9 o.units w k:=by rw[q9,eu1]
 by_cases c1:w.length<u.segs.length
 .have c1':(w.length:Int)<u.segs.length:=by omega
  have Z:qE w u.segs=false:=by unfold qE;rw[decide_eq_false (by omega)];rfl
  rw[Z,if_neg (by decide)] at H
  simp+decide[int,ints,zI,Orth.cells,G,F,eu,eu1,Grap.row,I64,c1,c1'];exact⟨by omega,k+1,G,by omega,by rw[H],by omega⟩
 have c1':¬(w.length:Int)<u.segs.length:=by omega
 have A:=zi2 u.segs (w.take u.segs.length) (by rw[List.length_take];omega)
 have T:qE w u.segs=decide (u.segs=w.take u.segs.length):=by unfold qE;rw[decide_eq_true (by omega)];rfl
 have c2:u.segs.length<=w.length:=by omega
 have c2':(u.segs.length:Int)<=w.length:=by omega
 rw[<-T] at A
 simp only[ints,List.map_take] at A
 simp+decide[int,ints,zI,Orth.cells,G,F,eu,eu1,Grap.row,I64,c1,c1',c2,c2']
 refine zq (by rfl) (by rfl) A (by simp[D.scalar]) ?_
 cases Z:qE w u.segs with
 |false=>
  rw[Z,if_neg (by decide)] at H
  simp+decide[int,ints,zI,Orth.cells,G,F,eu,eu1,Grap.row,I64];exact⟨by omega,k+1,G,by omega,by rw[H],by omega⟩
 |true=>
  rw[Z,if_pos rfl] at H;cases K:q9 o.units w k with
  |none=>
   rw[K] at H;simp only at H
   simp+decide[int,ints,zI,Orth.cells,G,F,eu,eu1,Grap.row,I64,xA];exact⟨by omega,k+1,G,by omega,by rw[H],by omega⟩
  |some b=>
   obtain⟨v,ev1,_⟩:=Z1 K;obtain⟨L,ev⟩:=List.getElem?_eq_some_iff.1 ev1;have E:(b:Int)<o.units.length:=by omega
   rw[K] at H;simp only at H
   rw[ev1] at H;simp only[Option.map_some,Option.getD_some] at H;have M:¬(b:Int)<0:=by omega
   by_cases B:v.segs.length<u.segs.length
   .have J:(v.segs.length:Int)<u.segs.length:=by omega
    rw[if_pos B] at H;simp+decide[int,ints,zI,Orth.cells,G,F,eu,eu1,Grap.row,I64,xA,L,E,ev,ev1,B,J,M];exact⟨by omega,k+1,G,by omega,by rw[H],by omega⟩
   .have J:¬(v.segs.length:Int)<u.segs.length:=by omega
    rw[if_neg B] at H;simp+decide[int,ints,zI,Orth.cells,G,F,eu,eu1,Grap.row,I64,xA,L,E,ev,ev1,B,J,M];exact⟨by omega,k+1,G,by omega,by rw[H],by omega⟩
theorem ze1(s:ByteArray)(hs:s.size<2^40):
  zJ Tryz.prog 100 [.bp 0 0,.d (.str s)] [(0,.box 166 [.d (.val (.pointer none)),.nils])] 1 (.tup [.d (int s.size),.d (.val .nilIface)]) 2 [(1,.arr 5 1 (yu s)),(0,.box 166 [.bp 0 0,.ar 1])] [1]:=by
 have H:zJ Tryz.prog 159 [.bp 0 0] [(0,.box 166 [.d (.val (.pointer none)),.nils])] 1 (.d (.tup [])) 1 [(0,.box 166 [.bp 0 0,.nils])] []:=zfh (by rfl) Sq
 refine xH mixed Tryz.func100 rfl c_100 (by simp[Sym.los,Sym.lo]) ?_
 simp+decide[Tryz.f100,int]
 refine zc.mut [0] [.bp 0 0] [(0,.box 166 [.d (.val (.pointer none)),.nils])] (by rfl) (by simp) (by simp) (by simp) H ?_
 simp+decide[int,maxLen]
 exact⟨by omega,by omega⟩
theorem ze2(s:ByteArray)(rows:List (List D))(hs:rows.length+s.size<2^40):
  zJ Tryz.prog 100 [.bp 0 0,.d (.str s)] [(0,.box 166 [.bp 0 0,.ar 1]),(1,.arr 5 1 rows)] 2 (.tup [.d (int s.size),.d (.val .nilIface)]) 2 [(0,.box 166 [.bp 0 0,.ar 1]),(1,.arr 5 1 (rows++yu s))] [1]:=by
 have H:zJ Tryz.prog 159 [.bp 0 0] [(0,.box 166 [.bp 0 0,.ar 1]),(1,.arr 5 1 rows)] 2 (.d (.tup [])) 2 [(0,.box 166 [.bp 0 0,.ar 1]),(1,.arr 5 1 rows)] []:=zg3 (by rfl) So _ _ _
 refine xH mixed Tryz.func100 rfl c_100 (by simp[Sym.los,Sym.lo]) ?_
 simp+decide[Tryz.f100,int]
 refine zc.mut [0,1] [.bp 0 0] [(0,.box 166 [.bp 0 0,.ar 1]),(1,.arr 5 1 rows)] (by rfl) (by simp) (by simp) (by simp;rfl) H ?_
 simp+decide[int,maxLen]
 exact⟨by omega,by omega⟩
theorem zh1(s:ByteArray)(hs:s.size≠0):
  zJ Tryz.prog 101 [.bp 0 0] [(0,.box 166 [.bp 0 0,.ar 1]),(1,.arr 5 1 (yu s))] 2 (.d (.str s)) 2 [] []:=zd3 Tryz.zi8 Ss (by rfl) s hs
theorem zci(a b:ByteArray):yu (a++b)=yu a++yu b:=by
 unfold yu
 simp[ByteArray.data_append]
def kg(us:List Grap)(w:List Int):Nat->Nat->ByteArray->ByteArray×Int×Int
 |0,_,_=>(.empty,0,0)
 |f+1,at_,acc=>if at_<w.length then (match q9 us (w.drop at_) us.length with
   |none=>(.empty,at_,20)
   |some b=>kg us w f (at_+((us[b]?.map λv=>v.segs.length).getD 0)) (acc++((us[b]?.map λv=>v.graph).getD .empty)))
  else (acc,0,0)
def xc(us:List Grap)(w:List Int):ByteArray×Int×Int:=
 if w.length=0 then (.empty,0,4) else if 24<w.length then (.empty,0,5) else kg us w (w.length+1) 0 .empty
theorem Hk{us:List Grap}(G:∀ u∈us,UnitF u){w:List Int}:∀ {f at_:Nat} {acc:ByteArray},acc.size<=32*at_->at_<=w.length->(kg us w f at_ acc).1.size<=32*w.length
 |0,_,_,_,_=>by simp[kg]
 |f+1,at_,acc,h,hat=>by
  unfold kg;split
  .split
   .simp
   .rename_i b F
    obtain⟨v,E,H⟩:=Z1 F;have K:=G v (List.mem_of_getElem? E);have J:v.segs.length<=(w.drop at_).length:=by
     unfold qE at H;rw[Bool.and_eq_true,decide_eq_true_eq] at H;exact H.1
    rw[List.length_drop] at J;rw[E];refine Hk G ?_ ?_
    .have:=K.size;have:=K.segs
     rw[ByteArray.size_append];simp only[Option.map_some,Option.getD_some];omega
    .simp only[Option.map_some,Option.getD_some]
     omega
  .have:acc.size<=32*w.length:=by omega
   exact this
theorem Hl{us:List Grap}(H:∀ u∈us,UnitF u)(w:List Int):(xc us w).1.size<=768:=by
 unfold xc
 split
 .simp
 .split
  .simp
  .have:=Hk H (w:=w) (f:=w.length+1) (at_:=0) (acc:=.empty) (by simp) (by omega)
   omega
theorem zgs(o:Orth)(P:OrthC o)(S:∀ u∈o.units,UnitF u)(w:List Int)(W:w.length<2^40):
  zi Tryz.prog 43 [.agg o.cells,ints w] (.tup [.str (xc o.units w).1,int (xc o.units w).2.1,int (xc o.units w).2.2]):=by
 refine zp mixed Tryz.func43 rfl c_43 ?_
 by_cases c0:w.length=0
 .have:w=[]:=List.eq_nil_of_length_eq_zero c0
  subst this;simp+decide[Tryz.f43,int,ints,Orth.cells,xc]
 have c0':¬(w.length:Int)=0:=by omega
 by_cases c1:24<w.length
 .have c1':(24:Int)<w.length:=by omega
  have T:xc o.units w=(.empty,0,5):=by unfold xc;rw[if_neg c0,if_pos c1]
  rw[T];simp+decide[Tryz.f43,int,ints,Orth.cells,c0,c0',c1,c1']
 have c1':¬(24:Int)<w.length:=by omega
 have T:xc o.units w=kg o.units w (w.length+1) 0 .empty:=by unfold xc;rw[if_neg c0,if_neg c1]
 simp+decide[Tryz.f43,int,ints,Orth.cells,c0,c0',c1,c1']
 refine yg mixed (λx:Bool×Nat×Nat×ByteArray=>if x.1=true
   then {n:=45,next:=2,slots:=[(1,.d (ints w)),(2,.bp 0 0),(7,.bp 1 0),(8,.d (int x.2.2.1))],own:=[(0,.box 28 (o.cells.map .d)),(1,.box 166 [.d (.val (.pointer none)),.nils])]}
   else {n:=45,next:=3,slots:=[(1,.d (ints w)),(2,.bp 0 0),(7,.bp 1 0),(8,.d (int x.2.2.1))],own:=[(0,.box 28 (o.cells.map .d)),(1,.box 166 [.bp 1 0,.ar 2]),(2,.arr 5 1 (yu x.2.2.2))],moved:=[2]})
  (λx=>x.2.2.1<=w.length/\w.length<x.2.2.1+x.2.1/\kg o.units w x.2.1 x.2.2.1 x.2.2.2=xc o.units w/\x.2.2.2.size<=32*x.2.2.1/\(x.1=true->x.2.2.1=0/\x.2.2.2 = .empty)/\(x.1=false->x.2.2.2.size≠0)) (λx=>w.length-x.2.2.1)
  (true,w.length+1,0,.empty) ⟨by simp,by simp,T.symm,by simp,by simp,by simp⟩ ?_ ?_
 .simp+decide[int,ints,Orth.cells]
 rintro⟨fr,f,at_,acc⟩ ⟨J,hf,F,A,V,Y⟩
 simp only at J hf F A V Y
 refine zM mixed ?_
 obtain⟨f,rfl⟩:∃ f',f=f'+1:=⟨f-1,by omega⟩
 unfold kg at F
 by_cases G:at_<w.length
 case neg=>
  have H:¬(at_:Int)<w.length:=by omega
  rw[if_neg G] at F;cases fr with
  |true=>have:=(V rfl).1;omega
  |false=>
   rw[<-F];simp+decide[int,ints,G,H,Orth.cells];refine zc.mut [1,2] [.bp 0 0] [(0,.box 166 [.bp 0 0,.ar 1]),(1,.arr 5 1 (yu acc))] (by rfl) (by simp) (by simp) (by simp;rfl) (zh1 acc (Y rfl)) ?_
   simp+decide[int]
 rw[if_pos G] at F
 have H:(at_:Int)<w.length:=by omega
 have hU:=ze0 o P (w.drop at_) (by rw[List.length_drop];omega)
 simp only[ints,List.map_drop] at hU
 have M:List.take w.length (w.map λn=>[D.int .i64 n])=w.map λn=>[D.int .i64 n]:=List.take_of_length_le (by simp)
 cases hb:q9 o.units (w.drop at_) o.units.length with
 |none=>
  rw[hb] at F hU;simp only at F
  simp only[xA] at hU;rw[<-F];cases fr with
  |true=>
   simp+decide[int,ints,G,H,J,M,Orth.cells];refine zq (by rfl) (by rfl) hU (by simp[D.scalar,Orth.cells]) ?_
   simp+decide[int,ints,G,H,Orth.cells]
  |false=>
   simp+decide[int,ints,G,H,J,M,Orth.cells];refine zq (by rfl) (by rfl) hU (by simp[D.scalar,Orth.cells]) ?_
   simp+decide[int,ints,G,H,Orth.cells]
 |some b=>
  obtain⟨v,ev1,K⟩:=Z1 hb;obtain⟨O,ev⟩:=List.getElem?_eq_some_iff.1 ev1;have E:(b:Int)<o.units.length:=by omega
  have Q:¬(b:Int)<0:=by omega
  have hF:=S v (List.mem_of_getElem? ev1);have B:=hF.size;have C:=hF.pos;have I:=hF.segs;have N:v.segs.length<=w.length-at_:=by
   unfold qE at K;rw[Bool.and_eq_true,decide_eq_true_eq,List.length_drop] at K;exact K.1
  rw[hb] at F hU;simp only[ev1,Option.map_some,Option.getD_some] at F;simp only[xA] at hU;have L:(acc++v.graph).size<=32*(at_+v.segs.length):=by rw[ByteArray.size_append];omega
  have Z:(acc++v.graph).size≠0:=by rw[ByteArray.size_append];omega
  cases fr with
  |true=>
   obtain⟨h0,X⟩:=V rfl;subst X;simp+decide[int,ints,G,H,J,M,Orth.cells];refine zq (by rfl) (by rfl) hU (by simp[D.scalar,Orth.cells]) ?_
   simp+decide[int,ints,G,H,Orth.cells,zI,Grap.row,O,E,ev,ev1,Q];refine zc.mut [1] [.bp 0 0,.d (.str v.graph)] [(0,.box 166 [.d (.val (.pointer none)),.nils])] (by rfl) (by simp) (by simp) (by simp) (ze1 v.graph (by omega)) ?_
   simp+decide[int,ints,G,H,Orth.cells,zI,Grap.row,O,E,ev,ev1,Q,I64];exact⟨⟨by omega,by omega⟩,f,at_+v.segs.length,ByteArray.empty++v.graph,⟨by omega,by omega,F,L,λe=>Z (by rw[e];rfl)⟩,by omega,by omega,by simp⟩
  |false=>
   simp+decide[int,ints,G,H,J,M,Orth.cells];refine zq (by rfl) (by rfl) hU (by simp[D.scalar,Orth.cells]) ?_
   simp+decide[int,ints,G,H,Orth.cells,zI,Grap.row,O,E,ev,ev1,Q];refine zc.mut [1,2] [.bp 0 0,.d (.str v.graph)] [(0,.box 166 [.bp 0 0,.ar 1]),(1,.arr 5 1 (yu acc))] (by rfl) (by simp) (by simp) (by simp;rfl) (ze2 v.graph (yu acc) (by rw[Wd];omega)) ?_
   simp+decide[int,ints,G,H,Orth.cells,zI,Grap.row,O,E,ev,ev1,Q,I64];exact⟨⟨by omega,by omega⟩,f,at_+v.segs.length,acc++v.graph,⟨by omega,by omega,F,L,λe=>Z (by rw[e];rfl)⟩,by omega,by omega,(zci _ _).symm⟩
theorem ze3(w:List Int)(at_:Nat)(u:Grap)(J:w.length<2^40)(K:at_<=w.length)(hs:u.segs.length<2^40):zi Tryz.prog 108 [ints w,int at_,.agg u.row] (.bool (qE (w.drop at_) u.segs)):=by
 refine zp mixed Tryz.func108 rfl c_108 ?_
 by_cases c1:w.length-at_<u.segs.length
 .have c1':(w.length:Int)-at_<u.segs.length:=by omega
  have L:qE (w.drop at_) u.segs=false:=by unfold qE;rw[List.length_drop,decide_eq_false (by omega)];rfl
  simp+decide[Tryz.f108,int,ints,Grap.row,L,c1,c1',I64];exact⟨by omega,by omega⟩
 have c1':¬(w.length:Int)-at_<u.segs.length:=by omega
 simp+decide[Tryz.f108,int,ints,Grap.row,c1,c1',I64]
 refine⟨⟨by omega,by omega⟩,?_⟩
 refine yg mixed (λk:Nat=>{n:=35,next:=1,slots:=[(0,.d (ints w)),(1,.d (int at_)),(5,.bp 0 0),(7,.d (int k))],own:=[(0,.box 143 [.d (.str u.graph),.d (ints u.segs)])]})
  (λk=>k<=u.segs.length/\u.segs.take k=(w.drop at_).take k) (λk=>u.segs.length-k) 0 ⟨Nat.zero_le _,by simp⟩ ?_ ?_
 .simp+decide[int,ints]
 rintro k ⟨M,O⟩
 refine zM mixed ?_
 by_cases H:k<u.segs.length
 .have G:(k:Int)<u.segs.length:=by omega
  have E:at_+k<w.length:=by omega
  have F:(at_:Int)+k<w.length:=by omega
  have e1:u.segs[k]?=some u.segs[k]:=List.getElem?_eq_getElem H
  have e2:w[at_+k]?=some w[at_+k]:=List.getElem?_eq_getElem E
  have jn:((at_:Int)+k).toNat=at_+k:=by omega
  have Q:(w.drop at_)[k]?=some w[at_+k]:=by rw[List.getElem?_drop,e2]
  have j0:¬((at_:Int)+k<0):=by omega
  by_cases T:w[at_+k]=u.segs[k]
  .simp+decide[int,ints,H,G,E,F,e1,e2,jn,j0,T,I64]
   refine⟨⟨by omega,by omega⟩,by omega,⟨by omega,by omega⟩,k+1,⟨H,?_⟩,by omega,by omega⟩
   rw[List.take_add_one,List.take_add_one,O,e1,Q,T]
  .have L:qE (w.drop at_) u.segs=false:=by
    unfold qE;rw[Bool.and_eq_false_iff];right
    refine decide_eq_false λe=>T ?_
    have:=congrArg (λl=>l[k]?) e
    simp only[List.getElem?_take,if_pos H,Q,e1,Option.some.injEq] at this;exact this.symm
   simp+decide[int,ints,H,G,E,F,e1,e2,jn,j0,T,L,I64];exact⟨⟨by omega,by omega⟩,by omega⟩
 .have:k=u.segs.length:=by omega
  subst this;rw[List.take_length] at O;have L:qE (w.drop at_) u.segs=true:=by
   unfold qE;rw[List.length_drop,decide_eq_true (by omega),<-O,decide_eq_true rfl];rfl
  simp+decide[int,ints,L]
theorem zcj(o:Orth)(S:OrthC o)(W:∀ u∈o.units,UnitF u)(w:List Int)(hw:w.length<2^40):
  zi Tryz.prog 48 [.agg o.cells,ints w] (.tup [.str (xc o.units w).1,int (xc o.units w).2.1,int (xc o.units w).2.2]):=by
 have A:=S.few.1
 refine zp mixed Tryz.func48 rfl c_48 ?_
 by_cases c0:w.length=0
 .have:w=[]:=List.eq_nil_of_length_eq_zero c0
  subst this;simp+decide[Tryz.f48,int,ints,Orth.cells,xc]
 have c0':¬(w.length:Int)=0:=by omega
 by_cases c1:24<w.length
 .have c1':(24:Int)<w.length:=by omega
  have V:xc o.units w=(.empty,0,5):=by unfold xc;rw[if_neg c0,if_pos c1]
  rw[V];simp+decide[Tryz.f48,int,ints,Orth.cells,c0,c0',c1,c1']
 have c1':¬(24:Int)<w.length:=by omega
 have V:xc o.units w=kg o.units w (w.length+1) 0 .empty:=by unfold xc;rw[if_neg c0,if_neg c1]
 simp+decide[Tryz.f48,int,ints,Orth.cells,c0,c0',c1,c1']
 refine yg mixed (λx:Nat×Nat×ByteArray=>{n:=79,next:=1,slots:=[(1,.d (ints w)),(2,.bp 0 0),(7,.d (.str x.2.2)),(8,.d (int x.2.1))],own:=[(0,.box 28 (o.cells.map .d))]})
  (λx=>x.2.1<=w.length/\w.length<x.2.1+x.1/\kg o.units w x.1 x.2.1 x.2.2=xc o.units w/\x.2.2.size<=32*x.2.1) (λx=>w.length-x.2.1)
  (w.length+1,0,.empty) ⟨by simp,by simp,V.symm,by simp⟩ ?_ ?_
 .simp+decide[int,ints,Orth.cells]
 rintro⟨f,at_,acc⟩ ⟨Z,hf,K,B⟩
 simp only at Z hf K B
 refine zM mixed ?_
 obtain⟨f,rfl⟩:∃ f',f=f'+1:=⟨f-1,by omega⟩
 unfold kg at K
 by_cases T:at_<w.length
 case neg=>
  have J:¬(at_:Int)<w.length:=by omega
  rw[if_neg T] at K;rw[<-K];simp+decide[int,ints,T,J,Orth.cells]
 rw[if_pos T] at K
 have J:(at_:Int)<w.length:=by omega
 simp+decide[int,ints,T,J,Orth.cells]
 refine yg mixed (λk:Nat=>{n:=79,next:=1,slots:=[(1,.d (ints w)),(2,.bp 0 0),(7,.d (.str acc)),(8,.d (int at_)),(9,.d (int (xA (q9 o.units (w.drop at_) k)))),(10,.d (int k))],own:=[(0,.box 28 (o.cells.map .d))]})
  (λk=>k<=o.units.length) (λk=>o.units.length-k) 0 (Nat.zero_le _) ?_ ?_
 .simp+decide[int,ints,Orth.cells,q9,xA]
 intro k hk
 refine zM mixed ?_
 by_cases F:k<o.units.length
 .have G:(k:Int)<o.units.length:=by omega
  obtain⟨u,eu⟩:∃ u,o.units[k]=u:=⟨_,rfl⟩;have eu1:o.units[k]?=some u:=by rw[List.getElem?_eq_getElem F,eu]
  have C:=(W o.units[k] (List.getElem_mem F)).few;rw[eu] at C;have hS:=ze3 w at_ u hw Z (by omega)
  have H:q9 o.units (w.drop at_) (k+1)=if qE (w.drop at_) u.segs=true then (match q9 o.units (w.drop at_) k with
    |none=>some k
    |some b=>if ((o.units[b]?.map λv=>v.segs.length).getD 0)<u.segs.length then some k else some b)
   else q9 o.units (w.drop at_) k:=by simp only[q9,eu1] <;> rfl
  cases hb:qE (w.drop at_) u.segs with
  |false=>
   rw[hb] at H hS;rw[if_neg (by decide)] at H
   simp+decide[int,ints,zI,Orth.cells,F,G,eu,eu1,Grap.row,I64];refine zq (by rfl) (by rfl) hS (by simp[D.scalar,Grap.row]) ?_
   simp+decide[int,ints,zI,Orth.cells,F,G,eu,eu1,Grap.row,I64];exact⟨by omega,k+1,F,by omega,by rw[H],by omega⟩
  |true=>
   rw[hb] at H hS;rw[if_pos rfl] at H;cases X:q9 o.units (w.drop at_) k with
   |none=>
    rw[X] at H;simp only at H
    simp+decide[int,ints,zI,Orth.cells,F,G,eu,eu1,Grap.row,I64,xA];refine zq (by rfl) (by rfl) hS (by simp[D.scalar,Grap.row]) ?_
    simp+decide[int,ints,zI,Orth.cells,F,G,eu,eu1,Grap.row,I64,xA];exact⟨by omega,k+1,F,by omega,by rw[H],by omega⟩
   |some b=>
    obtain⟨v,ev1,_⟩:=Z1 X;obtain⟨M,ev⟩:=List.getElem?_eq_some_iff.1 ev1;have E:(b:Int)<o.units.length:=by omega
    rw[X] at H;simp only at H
    rw[ev1] at H;simp only[Option.map_some,Option.getD_some] at H;have O:¬(b:Int)<0:=by omega
    by_cases hc:v.segs.length<u.segs.length
    .have Q:(v.segs.length:Int)<u.segs.length:=by omega
     rw[if_pos hc] at H;simp+decide[int,ints,zI,Orth.cells,F,G,eu,eu1,Grap.row,I64,xA,M,E,ev,ev1,hc,Q,O];refine zq (by rfl) (by rfl) hS (by simp[D.scalar,Grap.row]) ?_
     simp+decide[int,ints,zI,Orth.cells,F,G,eu,eu1,Grap.row,I64,xA,M,E,ev,ev1,hc,Q,O];exact⟨by omega,k+1,F,by omega,by rw[H],by omega⟩
    .have Q:¬(v.segs.length:Int)<u.segs.length:=by omega
     rw[if_neg hc] at H;simp+decide[int,ints,zI,Orth.cells,F,G,eu,eu1,Grap.row,I64,xA,M,E,ev,ev1,hc,Q,O];refine zq (by rfl) (by rfl) hS (by simp[D.scalar,Grap.row]) ?_
     simp+decide[int,ints,zI,Orth.cells,F,G,eu,eu1,Grap.row,I64,xA,M,E,ev,ev1,hc,Q,O];exact⟨by omega,k+1,F,by omega,by rw[H],by omega⟩
 .have:k=o.units.length:=by omega
  subst this;cases hb:q9 o.units (w.drop at_) o.units.length with
  |none=>
   rw[hb] at K;simp only at K
   rw[<-K];simp+decide[int,ints,zI,Orth.cells,xA]
  |some b=>
   obtain⟨v,ev1,L⟩:=Z1 hb;obtain⟨M,ev⟩:=List.getElem?_eq_some_iff.1 ev1;have E:(b:Int)<o.units.length:=by omega
   have O:¬(b:Int)<0:=by omega
   have hF:=W v (List.mem_of_getElem? ev1);have I:=hF.size;have N:=hF.segs;have P:v.segs.length<=w.length-at_:=by
    unfold qE at L;rw[Bool.and_eq_true,decide_eq_true_eq,List.length_drop] at L;exact L.1
   rw[hb] at K;simp only[ev1,Option.map_some,Option.getD_some] at K;have Y:(acc++v.graph).size<=32*(at_+v.segs.length):=by rw[ByteArray.size_append];omega
   simp+decide[int,ints,zI,Orth.cells,xA,Grap.row,M,E,ev,ev1,O,I64];exact⟨by omega,⟨by omega,by omega⟩,f,at_+v.segs.length,acc++v.graph,⟨by omega,by omega,K,Y⟩,by omega,rfl,by omega⟩
def yS(l:List ByteArray):D:=.sl (l.map λs=>[.str s])
def qw(l:List Ent)(p:Prt):List Int:=((zD l p.entry).1.forms[p.alt.toNat]?).getD []
def ZQ(l:List Ent)(p:Prt):ByteArray:=((yW l p.entry)[p.sense.toNat]?.map λs=>s.x4).getD .empty
def vA(g:Lang):List Prt->List ByteArray->List ByteArray->List ByteArray×List ByteArray×Int
 | [],x,y=>(x,y,0)
 |p::ps,x,y=>if (xc g.orth.units (qw g.lex p)).2.2≠0 then ([],[],(xc g.orth.units (qw g.lex p)).2.2)
   else vA g ps (x++[(xc g.orth.units (qw g.lex p)).1]) (y++[ZQ g.lex p])
def xo(g:Lang)(ps:List Prt):List ByteArray×List ByteArray×Int:=
 if xX g ps≠0 then ([],[],xX g ps) else vA g ps [] []
theorem Hm:∀ {l:List Ent} {ps:List Prt},vo l ps=0->∀ p∈ps,xM l p=0
 |l,[],_,p,H=>by cases H
 |l,q::ps,h,p,H=>by
  unfold vo at h;split at h
  .rename_i hq
   rcases List.mem_cons.1 H with rfl | H
   .exact hq
   .exact Hm h p H
  .rename_i hq;exact absurd h hq
theorem Hn{g:Lang}{ps:List Prt}(h:xX g ps=0):ps.length<=4/\∀ p∈ps,xM g.lex p=0:=by
 unfold xX at h
 split at h
 .cases h
 .split at h
  .cases h
  .split at h
   .rename_i H;exact absurd h H
   .rename_i G H
    exact⟨by omega,Hm (by simpa using H)⟩
theorem Ho{l:List Ent}{p:Prt}(h:xM l p=0):(zD l p.entry).2=true/\0<=p.alt/\p.alt<(zD l p.entry).1.forms.length/\0<=p.sense/\p.sense<(yW l p.entry).length:=by
 unfold xM at h
 split at h
 .cases h
 .rename_i H
  split at h
  .cases h
  .rename_i h2
   split at h
   .cases h
   .rename_i h3
    unfold xK at h2;split at h2
    .rename_i h4
     exact⟨by simpa using H,h4.2.1,h4.2.2,by omega,by omega⟩
    .simp at h2
theorem Hp{g:Lang}{ps:List Prt}{k:Nat}{x y:List ByteArray}(h:k<ps.length):vA g (ps.drop k) x y=if (xc g.orth.units (qw g.lex ps[k])).2.2≠0 then ([],[],(xc g.orth.units (qw g.lex ps[k])).2.2)
   else vA g (ps.drop (k+1)) (x++[(xc g.orth.units (qw g.lex ps[k])).1]) (y++[ZQ g.lex ps[k]]):=by
 rw[List.drop_eq_getElem_cons h];rfl
def strRow(l:List ByteArray):List (List D):=l.map λs=>[.str s]
theorem Hq(g:Lang)(B:LightF g)(C:LangC g)(ps:List Prt)(I:ps.length<2^20):
  zi Tryz.prog 14 [g.d,zu ps] (.tup [yS (xo g ps).1,yS (xo g ps).2.1,int (xo g ps).2.2]):=by
 have N:=B.wA C
 have P:=N.toLangOk
 have O:=Dh g P ps I
 refine zp mixed Tryz.func14 rfl c_14 ?_
 unfold xo
 simp+decide[Tryz.f14,int,Lang.d,zu,zj]
 refine zc.pure (by rfl) O (by simp[Lang.d,zu,zj,int]) ?_
 by_cases S:xX g ps=0
 case neg=>simp+decide[int,S,yS]
 obtain⟨h4,Q⟩:=Hn S
 obtain⟨E,hE⟩:∃ E,vA g ps [] []=E:=⟨_,rfl⟩
 simp+decide[int,S,hE,zg]
 refine yg mixed (λx:Nat×List ByteArray×List ByteArray=>{n:=74,next:=6,slots:=[(2,.bp 0 0),(3,.bp 1 0),(8,.ar 4),(9,.ar 5),(24,.d (zg ps)),(25,.d (int ps.length)),(26,.d (int x.1))],own:=[(0,.box 36 (zj g.d)),(1,.box 39 [.d (zg ps)]),(4,.arr 9 1 (strRow x.2.1)),(5,.arr 9 1 (strRow x.2.2))],moved:=[4,5]})
  (λx=>x.1<=ps.length/\x.2.1.length=x.1/\x.2.2.length=x.1/\vA g (ps.drop x.1) x.2.1 x.2.2=E) (λx=>ps.length-x.1) (0,[],[]) ⟨Nat.zero_le _,rfl,rfl,by rw[List.drop_zero];exact hE⟩ ?_ ?_
 .simp+decide[int,zg,zj,Lang.d,strRow]
 rintro⟨k,x,y⟩ ⟨hk,hx,hy,H⟩
 simp only at hk hx hy H
 refine zM mixed ?_
 by_cases F:k<ps.length
 case neg=>
  have:k=ps.length:=by omega
  rw[this,List.drop_length] at H;subst H;have G:¬(k:Int)<ps.length:=by omega
  simp+decide[int,F,G,vA,yS,strRow]
 have G:(k:Int)<ps.length:=by omega
 rw[Hp F] at H
 obtain⟨p,ep⟩:∃ p,ps[k]=p:=⟨_,rfl⟩
 have e1:ps[k]?=some p:=by rw[List.getElem?_eq_getElem F,ep]
 have L:=Q ps[k] (List.getElem_mem F)
 rw[ep] at H L
 obtain⟨q1,q2,q3,q4,q5⟩:=Ho L
 have hG:=Vt g.lex p.entry P.lex.len
 have hA:=Yh P.lex p.entry
 have hF:=K8 (zD g.lex p.entry).1 (by omega)
 have T:(qw g.lex p).length<2^20:=by
  unfold qw;have hj:p.alt.toNat<(zD g.lex p.entry).1.forms.length:=by omega
  rw[List.getElem?_eq_getElem hj];exact P.lex.form _ (Yg q1) _ (List.getElem_mem hj)
 have hS:=zgs g.orth C.orth B.units1 (qw g.lex p) (by omega)
 have M:=Vu g.lex p.entry P.lex.len P.lex.senses
 have J:=Hl B.units1 (qw g.lex p)
 have K:(zD g.lex p.entry).1.forms[p.alt.toNat]?=some (qw g.lex p):=by
  unfold qw;have hj:p.alt.toNat<(zD g.lex p.entry).1.forms.length:=by omega
  rw[List.getElem?_eq_getElem hj];rfl
 obtain⟨sn,hsn,V⟩:∃ sn,(yW g.lex p.entry)[p.sense.toNat]?=some sn/\ZQ g.lex p=sn.x4:=by
  have hj:p.sense.toNat<(yW g.lex p.entry).length:=by omega
  exact⟨_,List.getElem?_eq_getElem hj,by unfold ZQ;rw[List.getElem?_eq_getElem hj];rfl⟩
 rw[V] at H
 generalize qw g.lex p=W at K hS H J T
 generalize xc g.orth.units W=z at hS H J
 generalize yW g.lex p.entry=ss at M hsn q5
 generalize zD g.lex p.entry=r at hG hF K q3 q1 hA
 obtain⟨e,ok⟩:=r
 obtain⟨s,pos,err⟩:=z
 simp only at hG hF K q3 q1 hS H J hA
 subst q1
 have hj:p.alt.toNat<e.forms.length:=by omega
 have X:e.forms[p.alt.toNat]=W:=Option.some.inj (by rw[<-List.getElem?_eq_getElem hj];exact K)
 have hk:p.sense.toNat<ss.length:=by omega
 have Y:ss[p.sense.toNat]=sn:=Option.some.inj (by rw[<-List.getElem?_eq_getElem hk];exact hsn)
 simp+decide[int,zg,zj,Lang.d,Prt.row,F,G,ep,e1,I64]
 refine zc.pure (by rfl) hG (by simp[zn,int]) ?_
 simp+decide[int,zg,zj,Lang.d,Prt.row,Ent.row,I64]
 refine zq (by rfl) (by rfl) hF (by simp[D.scalar]) ?_
 simp+decide[int,zg,zj,Lang.d,Prt.row,Ent.row,I64,yc,q2,q3,hj,X]
 refine zq (by rfl) (by rfl) hS (by simp[D.scalar]) ?_
 by_cases he:err=0
 case neg=>
  rw[if_pos he] at H;subst H;simp+decide[int,zg,zj,Lang.d,Prt.row,Ent.row,I64,he,yS]
 subst he
 rw[if_neg (by decide)] at H
 simp+decide[int,zg,zj,Lang.d,Prt.row,Ent.row,I64,maxLen]
 have Z:(strRow x).length=k:=by simp[strRow,hx]
 have A:(strRow y).length=k:=by simp[strRow,hy]
 refine⟨by omega,by omega,?_⟩
 refine uc mixed 12 (by rfl) (by rfl) (by rfl) (by rfl) (by simp) ?_
 simp+decide[int,zg,zj,Lang.d,Prt.row,Ent.row,I64,maxLen]
 refine zq (by rfl) (by rfl) M (by simp[D.scalar]) ?_
 simp+decide[int,zg,zj,Lang.d,Prt.row,Ent.row,I64,maxLen,zT,Sens.row,q4,q5,hk,Y]
 exact⟨by omega,by omega,⟨by omega,by omega⟩,k+1,x++[s],y++[sn.x4],⟨F,by simp[hx],by simp[hy],H⟩,by omega,by omega,by simp[strRow],by simp[strRow]⟩
theorem zck(g:Lang)(B:LightF g)(C:LangC g)(ps:List Prt)(I:ps.length<2^20):
  zi Tryz.prog 15 [g.d,zu ps] (.tup [yS (xo g ps).1,yS (xo g ps).2.1,int (xo g ps).2.2]):=by
 have N:=B.wA C
 have P:=N.toLangOk
 have O:=Dt g N.toLangL ps I
 refine zp mixed Tryz.func15 rfl c_15 ?_
 unfold xo
 simp+decide[Tryz.f15,int,Lang.d,zu,zj]
 refine zc.pure (by rfl) O (by simp[Lang.d,zu,zj,int]) ?_
 by_cases S:xX g ps=0
 case neg=>simp+decide[int,S,yS]
 obtain⟨h4,Q⟩:=Hn S
 obtain⟨E,hE⟩:∃ E,vA g ps [] []=E:=⟨_,rfl⟩
 simp+decide[int,S,hE,zg]
 refine yg mixed (λx:Nat×List ByteArray×List ByteArray=>{n:=78,next:=6,slots:=[(2,.bp 0 0),(3,.bp 1 0),(8,.ar 4),(9,.ar 5),(10,.d (int x.1))],own:=[(0,.box 36 (zj g.d)),(1,.box 39 [.d (zg ps)]),(4,.arr 9 1 (strRow x.2.1)),(5,.arr 9 1 (strRow x.2.2))],moved:=[4,5]})
  (λx=>x.1<=ps.length/\x.2.1.length=x.1/\x.2.2.length=x.1/\vA g (ps.drop x.1) x.2.1 x.2.2=E) (λx=>ps.length-x.1) (0,[],[]) ⟨Nat.zero_le _,rfl,rfl,by rw[List.drop_zero];exact hE⟩ ?_ ?_
 .simp+decide[int,zg,zj,Lang.d,strRow]
 rintro⟨k,x,y⟩ ⟨hk,hx,hy,H⟩
 simp only at hk hx hy H
 refine zM mixed ?_
 by_cases F:k<ps.length
 case neg=>
  have:k=ps.length:=by omega
  rw[this,List.drop_length] at H;subst H;have G:¬(k:Int)<ps.length:=by omega
  simp+decide[int,F,G,vA,yS,strRow,zg]
 have G:(k:Int)<ps.length:=by omega
 rw[Hp F] at H
 obtain⟨p,ep⟩:∃ p,ps[k]=p:=⟨_,rfl⟩
 have e1:ps[k]?=some p:=by rw[List.getElem?_eq_getElem F,ep]
 have L:=Q ps[k] (List.getElem_mem F)
 rw[ep] at H L
 obtain⟨q1,q2,q3,q4,q5⟩:=Ho L
 have hG:=XE g.lex p.entry (by have:=P.lex.len;omega)
 have hA:=Yh P.lex p.entry
 have hF:=Kg (zD g.lex p.entry).1 (by omega)
 have T:(qw g.lex p).length<2^20:=by
  unfold qw;have hj:p.alt.toNat<(zD g.lex p.entry).1.forms.length:=by omega
  rw[List.getElem?_eq_getElem hj];exact P.lex.form _ (Yg q1) _ (List.getElem_mem hj)
 have hS:=zcj g.orth C.orth B.units1 (qw g.lex p) (by omega)
 have M:=Kf g.lex p.entry P.lex.len
 have J:=Hl B.units1 (qw g.lex p)
 have K:(zD g.lex p.entry).1.forms[p.alt.toNat]?=some (qw g.lex p):=by
  unfold qw;have hj:p.alt.toNat<(zD g.lex p.entry).1.forms.length:=by omega
  rw[List.getElem?_eq_getElem hj];rfl
 obtain⟨sn,hsn,V⟩:∃ sn,(yW g.lex p.entry)[p.sense.toNat]?=some sn/\ZQ g.lex p=sn.x4:=by
  have hj:p.sense.toNat<(yW g.lex p.entry).length:=by omega
  exact⟨_,List.getElem?_eq_getElem hj,by unfold ZQ;rw[List.getElem?_eq_getElem hj];rfl⟩
 rw[V] at H
 generalize qw g.lex p=W at K hS H J T
 generalize xc g.orth.units W=z at hS H J
 generalize yW g.lex p.entry=ss at M hsn q5
 generalize zD g.lex p.entry=r at hG hF K q3 q1 hA
 obtain⟨e,ok⟩:=r
 obtain⟨s,pos,err⟩:=z
 simp only at hG hF K q3 q1 hS H J hA
 subst q1
 have hj:p.alt.toNat<e.forms.length:=by omega
 have X:e.forms[p.alt.toNat]=W:=Option.some.inj (by rw[<-List.getElem?_eq_getElem hj];exact K)
 have hk:p.sense.toNat<ss.length:=by omega
 have Y:ss[p.sense.toNat]=sn:=Option.some.inj (by rw[<-List.getElem?_eq_getElem hk];exact hsn)
 simp+decide[int,zg,zj,Lang.d,Prt.row,F,G,ep,e1,I64]
 refine zc.pure (by rfl) hG (by simp[zn,int]) ?_
 simp+decide[int,zg,zj,Lang.d,Prt.row,Ent.row,I64]
 refine zq (by rfl) (by rfl) hF (by simp[D.scalar]) ?_
 simp+decide[int,zg,zj,Lang.d,Prt.row,Ent.row,I64,yc,q2,q3,hj,X]
 refine zq (by rfl) (by rfl) hS (by simp[D.scalar]) ?_
 by_cases he:err=0
 case neg=>
  rw[if_pos he] at H;subst H;simp+decide[int,zg,zj,Lang.d,Prt.row,Ent.row,I64,he,yS]
 subst he
 rw[if_neg (by decide)] at H
 simp+decide[int,zg,zj,Lang.d,Prt.row,Ent.row,I64,maxLen]
 have Z:(strRow x).length=k:=by simp[strRow,hx]
 have A:(strRow y).length=k:=by simp[strRow,hy]
 refine⟨by omega,by omega,?_⟩
 refine uc mixed 12 (by rfl) (by rfl) (by rfl) (by rfl) (by simp) ?_
 simp+decide[int,zg,zj,Lang.d,Prt.row,Ent.row,I64,maxLen]
 refine zq (by rfl) (by rfl) M (by simp[D.scalar]) ?_
 simp+decide[int,zg,zj,Lang.d,Prt.row,Ent.row,I64,maxLen,zT,Sens.row,q4,q5,hk,Y]
 exact⟨by omega,by omega,⟨by omega,by omega⟩,k+1,x++[s],y++[sn.x4],⟨F,by simp[hx],by simp[hy],H⟩,by omega,by omega,by simp[strRow],by simp[strRow]⟩
theorem Hr{g:Lang}:∀ {ps:List Prt} {x y:List ByteArray},(vA g ps x y).1.length<=x.length+ps.length/\(vA g ps x y).2.1.length<=y.length+ps.length
 | [],x,y=>by simp[vA]
 |p::ps,x,y=>by
  unfold vA;split
  .simp
  .have:=Hr (g:=g) (ps:=ps) (x:=x++[(xc g.orth.units (qw g.lex p)).1]) (y:=y++[ZQ g.lex p])
   simp only[List.length_append,List.length_cons,List.length_nil] at this ⊢;omega
theorem Ht(g:Lang)(ps:List Prt):(xo g ps).1.length<=ps.length/\(xo g ps).2.1.length<=ps.length:=by
 unfold xo
 split
 .simp
 .have:=Hr (g:=g) (ps:=ps) (x:=[]) (y:=[])
  simpa using this
def Jp(g:Lang)(s:ByteArray)(ps:List Prt):Bool:=decide ((yL g.orth.units s).2.2=0)&&vq g (yL g.orth.units s).1 ps
theorem za0(g:Lang)(G:LightF g)(F:LangC g)(s:ByteArray)(hs:s.size<=1024)(ps:List Prt)(E:ps.length<2^20):zi Tryz.prog 64 [g.d,.str s,zu ps] (.bool (Jp g s ps)):=by
 have K:=G.wA F
 have J:=G3 g.orth F.orth G.graphs s hs
 have H:=Qm g.orth.units s
 have L:=Di g K.toLangOk (yL g.orth.units s).1 (by omega) ps E
 unfold Jp vq
 generalize yL g.orth.units s=z at *
 obtain⟨w,pos,e⟩:=z
 simp only at J L H ⊢
 refine zp mixed Tryz.func64 rfl c_64 ?_
 simp+decide[Tryz.f64,int,Lang.d,zu,zj]
 refine zc.pure (by rfl) J (by simp[D.scalar]) ?_
 by_cases M:e=0
 .simp+decide[int,ints,M]
  refine zc.pure (by rfl) L (by simp[D.scalar]) ?_
  simp+decide[int,ints]
 .simp+decide[int,ints,M]
end Go.V
namespace Go.V.Doc
open Go Go.Proofs
def newG(d:Dc)(w nx:Int)(F G:List ByteArray)(i:Nat):List Nt:=
 [⟨nx+2*i,zR d.tiers 3,w,0,0,i,(F[i]?).getD .empty⟩,⟨nx+2*i+1,zR d.tiers 4,nx+2*i,0,0,0,(G[i]?).getD .empty⟩]
def kh(d:Dc)(w nx:Int)(F G:List ByteArray)(k:Nat):List Nt:=(List.range k).flatMap (newG d w nx F G)
theorem Hu(d:Dc)(w nx:Int)(F G:List ByteArray)(k:Nat):kh d w nx F G (k+1)=kh d w nx F G k++newG d w nx F G k:=by
 unfold kh;rw[List.range_succ,List.flatMap_append];simp
theorem G5(d:Dc)(w nx:Int)(F G:List ByteArray):∀ k,(kh d w nx F G k).length=2*k
 |0=>rfl
 |k+1=>by rw[Hu,List.length_append,G5 d w nx F G k];simp[newG];omega
def ZR(l:List Nt)(nx:Int)(k:Nat):Bool:=(List.range k).any λi=>(zy l (nx+i)).2
theorem Hv(l:List Nt)(nx:Int)(k:Nat):ZR l nx (k+1)=(ZR l nx k || (zy l (nx+k)).2):=by
 unfold ZR;rw[List.range_succ,List.any_append];simp
def Jq(F:List ByteArray):Bool:=F.any λs=>decide (200<s.size)
def Hw(d:Dc)(w nx:Int)(F G:List ByteArray):Dc:={d with notes:=Ys (xg d w++kh d w nx F G F.length)}
def Qn(d:Dc)(g:Lang)(w:Int)(ps:List Prt)(nx:Int):Dc×Int:=
 if (VY d w).2≠0 then (uu,(VY d w).2)
 else if Jp g (zy d.notes w).1.text ps=false then (uu,23)
 else if (xo g ps).2.2≠0 then (uu,(xo g ps).2.2)
 else if Jq (xo g ps).1=true then (uu,5)
 else if nx<1\/1099511627768<nx then (uu,2)
 else if ZR (xg d w) nx (2*(xo g ps).1.length)=true then (uu,8)
 else if 300<(xg d w).length+2*(xo g ps).1.length then (uu,11)
 else (Hw d w nx (xo g ps).1 (xo g ps).2.1,0)
theorem Hx{d:Dc}(h:Rgt d){w:Int}(F:qf d w=true):zy (xg d w) w=zy d.notes w:=by
 unfold qf at F
 rw[Bool.and_eq_true] at F
 obtain⟨E,K⟩:=Yp F.1
 obtain⟨n,J⟩:∃ n,(zy d.notes w).1=n:=⟨_,rfl⟩
 rw[J] at E K
 have L:VX d w n=false:=by
  unfold VX;rw[decide_eq_false_iff_not];intro M;obtain⟨c,M,_,q⟩:=(Se h E).1 M;have O:=RH h E M;have:=Ug h E (Uh h E M) (by rw[q,K])
  omega
 have H:=Zz h E
 rw[K] at H
 rw[H]
 unfold xg
 unfold zy at H ⊢
 rw[List.find?_filter]
 have key:∀ l:List Nt,l.Pairwise (λa b=>a.id<b.id)->n∈l->List.find? (λa=>decide ((!VX d w a)=true/\decide (a.id=w)=true)) l=some n:=by
  intro l Q G;rw[List.find?_eq_some_iff_append];obtain⟨l1,l2,rfl⟩:=List.append_of_mem G;refine⟨by simp[L,K],l1,l2,rfl,λa T=>?_⟩
  have:=(List.pairwise_append.1 Q).2.2 a T n List.mem_cons_self
  have:¬a.id=w:=by omega
  simp[this]
 rw[key _ h.inc E]
theorem note_text{d:Dc}(h:Rgt d)(id:Int):(zy d.notes id).1.text.size<=1024:=by
 cases H:(zy d.notes id).2 with
 |true=>
  have G:=(Yp H).1;have F:=(h.nok _ G).e;rw[KH] at F;split at F
  .rename_i ht
   unfold textE at ht;split at ht
   .cases ht
   .omega
  .rename_i ht;exact absurd F ht
 |false=>
  unfold zy at H ⊢;split at H
  .cases H
  .exact Nat.zero_le _
def vV(d:Dc)(g:Lang)(ps:List Prt)(N:List Nt):List (Nat×Obj'):=
 [(0,.box 53 (yy d)),(1,.box 36 (zj g.d)),(2,.box 39 [.d (zg ps)]),(3,.box 53 zeroCells),(8,.arr 72 7 (N.map Nt.row)),
  (10,.box 53 [.d (int d.id),.d (.str d.name),.d (int d.len),.d (int d.day),.d (ints d.spk),.d (zF d.tiers),.ar 8])]
def vW(w nx:Int)(F G:List ByteArray):List (Nat×Sym):=
 [(2,.d (int w)),(4,.d (int nx)),(5,.bp 0 0),(6,.bp 1 0),(8,.bp 2 0),(10,.bp 3 0),(12,.bp 10 0),(16,.d (yS F)),(17,.d (yS G))]
theorem Hy{g:Lang}:∀ {ps:List Prt} {x y:List ByteArray},y.length=x.length->(vA g ps x y).2.1.length=(vA g ps x y).1.length
 | [],x,y,h=>h
 |p::ps,x,y,h=>by
  unfold vA;split
  .rfl
  .exact Hy (by simp[h])
theorem zcl(g:Lang)(ps:List Prt):(xo g ps).2.1.length=(xo g ps).1.length:=by
 unfold xo
 split
 .rfl
 .exact Hy rfl
theorem Qo(g:Lang){m:Nat}:Sym.los m (zj g.d):=by simp[zj,Lang.d,Sym.los,Sym.lo]
theorem zgt{d:Dc}(h:Rgt d)(g:Lang)(hL:LightF g)(hg:LangC g)(w:Int)(hC:zJ Tryz.prog 22 [.d (zA d),.d (int w)] [] 0 (.tup [.agg [.d (int d.id),.d (.str d.name),.d (int d.len),.d (int d.day),.d (ints d.spk),.d (zF d.tiers),.ar 4],.d (int 0)]) 6 [(4,.arr 72 7 ((xg d w).map Nt.row))] [3,4])(ps:List Prt)(hp:ps.length<2^20)(nx:Int)(hr:xN d=true)(hw:qf d w=true):
  zi Tryz.prog 26 [zA d,g.d,int w,zu ps,int nx] (.tup [zA (Qn d g w ps nx).1,int (Qn d g w ps nx).2]):=by
 have S:=h.few
 have W:=B7 h
 have H0:(VY d w).2=0:=by unfold VY;rw[if_neg (by rw[hr];decide),if_neg (by rw[hw];decide)]
 have F2:(xg d w).length<=d.notes.length:=List.length_filter_le _ _
 have C:=Yl (ZF d w) w (by simp only[ZF];omega)
 have V:=za0 g hL hg (zy d.notes w).1.text (note_text h w) ps hp
 have H1:=Hq g hL hg ps hp
 have Hc:=Ht g ps
 have Hi:=zcl g ps
 have Hs:=ZD d (by omega)
 rw[show(ZF d w).notes=xg d w from rfl,Hx h hw] at C
 obtain⟨E,hE⟩:∃ E,Qn d g w ps nx=E:=⟨_,rfl⟩
 rw[hE]
 unfold Qn at hE
 rw[if_neg (by simp[H0])] at hE
 refine u4 mixed Tryz.func26 rfl c_26 [8] ?_
 simp+decide[Tryz.f26,zA,Dc.row,int,Lang.d,zu,zj]
 refine zc.mut [] [.d (zA d),.d (int w)] [] (by rfl) (by simp[zA,Dc.row,int]) (by simp) (by simp) hC ?_
 simp+decide[int]
 refine zc.pure (by rfl) C (by simp[getD',D.scalar,D.scalars,Nt.row,int]) ?_
 simp+decide[getD',Nt.row,int]
 refine zc.pure (by rfl) V (by simp[D.scalar]) ?_
 cases J:Jp g (zy d.notes w).1.text ps with
 |false=>
  rw[if_pos J] at hE;subst hE;simp+decide[int];exact⟨rfl,rfl,rfl⟩
 |true=>
 rw[if_neg (by rw[J];decide)] at hE
 simp+decide[int]
 refine zc.pure (by rfl) H1 (by simp[D.scalar]) ?_
 generalize xo g ps=z at *
 obtain⟨F,G,e⟩:=z
 simp only at hE Hc Hi
 by_cases he:e=0
 case neg=>
  rw[if_pos he] at hE;subst hE;simp+decide[int,he];exact⟨rfl,rfl,rfl⟩
 subst he
 rw[if_neg (by decide)] at hE
 simp+decide[int,yS]
 refine yg mixed (λk:Nat=>{n:=145,next:=12,slots:=(60,.d (yS F))::(61,.d (int F.length))::(62,.d (int k))::vW w nx F G,own:=vV d g ps (xg d w),moved:=[7,8]})
  (λk=>k<=F.length/\Jq (F.take k)=false) (λk=>F.length-k) 0 ⟨Nat.zero_le _,rfl⟩ ?_ ?_
 .simp+decide[int,vW,vV,yS,zj,Lang.d]
 rintro k ⟨hk,T⟩
 refine zM mixed ?_
 by_cases O:k<F.length
 case pos=>
  have H:(k:Int)<F.length:=by omega
  obtain⟨s,es⟩:∃ s,F[k]=s:=⟨_,rfl⟩;have e1:F[k]?=some s:=by rw[List.getElem?_eq_getElem O,es]
  by_cases hs:200<s.size
  .have X:(200:Int)<s.size:=by omega
   have Gm:Jq F=true:=List.any_eq_true.2 ⟨s,by rw[<-es];exact List.getElem_mem O,by simpa using hs⟩
   rw[if_pos Gm] at hE;subst hE;simp+decide[int,vW,vV,yS,O,H,es,e1,hs,X,I64];exact⟨rfl,rfl,rfl⟩
  .have X:¬(200:Int)<s.size:=by omega
   simp+decide[int,vW,vV,yS,O,H,es,e1,hs,X,I64];refine⟨⟨by omega,by omega⟩,k+1,⟨O,?_⟩,by omega,by omega,Qo g⟩
   unfold Jq at T ⊢;rw[List.take_succ_eq_append_getElem O,List.any_append,T,es];simp[hs]
 have Gn:k=F.length:=by omega
 rw[Gn,List.take_length] at T
 have H:¬(k:Int)<F.length:=by omega
 rw[if_neg (by rw[T];decide)] at hE
 by_cases h1:nx<1
 .rw[if_pos (.inl h1)] at hE
  subst hE;simp+decide[int,vW,vV,yS,H,h1,I64];exact⟨rfl,rfl,rfl⟩
 by_cases h2:1099511627768<nx
 .rw[if_pos (.inr h2)] at hE
  subst hE;simp+decide[int,vW,vV,yS,H,h1,h2,I64];exact⟨rfl,rfl,rfl⟩
 rw[if_neg (λe=>e.elim h1 h2)] at hE
 simp+decide[int,vW,vV,yS,H,h1,h2,I64]
 refine⟨⟨by omega,by omega⟩,?_⟩
 refine yg mixed (λk:Nat=>{n:=145,next:=12,slots:=(80,.d (int (2*F.length)))::(81,.d (int k))::vW w nx F G,own:=vV d g ps (xg d w),moved:=[7,8]})
  (λk=>k<=2*F.length/\ZR (xg d w) nx k=false) (λk=>2*F.length-k) 0 ⟨Nat.zero_le _,rfl⟩ ?_ ?_
 .simp+decide[int,vW,vV,yS]
  exact Qo g
 rintro q ⟨hq,Y⟩
 refine zM mixed ?_
 by_cases I:q<2*F.length
 case pos=>
  have K:(q:Int)<2*F.length:=by omega
  have N:=Yl (ZF d w) (nx+q) (by simp only[ZF];omega)
  rw[show(ZF d w).notes=xg d w from rfl] at N
  have Z:=Hv (xg d w) nx q;generalize zy (xg d w) (nx+q)=r at *;obtain⟨n,ok⟩:=r;simp only[Y,Bool.false_or] at Z;simp+decide[int,vW,vV,yS,I,K,I64];refine⟨⟨by omega,by omega⟩,?_⟩
  refine zc.pure (by rfl) N (by simp[getD',D.scalar,D.scalars,Nt.row,int]) ?_
  cases ok with
  |true=>
   have Go:ZR (xg d w) nx (2*F.length)=true:=by
    have:∀ m,ZR (xg d w) nx (q+1+m)=true:=by
     intro m;induction m with
     |zero=>exact Z
     |succ m ih=>rw[<-Nat.add_assoc,Hv,ih];rfl
    have h:=this (2*F.length-(q+1));rwa [show q+1+(2*F.length-(q+1))=2*F.length by omega] at h
   rw[if_pos Go] at hE;subst hE;simp+decide[getD',Nt.row,int];exact⟨rfl,rfl,rfl⟩
  |false=>
   simp+decide[getD',Nt.row,int,I64];exact⟨⟨by omega,by omega⟩,q+1,⟨I,Z⟩,by omega,by omega,Qo g⟩
 have Gz:q=2*F.length:=by omega
 rw[Gz] at Y
 have K:¬(q:Int)<2*F.length:=by omega
 rw[if_neg (by rw[Y];decide)] at hE
 by_cases h3:300<(xg d w).length+2*F.length
 .have A:(300:Int)<(xg d w).length+2*F.length:=by omega
  rw[if_pos h3] at hE;subst hE;simp+decide[int,vW,vV,yS,K,h3,A,I64];exact⟨⟨by omega,by omega⟩,⟨by omega,by omega⟩,rfl,rfl,rfl⟩
 have A:¬(300:Int)<(xg d w).length+2*F.length:=by omega
 rw[if_neg h3] at hE
 simp+decide[int,vW,vV,yS,K,h3,A,I64]
 refine⟨⟨by omega,by omega⟩,⟨by omega,by omega⟩,?_⟩
 refine zc.pure (by rfl) Hs (by simp[zA,Dc.row]) ?_
 simp+decide[wy,int]
 refine yg mixed (λk:Nat=>{n:=145,next:=13,slots:=(23,.bp 12 0)::(107,.d (int F.length))::(108,.d (int k))::vW w nx F G,own:=(12,.box 112 [.d (int (zR d.tiers 2)),.d (int (zR d.tiers 3)),.d (int (zR d.tiers 4))])::vV d g ps (xg d w++kh d w nx F G k),moved:=[7,8]})
  (λk=>k<=F.length) (λk=>F.length-k) 0 (Nat.zero_le _) ?_ ?_
 .simp+decide[int,vW,vV,yS,kh]
  exact Qo g
 intro i hi
 refine zM mixed ?_
 by_cases J:i<F.length
 case neg=>
  have:i=F.length:=by omega
  subst this;have L:¬(F.length:Int)<F.length:=by omega
  have F0:xg d w++kh d w nx F G F.length≠[]:=by
   intro e0;have P:=Hx h hw;have:xg d w=[]:=(List.append_eq_nil_iff.1 e0).1
   rw[this] at P;unfold qf at hw;rw[<-P] at hw;simp[zy] at hw
  have hS:=Sl (xg d w++kh d w nx F G F.length) F0 (by rw[List.length_append,G5];omega)
  simp+decide[int,vW,vV,yS];simp only[<-List.map_append];refine zc.mut [8] [.ar 0,.fn 66 []] [(0,.arr 72 7 ((xg d w++kh d w nx F G F.length).map Nt.row))] (by rfl) (by simp[int]) (by simp[Sym.los,Sym.lo]) (by simp) hS ?_
  subst hE;simp+decide[int,Hw];exact rfl
 have L:(i:Int)<F.length:=by omega
 obtain⟨s,es⟩:∃ s,F[i]=s:=⟨_,rfl⟩
 have e1:F[i]?=some s:=by rw[List.getElem?_eq_getElem J,es]
 have B:i<G.length:=by omega
 have Q:(i:Int)<G.length:=by omega
 obtain⟨u,eu⟩:∃ u,G[i]=u:=⟨_,rfl⟩
 have e2:G[i]?=some u:=by rw[List.getElem?_eq_getElem B,eu]
 have hsn:=Hu d w nx F G i
 have F1:=G5 d w nx F G i
 unfold newG at hsn
 rw[e1,e2] at hsn
 generalize kh d w nx F G i=M at hsn F1
 simp+decide[int,vW,vV,yS,J,L,B,Q,es,e1,eu,e2,I64]
 refine⟨⟨by omega,by omega⟩,⟨by omega,by omega⟩,?_⟩
 refine uc mixed 23 (by rfl) (by rfl) (by rfl) (by rfl) (by simp) ?_
 simp+decide[int,yS,J,L,B,Q,es,e1,eu,e2,I64,maxLen]
 exact⟨⟨by omega,by omega⟩,by omega,by omega,⟨by omega,by omega⟩,i+1,J,by omega,by omega,by simp[zj,Lang.d,qH,zS],Qo g,by rw[hsn];simp[Nt.row,int]⟩
end Go.V.Doc
namespace Go.V
open Go Go.Proofs
def xd(d x:Dec):Bool:=d.yes&&(x.yes&&decide (d.ref=x.ref))
theorem wF{a b:Rf}:a=b↔a.rcd=b.rcd/\a.note=b.note:=by cases a;cases b;simp
def vf(a b:Dec):Bool:=if a.ref.rcd=b.ref.rcd then (if a.ref.note=b.ref.note then zN a.pick b.pick else decide (a.ref.note<b.ref.note)) else decide (a.ref.rcd<b.ref.rcd)
def Dec.fit(d:Dec):Prop:=d.pick.length<2^62
theorem ze4(a b:Dec)(H:a.fit)(G:b.fit):zi Tryz.prog 118 [.agg a.row,.agg b.row] (.bool (vf a b)):=by
 refine zp mixed Tryz.func118 rfl c_118 ?_
 simp+decide[Tryz.f118,Dec.row,int,vf]
 refine⟨λh F=>absurd F h,λh=>⟨λh2=>?_,λh2=>?_⟩⟩
 .rw[if_pos h,if_neg h2]
 .refine zc.pure (by rfl) (Vr a.pick b.pick H G) (by simp) ?_
  simp[if_pos h,if_pos h2]
def cmpD(a b:Dec):Int:=if DL a.ref b.ref=0 then (if zN a.pick b.pick=true then -1 else if zN b.pick a.pick=true then 1 else 0) else DL a.ref b.ref
def isId(n:Int):Bool:=decide (1<=n)&&decide (n<=1099511627776)
theorem Hz(n:Int):zi Tryz.prog 117 [int n] (.bool (isId n)):=by
 refine zp mixed Tryz.func117 rfl c_117 ?_
 simp+decide[Tryz.f117,int,isId]
 omega
def wG{α:Type}(p:α->Bool)(l:List α):Int:=match l.findIdx? p with
 |some k=>k
 |none=>-1
theorem HA{α:Type}{p:α->Bool}{l:List α}{k:Nat}(h:k<l.length)(H:∀ e∈l.take k,p e=false)(G:p l[k]=true):l.findIdx? p=some k:=by
 rw[List.findIdx?_eq_some_iff_getElem]
 refine⟨h,G,λj hj=>?_⟩
 have:=H l[j] (by rw[List.mem_take_iff_getElem];exact⟨j,by omega,rfl⟩)
 simpa using this
theorem G6{α:Type}{p:α->Bool}{l:List α}(H:∀ e∈l,p e=false):l.findIdx? p=none:=by
 rw[List.findIdx?_eq_none_iff];exact H
theorem ze5(l:List Dec)(G:l.length<2^62)(f:Nat)(caps:List D)(p:Dec->Bool)(F:∀ x∈l,zi Tryz.prog f (.agg x.row::caps) (.bool (p x))):
  zi Tryz.prog 241 [zv l,.fn f caps] (int (wG p l)):=by
 refine zp mixed Tryz.func241 rfl c_241 ?_
 simp[Tryz.f241,zv]
 refine zr mixed (λk:Nat=>{n:=19,next:=0,slots:=[(0,.d (zv l)),(1,.d (.fn f caps)),(6,.d (zv l)),(7,.d (.int .i64 l.length)),(8,.d (.int .i64 k))],own:=[]})
  (λk=>k<=l.length/\∀ e∈l.take k,p e=false) (λk=>l.length-k) 0 (by simp) (by simp[zv]) ?_
 intro k ⟨E,K⟩
 by_cases H:k<l.length
 .have e1:l[k]?=some l[k]:=List.getElem?_eq_getElem H
  simp+decide[zv,Dec.row,int,H];refine zc.pure (lent:=false) (by simp[wP,Kr];rfl) (F l[k] (List.getElem_mem H)) (by simp) ?_
  simp+decide[I64];refine⟨λh=>?_,λh=>⟨by omega,k+1,⟨H,wi H K h⟩,by omega,by omega⟩⟩
  simp[wG,HA H K h]
 .have:k=l.length:=by omega
  subst this;simp+decide[zv,int];simp[wG,G6 (by simpa using K)]
theorem zgu{α:Type}(p:α->Bool)(l:List α):decide (0<=wG p l)=l.any p:=by
 unfold wG
 cases h:l.findIdx? p with
 |none=>
  rw[List.findIdx?_eq_none_iff] at h;have:l.any p=false:=by rw[List.any_eq_false];intro x H;rw[h x H];simp
  rw[this];rfl
 |some k=>
  rw[List.findIdx?_eq_some_iff_getElem] at h;obtain⟨G,F,_⟩:=h;rw[List.any_eq_true.2 ⟨_,List.getElem_mem G,F⟩];simp
theorem zbj(l:List Dec)(H:l.length<2^62)(f:Nat)(caps:List D)(p:Dec->Bool)(G:∀ x∈l,zi Tryz.prog f (.agg x.row::caps) (.bool (p x))):
  zi Tryz.prog 219 [zv l,.fn f caps] (.bool (l.any p)):=by
 refine zp mixed Tryz.func219 rfl c_219 ?_
 simp[Tryz.f219,zv]
 refine zc.pure (by rfl) (ze5 l H f caps p G) (by simp) ?_
 simp[int,<-zgu]
def qh(l:List Dec)(k:Nat):Option Int:=match l[k]? with
 |none=>none
 |some d=>if isId d.ref.rcd=true then (if isId d.ref.note=true then (if d.pick.length=0 then some 4 else if d.pick.length>4 then some 11
   else if (decide (0<k)&&match l[k-1]? with | some c=>!vf c d | none=>false)=true then some 10
   else if (l.take k).any (xd d)=true then some 8 else none) else some 2) else some 2
def wH(l:List Dec):Int:=((List.range l.length).findSome? (qh l)).getD 0
theorem G7{l:List Dec}{k:Nat}{e:Int}(h:k<l.length)(G:∀ j,j<k->qh l j=none)(F:qh l k=some e):wH l=e:=by
 unfold wH
 have:(List.range l.length).findSome? (qh l)=some e:=by
  rw[List.findSome?_eq_some_iff];refine⟨List.range k,k,(List.range' (k+1) (l.length-(k+1))),?_,F,λa E=>G a (List.mem_range.1 E)⟩
  obtain⟨m,K⟩:∃ m,l.length=k+(1+m):=⟨l.length-(k+1),by omega⟩
  have H:l.length-(k+1)=m:=by omega
  rw[H,K,List.range_eq_range',List.range_eq_range',<-List.range'_append,<-List.range'_append];simp
 rw[this];rfl
theorem HB{l:List Dec}(H:∀ j,j<l.length->qh l j=none):wH l=0:=by
 unfold wH
 have:(List.range l.length).findSome? (qh l)=none:=by
  rw[List.findSome?_eq_none_iff];intro a G;exact H a (List.mem_range.1 G)
 rw[this];rfl
theorem HC{p:Nat->Prop}{k:Nat}(h:∀ j,j<k->p j)(H:p k):∀ j,j<k+1->p j:=by
 intro j hj
 rcases Nat.lt_or_ge j k with G | G
 .exact h j G
 .have:j=k:=by omega
  subst this;exact H
def uC(l:List Dec):Prop:=∀ d∈l,d.fit
theorem KN(l:List Dec)(A:l.length<2^62)(B:uC l):zi Tryz.prog 63 [zv l] (int (wH l)):=by
 refine zp mixed Tryz.func63 rfl c_63 ?_
 simp[Tryz.f63,zv]
 refine zr mixed (λk:Nat=>{n:=74,next:=0,slots:=[(0,.d (zv l)),(6,.d (zv l)),(7,.d (.int .i64 l.length)),(8,.d (.int .i64 k))],own:=[]})
  (λk=>k<=l.length/\∀ j,j<k->qh l j=none) (λk=>l.length-k) 0 (by simp) (by simp[zv]) ?_
 intro k ⟨C,I⟩
 by_cases E:k<l.length
 .have e1:l[k]?=some l[k]:=List.getElem?_eq_getElem E
  have L:=λe=>G7 (e:=e) E I
  simp only[qh,e1] at L;have X:l[k].fit:=B _ (List.getElem_mem E)
  have Z:∀ e∈l,e.row.length=4:=λe _=>rfl
  simp+decide[zv,Dec.row,int,E];refine zc.pure (by rfl) (Hz l[k].ref.rcd) (by simp) ?_
  cases N:isId l[k].ref.rcd
  .simp+decide[L 2 (by simp[N])]
  simp+decide
  refine zc.pure (by rfl) (Hz l[k].ref.note) (by simp) ?_
  cases P:isId l[k].ref.note
  .simp+decide[L 2 (by simp[N,P])]
  simp+decide[zg];by_cases S:l[k].pick=[]
  .simp+decide[S,L 4 (by simp[N,P,S])]
  simp+decide[S];by_cases W:l[k].pick.length>4
  .have O:(4:Int)<(l[k].pick.length:Int):=by omega
   have Q:¬(l[k].pick.length:Int)<=4:=by omega
   simp+decide[O,Q,L 11 (by simp[N,P,S,W])]
  have O:¬(4:Int)<(l[k].pick.length:Int):=by omega
  have Q:(l[k].pick.length:Int)<=4:=by omega
  simp+decide[O,Q];by_cases T:0<k
  .have hj:k-1<l.length:=by omega
   have e0:l[k-1]?=some l[k-1]:=List.getElem?_eq_getElem hj
   have Y:l[k-1].fit:=B _ (List.getElem_mem hj)
   have M:¬k=0:=by omega
   simp+decide[e0,I64,Dec.row,T,M];refine⟨by omega,by omega,zq (by rfl) (by rfl) (ze4 l[k-1] l[k] Y X) (by simp) ?_⟩
   cases h5:vf l[k-1] l[k]
   .simp+decide[int,L 10 (by simp[N,P,S,W,e0,h5,T])]
   simp+decide[int];have G:(decide (0<k)&&match l[k-1]? with | some c=>!vf c l[k] | none=>false)=false:=by simp[e0,h5]
   refine zr mixed (λm:Nat=>{n:=74,next:=1,slots:=[(0,.d (zv l)),(3,.d (.int .i64 k)),(4,.bp 0 0),(5,.d (.int .i64 m)),(6,.d (zv l)),(7,.d (.int .i64 l.length)),(8,.d (.int .i64 k))],own:=[(0,.box 139 [.d (int l[k].ref.rcd),.d (int l[k].ref.note),.d (.bool l[k].yes),.d (zg l[k].pick)])]})
    (λm=>m<=k/\∀ e∈l.take m,xd l[k] e=false) (λm=>k-m) 0 (by simp) (by simp[zv,int,zg]) ?_
   intro m ⟨hm,hq⟩;by_cases H:m<k
   .have F:m<l.length:=by omega
    have e2:l[m]?=some l[m]:=List.getElem?_eq_getElem F
    have K:xd l[k] l[m]=true->qh l k=some 8:=by
     intro h;have:(l.take k).any (xd l[k])=true:=List.any_eq_true.2 ⟨l[m],by rw[List.mem_take_iff_getElem];exact⟨m,by omega,rfl⟩,h⟩
     simp[qh,e1,N,P,S,W,G,this]
    have J:xd l[k] l[m]=false->∀ e∈l.take (m+1),xd l[k] e=false:=λh=>wi F hq h
    cases y1:l[k].yes
    .simp+decide[H,int,I64,zv,zg]
     exact⟨by omega,m+1,⟨H,J (by simp[xd,y1])⟩,by omega,by omega⟩
    .cases y2:l[m].yes
     .simp+decide[H,F,Dec.row,int,I64,zv,zg,y2]
      exact⟨by omega,m+1,⟨H,J (by simp[xd,y2])⟩,by omega,by omega⟩
     .simp+decide[H,F,Dec.row,int,I64,zv,zg,y2]
      refine⟨λg1 g2=>(G7 E I (K (by simp[xd,y1,y2,wF,g1,g2]))).symm,λg=>⟨by omega,m+1,⟨H,J ?_⟩,by omega,by omega⟩⟩
      simp[xd,y1,y2,wF];exact λe3 e4=>g e3.symm e4.symm
   .have:m=k:=by omega
    subst this;have V:(l.take m).any (xd l[m])=false:=by rw[List.any_eq_false];intro x hx;rw[hq x hx];simp
    simp+decide[int,I64,zv,zg];refine⟨by omega,m+1,⟨E,HC I ?_⟩,by omega,by omega⟩
    simp[qh,e1,N,P,S,W,G,V]
  .have M:k=0:=by omega
   simp+decide[M];have G:(decide (0<k)&&match l[k-1]? with | some c=>!vf c l[k] | none=>false)=false:=by simp[T]
   refine zr mixed (λm:Nat=>{n:=74,next:=1,slots:=[(0,.d (zv l)),(3,.d (.int .i64 k)),(4,.bp 0 0),(5,.d (.int .i64 m)),(6,.d (zv l)),(7,.d (.int .i64 l.length)),(8,.d (.int .i64 k))],own:=[(0,.box 139 [.d (int l[k].ref.rcd),.d (int l[k].ref.note),.d (.bool l[k].yes),.d (zg l[k].pick)])]})
    (λm=>m<=k/\∀ e∈l.take m,xd l[k] e=false) (λm=>k-m) 0 (by simp) (by simp[zv,int,zg,M]) ?_
   intro m ⟨hm,hq⟩;by_cases H:m<k
   .have F:m<l.length:=by omega
    have e2:l[m]?=some l[m]:=List.getElem?_eq_getElem F
    have K:xd l[k] l[m]=true->qh l k=some 8:=by
     intro h;have:(l.take k).any (xd l[k])=true:=List.any_eq_true.2 ⟨l[m],by rw[List.mem_take_iff_getElem];exact⟨m,by omega,rfl⟩,h⟩
     simp[qh,e1,N,P,S,W,G,this]
    have J:xd l[k] l[m]=false->∀ e∈l.take (m+1),xd l[k] e=false:=λh=>wi F hq h
    cases y1:l[k].yes
    .simp+decide[H,int,I64,zv,zg]
     exact⟨by omega,m+1,⟨H,J (by simp[xd,y1])⟩,by omega,by omega⟩
    .cases y2:l[m].yes
     .simp+decide[H,F,Dec.row,int,I64,zv,zg,y2]
      exact⟨by omega,m+1,⟨H,J (by simp[xd,y2])⟩,by omega,by omega⟩
     .simp+decide[H,F,Dec.row,int,I64,zv,zg,y2]
      refine⟨λg1 g2=>(G7 E I (K (by simp[xd,y1,y2,wF,g1,g2]))).symm,λg=>⟨by omega,m+1,⟨H,J ?_⟩,by omega,by omega⟩⟩
      simp[xd,y1,y2,wF];exact λe3 e4=>g e3.symm e4.symm
   .have:m=k:=by omega
    subst this;have V:(l.take m).any (xd l[m])=false:=by rw[List.any_eq_false];intro x hx;rw[hq x hx];simp
    simp+decide[int,I64,zv,zg];refine⟨by omega,m+1,⟨E,HC I ?_⟩,by omega,by omega⟩
    simp[qh,e1,N,P,S,W,G,V]
 .have:k=l.length:=by omega
  subst this;simp+decide[zv,int];rw[HB (by simpa using I)]
@[simp] theorem zi1(d:Dec):d.row.length=4:=rfl
def xF(l:List Dec)(r:Rf):List Prt×Bool:=match l.find? (λd=>decide (d.ref=r)&&d.yes) with
 |some d=>(d.pick,true)
 |none=>([],false)
theorem HD{α:Type}{p:α->Bool}{l:List α}{k:Nat}(h:k<l.length)(H:∀ e∈l.take k,p e=false)(G:p l[k]=true):l.find? p=some l[k]:=by
 rw[List.find?_eq_some_iff_getElem]
 refine⟨G,k,h,rfl,λj hj=>?_⟩
 have:=H l[j] (by rw[List.mem_take_iff_getElem];exact⟨j,by omega,rfl⟩)
 simpa using this
theorem HE{α:Type}{p:α->Bool}{l:List α}(H:∀ e∈l,p e=false):l.find? p=none:=by
 rw[List.find?_eq_none];intro e G;simpa using H e G
theorem ze6(l:List Dec)(r:Rf)(F:l.length<2^62):zi Tryz.prog 182 [zv l,qb r] (.tup [zu (xF l r).1,.bool (xF l r).2]):=by
 refine zp mixed Tryz.func182 rfl c_182 ?_
 simp[Tryz.f182,zv,qb,Rf.row,int,Value.oneCell']
 refine zr mixed (λk:Nat=>{n:=26,next:=2,slots:=[(3,.bp 0 0),(4,.bp 1 0),(8,.d (zv l)),(9,.d (.int .i64 l.length)),(10,.d (.int .i64 k))],own:=[(0,.box 78 [.d (int r.rcd),.d (int r.note)]),(1,.box 39 [.nils])]})
  (λk=>k<=l.length/\∀ e∈l.take k,(decide (e.ref=r)&&e.yes)=false) (λk=>l.length-k) 0 (by simp) (by simp[zv,int]) ?_
 intro k ⟨E,K⟩
 by_cases H:k<l.length
 .have e1:l[k]?=some l[k]:=List.getElem?_eq_getElem H
  have G:(decide (l[k].ref=r)&&l[k].yes)=false->∀ e∈l.take (k+1),(decide (e.ref=r)&&e.yes)=false:=λh=>wi H K h
  by_cases g:l[k].ref=r
  .have g':=wF.1 g
   cases y:l[k].yes
   .simp+decide[zv,Dec.row,int,H,I64,g'.1,g'.2,y]
    exact⟨by omega,k+1,⟨H,by simpa using G (by simp[y])⟩,by omega,by omega⟩
   .have J:=HD H K (by simp[g,y])
    simp+decide[zv,Dec.row,int,H,g'.1,g'.2,y,xF,J,zu]
  .have g':l[k].ref.rcd=r.rcd->¬l[k].ref.note=r.note:=λa b=>g (wF.2 ⟨a,b⟩)
   by_cases g1:l[k].ref.rcd=r.rcd
   .have g2:=g' g1
    simp+decide[zv,Dec.row,int,H,I64,g1,g2];exact⟨by omega,k+1,⟨H,by simpa using G (by simp[g])⟩,by omega,by omega⟩
   .simp+decide[zv,Dec.row,int,H,I64,g1]
    exact⟨by omega,k+1,⟨H,by simpa using G (by simp[g])⟩,by omega,by omega⟩
 .have:k=l.length:=by omega
  subst this;rw[List.take_length] at K;have J:=HE K;simp+decide[zv,int,xF,J,zu,zg]
theorem zbk(l:List Dec)(r:Rf)(F:l.length<2^62):zi Tryz.prog 33 [zv l,qb r] (.tup [zu (xF l r).1,.bool (xF l r).2]):=by
 refine zp mixed Tryz.func33 rfl c_33 ?_
 simp[Tryz.f33,zv,qb,Rf.row,int,Value.oneCell']
 refine zr mixed (λk:Nat=>{n:=33,next:=2,slots:=[(0,.d (zv l)),(3,.bp 0 0),(4,.bp 1 0),(7,.d (zv l)),(8,.d (.int .i64 l.length)),(9,.d (.int .i64 k))],own:=[(0,.box 78 [.d (int r.rcd),.d (int r.note)]),(1,.box 39 [.nils])]})
  (λk=>k<=l.length/\∀ e∈l.take k,(decide (e.ref=r)&&e.yes)=false) (λk=>l.length-k) 0 (by simp) (by simp[zv,int]) ?_
 intro k ⟨E,K⟩
 by_cases H:k<l.length
 .have e1:l[k]?=some l[k]:=List.getElem?_eq_getElem H
  have G:(decide (l[k].ref=r)&&l[k].yes)=false->∀ e∈l.take (k+1),(decide (e.ref=r)&&e.yes)=false:=λh=>wi H K h
  by_cases g:l[k].ref=r
  .have g':=wF.1 g
   cases y:l[k].yes
   .simp+decide[zv,Dec.row,int,H,I64,g'.1,g'.2,y]
    exact⟨by omega,k+1,⟨H,by simpa using G (by simp[y])⟩,by omega,by omega⟩
   .have J:=HD H K (by simp[g,y])
    simp+decide[zv,Dec.row,int,H,g'.1,g'.2,y,xF,J,zu]
  .have g':l[k].ref.rcd=r.rcd->¬l[k].ref.note=r.note:=λa b=>g (wF.2 ⟨a,b⟩)
   by_cases g1:l[k].ref.rcd=r.rcd
   .have g2:=g' g1
    simp+decide[zv,Dec.row,int,H,I64,g1,g2];exact⟨by omega,k+1,⟨H,by simpa using G (by simp[g])⟩,by omega,by omega⟩
   .simp+decide[zv,Dec.row,int,H,I64,g1]
    exact⟨by omega,k+1,⟨H,by simpa using G (by simp[g])⟩,by omega,by omega⟩
 .have:k=l.length:=by omega
  subst this;rw[List.take_length] at K;have J:=HE K;simp+decide[zv,int,xF,J,zu,zg]
theorem YE{α:Type}{p:α->Bool}{l:List α}{k:Nat}(h:k<l.length):(l.take (k+1)).filter p=(l.take k).filter p++(if p l[k]=true then [l[k]] else []):=by
 rw[take_snoc h,List.filter_append]
 congr 1
 simp[List.filter_cons]
theorem G8{α:Type}(p:α->Bool)(l:List α)(k:Nat):((l.take k).filter p).length<=l.length:=by
 have H:=List.length_filter_le p (l.take k)
 have G:=List.length_take_le k l
 simp only[List.length_take] at H
 omega
theorem za1{α:Type}{l:List α}{i:Nat}(v:α)(h:i<l.length):(l.set i v).take (i+1)=l.take i++[v]:=by
 have H:i<(l.set i v).length:=by simpa using h
 rw[take_snoc H,List.getElem_set_self]
 congr 1
 apply List.ext_getElem?
 intro j
 simp only[List.getElem?_take,List.getElem?_set]
 by_cases hj:j<i
 .rw[if_pos hj,if_pos hj,if_neg (by omega)]
 .rw[if_neg hj,if_neg hj]
theorem zcm{α:Type}{l:List α}{i j:Nat}(v:α)(h:i<j):(l.set i v).drop j=l.drop j:=by
 apply List.ext_getElem?
 intro k
 simp only[List.getElem?_drop,List.getElem?_set]
 rw[if_neg (by omega)]
theorem HF{P:Program}(F:P.follows .mixedOrders=true){id:Nat}{ops:List Oper}{st:St}{Q:DE->St->Prop}(H:ops≠[])(K:yV ops=true)(E:jk ops (ops.length-1)=true)(L:(ops.getLast H).guard=none)
  (G:(st.own.map (·.1)).Nodup) (h:Y8 P ops st.next (ops.getLast H) ops.dropLast st (Q .normal)):Triple P (.region id ops.toArray true) Q st:=by
 obtain⟨pre,o,rfl⟩:∃ pre o,ops=pre++[o]:=⟨ops.dropLast,ops.getLast H,(List.dropLast_concat_getLast H).symm⟩
 have J:(pre++[o]).getLast H=o:=by simp
 rw[J] at L h
 rw[List.dropLast_concat] at h
 refine MJ F K ?_ L G h
 simpa using E
def HG(d x:Dec):Bool:=decide (cmpD x d=0) || xd d x
theorem zbl{a b c:Prt}(h:xB a b=true)(H:xB b c=true):xB a c=true:=by
 unfold xB at h H ⊢
 by_cases e1:a.entry=b.entry <;> by_cases e2:b.entry=c.entry <;> by_cases e3:a.alt=b.alt <;> by_cases e4:b.alt=c.alt <;>
  by_cases e5:a.entry=c.entry <;> by_cases e6:a.alt=c.alt <;> simp only[e1,e2,e3,e4,e5,e6,if_true,if_false,decide_eq_true_eq] at h H ⊢ <;> first | omega | (simp_all;omega) | simp_all
theorem zbm(a:Prt):xB a a=false:=by simp[xB]
theorem HH:∀ {a b c:List Prt},zN a b=true->zN b c=true->zN a c=true
 |_,[],_,h,_=>by simp[zN] at h
 |_,_::_,[],_,h=>by simp[zN] at h
 | [],_::_,_::_,_,_=>by simp[zN]
 |x::a,y::b,z::c,h,H=>by
  simp only[zN] at h H ⊢;by_cases e1:x=y
  .subst e1
   rw[if_pos rfl] at h;by_cases e2:x=z
   .subst e2
    rw[if_pos rfl] at H ⊢;exact HH h H
   .rw[if_neg e2] at H ⊢;exact H
  .rw[if_neg e1] at h
   by_cases e2:y=z
   .subst e2;rw[if_neg e1];exact h
   .rw[if_neg e2] at H
    have G:=zbl h H;have e3:¬x=z:=by intro e;subst e;rw[zbm] at G;cases G
    rw[if_neg e3];exact G
theorem zcn{a b c:Dec}(h:vf a b=true)(H:vf b c=true):vf a c=true:=by
 unfold vf at h H ⊢
 by_cases e1:a.ref.rcd=b.ref.rcd
 .by_cases e2:b.ref.rcd=c.ref.rcd
  .rw[if_pos e1] at h;rw[if_pos e2] at H;rw[if_pos (e1.trans e2)]
   by_cases e3:a.ref.note=b.ref.note
   .by_cases e4:b.ref.note=c.ref.note
    .rw[if_pos e3] at h;rw[if_pos e4] at H;rw[if_pos (e3.trans e4)]
     exact HH h H
    .rw[if_neg e4] at H;rw[if_neg (λe=>e4 (e3.symm.trans e))]
     simp only[decide_eq_true_eq] at H ⊢;omega
   .rw[if_neg e3] at h
    simp only[decide_eq_true_eq] at h;by_cases e4:b.ref.note=c.ref.note
    .rw[if_neg (λe=>e3 (e.trans e4.symm))];simp only[decide_eq_true_eq];omega
    .rw[if_neg e4] at H
     simp only[decide_eq_true_eq] at H;rw[if_neg (by omega)];simp only[decide_eq_true_eq];omega
  .rw[if_neg e2] at H;rw[if_neg (λe=>e2 (e1.symm.trans e))]
   simp only[decide_eq_true_eq] at H ⊢;omega
 .rw[if_neg e1] at h
  simp only[decide_eq_true_eq] at h;by_cases e2:b.ref.rcd=c.ref.rcd
  .rw[if_neg (λe=>e1 (e.trans e2.symm))];simp only[decide_eq_true_eq];omega
  .rw[if_neg e2] at H
   simp only[decide_eq_true_eq] at H;rw[if_neg (by omega)];simp only[decide_eq_true_eq];omega
theorem zbn(a:Dec):vf a a=false:=by simp[vf,K0]
theorem zdp{l:List Dec}{k:Nat}{e:Int}(h:qh l k=some e):e≠0:=by
 unfold qh at h
 split at h
 .cases h
 .repeat' split at h
  all_goals first | (cases h;decide) | cases h
theorem HI{l:List Dec}(h:wH l=0):∀ k,k<l.length->qh l k=none:=by
 unfold wH at h
 cases H:(List.range l.length).findSome? (qh l) with
 |none=>
  rw[List.findSome?_eq_none_iff] at H;intro k G;exact H k (List.mem_range.2 G)
 |some e=>
  rw[H] at h;obtain⟨k,_,G⟩:=List.exists_of_findSome?_eq_some H;exact absurd h (zdp G)
structure AtOk(l:List Dec)(k:Nat)(h:k<l.length):Prop where
 rcd:isId l[k].ref.rcd=true
 note:isId l[k].ref.note=true
 ne:l[k].pick.length≠0
 le:l[k].pick.length<=4
 less:∀ j (hj:j+1=k),vf (l[j]'(by omega)) l[k]=true
 riv:(l.take k).any (xd l[k])=false
theorem G9{l:List Dec}{k:Nat}(h:k<l.length):qh l k=none↔AtOk l k h:=by
 have e1:l[k]?=some l[k]:=List.getElem?_eq_getElem h
 constructor
 .intro hc
  unfold qh at hc;rw[e1] at hc;simp only at hc
  by_cases g1:isId l[k].ref.rcd=true
  .rw[if_pos g1] at hc
   by_cases g2:isId l[k].ref.note=true
   .rw[if_pos g2] at hc
    by_cases g3:l[k].pick.length=0
    .rw[if_pos g3] at hc;cases hc
    .rw[if_neg g3] at hc
     by_cases g4:l[k].pick.length>4
     .rw[if_pos g4] at hc;cases hc
     .rw[if_neg g4] at hc
      cases k with
      |zero=>exact⟨g1,g2,g3,by omega,λj hj=>by omega,by simp⟩
      |succ j=>
       have H:j<l.length:=by omega
       have e0:l[j]?=some l[j]:=List.getElem?_eq_getElem H
       simp only[Nat.add_sub_cancel,e0,Nat.zero_lt_succ,decide_true,Bool.true_and] at hc;by_cases g5:(!vf l[j] l[j+1])=true
       .rw[if_pos g5] at hc;cases hc
       .rw[if_neg g5] at hc
        by_cases g6:(l.take (j+1)).any (xd l[j+1])=true
        .rw[if_pos g6] at hc;cases hc
        .refine⟨g1,g2,g3,by omega,λj' hj=>?_,by simpa using g6⟩
         have:j'=j:=by omega
         subst this;simpa using g5
   .rw[if_neg g2] at hc;cases hc
  .rw[if_neg g1] at hc;cases hc
 .intro⟨F,E,K,J,L,M⟩
  have G:¬l[k].pick.length>4:=by omega
  cases k with
  |zero=>simp only[qh,e1,F,E,K,G,M,if_true,if_false];simp
  |succ j=>
   have H:j<l.length:=by omega
   have e0:l[j]?=some l[j]:=List.getElem?_eq_getElem H
   simp only[qh,e1,F,E,K,G,M,if_true,if_false,Nat.add_sub_cancel,e0,L j rfl];simp
def Qq(l:List Dec):Prop:=l.Pairwise (λa b=>vf a b=true)
theorem ze7{l:List Dec}(h:∀ k (G:k+1<l.length),vf l[k] l[k+1]=true):Qq l:=by
 unfold Qq
 rw[List.pairwise_iff_getElem]
 intro i j hi hj H
 induction j with
 |zero=>omega
 |succ j ih=>
  by_cases e:i=j
  .subst e;exact h i hj
  .exact zcn (ih (by omega) (by omega)) (h j hj)
theorem za2{l:List Dec}(h:wH l=0):Qq l:=ze7 λk H=>((G9 H).1 (HI h (k+1) H)).less k rfl
def zj1(d:Dec)(l:List Dec):List Dec:=l.filter λx=>!HG d x&&vf x d
def zj2(d:Dec)(l:List Dec):List Dec:=l.filter λx=>!HG d x && !vf x d
def Bj(l:List Dec)(d:Dec):List Dec:=if wH [d]=0 then zj1 d l++d::zj2 d l else l
theorem zco(x y:Dec):xd x y=xd y x:=by
 unfold xd
 have:decide (x.ref=y.ref)=decide (y.ref=x.ref):=by rw[Bool.eq_iff_iff];simp[eq_comm]
 rw[this];cases x.yes <;> cases y.yes <;> simp
structure GoodD(x:Dec):Prop where
 rcd:isId x.ref.rcd=true
 note:isId x.ref.note=true
 ne:x.pick.length≠0
 le:x.pick.length<=4
theorem zdq(l:List Dec):wH l=0↔(∀ x∈l,GoodD x)/\Qq l/\∀ x∈l,∀ y∈l,x≠y->xd x y=false:=by
 constructor
 .intro h
  have at':=λk (E:k<l.length)=>(G9 E).1 (HI h k E)
  refine⟨λx K=>?_,za2 h,λx K y J H=>?_⟩
  .obtain⟨k,E,rfl⟩:=List.mem_iff_getElem.1 K
   have:=at' k E
   exact⟨this.rcd,this.note,this.ne,this.le⟩
  .obtain⟨i,hi,rfl⟩:=List.mem_iff_getElem.1 K
   obtain⟨j,hj,rfl⟩:=List.mem_iff_getElem.1 J;have key:∀ i j (hi:i<l.length) (hj:j<l.length),i<j->xd l[j] l[i]=false:=by
    intro i j hi hj F;have:=(at' j hj).riv
    rw[List.any_eq_false] at this;have:=this l[i] (by rw[List.mem_take_iff_getElem];exact⟨i,by omega,rfl⟩)
    simpa using this
   rcases Nat.lt_trichotomy i j with L | L | L
   .rw[zco];exact key i j hi hj L
   .subst L;exact absurd rfl H
   .exact key j i hj hi L
 .rintro⟨L,M,O⟩
  refine HB λk E=>(G9 E).2 ?_
  have Q:=L _ (List.getElem_mem E);unfold Qq at M;rw[List.pairwise_iff_getElem] at M;refine⟨Q.rcd,Q.note,Q.ne,Q.le,λj hj=>M j k (by omega) E (by omega),?_⟩
  rw[List.any_eq_false];intro y J;rw[List.mem_take_iff_getElem] at J;obtain⟨i,hi,rfl⟩:=J;have G:i<l.length:=by omega
  have H:l[k]≠l[i]:=by
   intro e;have:=M i k G E (by omega)
   rw[e,zbn] at this;cases this
  rw[O _ (List.getElem_mem E) _ (List.getElem_mem G) H];simp
def vX(r:Rf)(q:List Prt)(d:Dec):Bool:=decide (d.ref=r)&&(!d.yes&&decide (d.pick=q))
def jS(l:List Dec)(r:Rf)(q:List Prt):Bool:=l.any (vX r q)
theorem zbo(d:Dec)(r:Rf)(q:List Prt)(H:q.length<2^62):zi Tryz.prog 220 [.agg d.row,.ptr [int r.rcd,int r.note],.ptr [zg q]] (.bool (vX r q d)):=by
 refine zp mixed Tryz.func220 rfl c_220 ?_
 have G:=ND d.pick q H
 unfold vX
 by_cases c1:d.ref.rcd=r.rcd
 .by_cases c2:d.ref.note=r.note
  .have c3:d.ref=r:=wF.2 ⟨c1,c2⟩
   cases F:d.yes
   .simp+decide[Tryz.f220,Dec.row,int,c1,c2,c3,F]
    refine zc.pure (by rfl) G (by simp[zu]) ?_
    simp+decide
   .simp+decide[Tryz.f220,Dec.row,int,c1,c2,c3,F]
  .have c3:¬d.ref=r:=λe=>c2 (by rw[e])
   simp+decide[Tryz.f220,Dec.row,int,c1,c2,c3]
 .have c3:¬d.ref=r:=λe=>c1 (by rw[e])
  simp+decide[Tryz.f220,Dec.row,int,c1,c3]
theorem zcp(l:List Dec)(H:l.length<2^62)(r:Rf)(q:List Prt)(G:q.length<2^62):zi Tryz.prog 218 [zu q,.ptr [zv l],.ptr [int r.rcd,int r.note]] (.bool (jS l r q)):=by
 refine zp mixed Tryz.func218 rfl c_218 ?_
 have F:=zbj l H 220 [.ptr [int r.rcd,int r.note],.ptr [zg q]] (vX r q) (λx _=>zbo x r q G)
 simp+decide[Tryz.f218,zu,int]
 refine zc.pure (by rfl) F (by simp[D.scalar]) ?_
 simp+decide[jS]
theorem ze8(l:List (List Prt))(F:l.length<2^62)(f:Nat)(caps:List D)(p:List Prt->Bool)(E:∀ x∈l,zi Tryz.prog f (zu x::caps) (.bool (p x))):
  zi Tryz.prog 240 [zG l,.fn f caps] (int (wG p l)):=by
 refine zp mixed Tryz.func240 rfl c_240 ?_
 simp[Tryz.f240,zG]
 refine zr mixed (λk:Nat=>{n:=19,next:=0,slots:=[(0,.d (zG l)),(1,.d (.fn f caps)),(7,.d (.int .i64 l.length)),(8,.d (.int .i64 k))],own:=[]})
  (λk=>k<=l.length/\∀ e∈l.take k,p e=false) (λk=>l.length-k) 0 (by simp) (by simp[zG]) ?_
 intro k ⟨K,J⟩
 by_cases H:k<l.length
 .have e1:l[k]?=some l[k]:=List.getElem?_eq_getElem H
  have G:=E l[k] (List.getElem_mem H);simp+decide[zG,int,e1,H,I64];refine zc.pure (lent:=false) (by simp[wP,Kr,zu]) G (by simp) ?_
  cases h:p l[k]
  .simp+decide[zG,int,I64]
   refine⟨by omega,k+1,⟨H,λe L=>?_⟩,by omega,by omega⟩
   rw[take_snoc H] at L;rcases List.mem_append.1 L with M | M
   .exact J e M
   .rw[List.mem_singleton] at M;rw[M,h]
  .simp+decide[wG,HA H J h]
 .have:k=l.length:=by omega
  subst this;rw[List.take_length] at J;simp+decide[zG,int,wG,G6 J]
def rowA(q:List Prt):List D:=[zg q]
theorem ze9(l:List (List Prt))(H:l.length<2^40):wO Tryz.prog 217 [zG l] 39 1 (l.map rowA):=by
 refine Xn mixed Tryz.func217 rfl c_217 (by simp[rowA]) ?_
 simp[Tryz.f217,zG,maxLen,rowA]
 omega
theorem zdr(l:List (List Prt))(hl:l.length<2^62)(f:Nat)(p:List Prt->Bool)(L:List Dec)(r:Rf)(hf:∀ x∈l,zi Tryz.prog f [zu x,.ptr [zv L],.ptr [int r.rcd,int r.note]] (.bool (p x))):
  zJ Tryz.prog 216 [.ar 0,.fn f [.bp 1 0,.bp 2 0]] [(0,.arr 39 1 (l.map rowA)),(1,.box 64 [.d (zv L)]),(2,.box 78 [.d (int r.rcd),.d (int r.note)])] 3
   (.d (.sl ((l.filter λq=>!p q).map rowA))) 3 [(1,.box 64 [.d (zv L)]),(2,.box 78 [.d (int r.rcd),.d (int r.note)])] []:=by
 refine zab mixed Tryz.func216 rfl c_216 [0] (by simp) ?_
 simp[Tryz.f216]
 refine zc.pure (by rfl) (ze8 l hl f [.ptr [zv L],.ptr [int r.rcd,int r.note]] p hf) (λ_=>rfl) ?_
 cases hi:l.findIdx? p with
 |none=>
  rw[List.findIdx?_eq_none_iff] at hi;have Z:(l.filter λd=>!p d)=l:=by rw[List.filter_eq_self];intro a ha;rw[hi a ha];rfl
  have E:wG p l = -1:=by simp[wG,G6 hi]
  simp+decide[E,int,Z];done
 |some k=>
  have E:wG p l=k:=by simp[wG,hi]
  rw[List.findIdx?_eq_some_iff_getElem] at hi;obtain⟨hk,A,Q⟩:=hi;have B:¬(k:Int) = -1:=by omega
  simp+decide[E,int,B,I64];refine⟨by omega,?_⟩
  have C:(l.take (k+1)).filter (λd=>!p d)=l.take k:=by
   rw[YE hk,List.filter_eq_self.2]
   .simp[A]
   .intro a ha
    rw[List.mem_take_iff_getElem] at ha;obtain⟨j,hj,rfl⟩:=ha;have:=Q j (by omega)
    simpa using this
  refine zr mixed (λx:Nat×Nat×List (List Prt)=>{n:=42,next:=3,base:=3,slots:=[(0,.ar 0),(1,.fn f [.bp 1 0,.bp 2 0]),(5,.d (.int .i64 x.2.1)),(6,.d (.int .i64 x.1))],own:=[(0,.arr 39 1 (x.2.2.map rowA)),(1,.box 64 [.d (zv L)]),(2,.box 78 [.d (int r.rcd),.d (int r.note)])]})
   (λx=>x.2.2.length=l.length/\x.2.1<x.1/\x.1<=l.length/\x.2.2.take x.2.1=(l.take x.1).filter (λd=>!p d)/\x.2.2.drop x.1=l.drop x.1) (λx=>l.length-x.1) (k+1,k,l) (by simp[C];omega) (by simp[int]) ?_
  rintro⟨j,i,cur⟩ ⟨T,I,N,H,hdrop⟩
  simp only at T I N H hdrop
  by_cases K:j<l.length
  .have V:j<cur.length:=by omega
   have J:cur[j]=l[j]:=by
    have h1:cur.drop j=cur[j]::cur.drop (j+1):=List.drop_eq_getElem_cons V
    have h2:l.drop j=l[j]::l.drop (j+1):=List.drop_eq_getElem_cons K
    rw[h1,h2] at hdrop;exact(List.cons.inj hdrop).1
   have G:cur.drop (j+1)=l.drop (j+1):=by
    have:=congrArg (List.drop 1) hdrop
    rw[List.drop_drop,List.drop_drop] at this;exact this
   have e1:cur[j]?=some cur[j]:=List.getElem?_eq_getElem V
   have F:(j:Int)<cur.length:=by omega
   have P:zi Tryz.prog f [zu cur[j],.ptr [zv L],.ptr [int r.rcd,int r.note]] (.bool (p l[j])):=by rw[J];exact hf l[j] (List.getElem_mem K)
   simp+decide[F,V,e1,rowA,int,I64];refine zc.pure (by rfl) P (λ_=>rfl) ?_
   cases hp:p l[j]
   .have X:i<cur.length:=by omega
    have e2:cur[i]?=some cur[i]:=List.getElem?_eq_getElem X
    simp+decide[X,e2,rowA,int,I64];refine⟨by omega,by omega,j+1,i+1,cur.set i cur[j],⟨by simpa using T,by omega,K,?_,?_⟩,by omega,⟨by omega,by omega⟩,by simp[List.map_set,rowA,int]⟩
    .rw[za1 _ X,YE K,H,J];simp[hp]
    .rw[zcm _ (by omega)];exact G
   .simp+decide[int,I64]
    refine⟨by omega,j+1,i,cur,⟨T,by omega,K,?_,G⟩,by omega,⟨by omega,by omega⟩,rfl⟩
    rw[YE K,H];simp[hp]
  .have hj:j=l.length:=by omega
   subst hj;have F:¬(l.length:Int)<cur.length:=by omega
   have S:¬(i:Int)=(cur.length:Int):=by omega
   have M:(cur.map rowA).take i=(l.filter λd=>!p d).map rowA:=by
    rw[<-List.map_take,H,List.take_length]
   have Y:((l.filter λd=>!p d).map rowA).length=i:=by rw[<-M];simp;omega
   by_cases W:i=0
   .subst W
    have H0:¬(0:Int)=(cur.length:Int):=by omega
    simp+decide[F,int,I64,H0];have O:l.filter (λd=>!p d)=[]:=List.eq_nil_of_length_eq_zero (by simpa using Y)
    rw[List.filter_eq_nil_iff] at O;intro a ha;simpa using O a ha
   .have H1:¬(0:Int)=(i:Int):=by omega
    simp+decide[F,int,I64,S,H1];refine⟨by omega,by omega,by omega,?_⟩
    rw[M];rw[if_pos]
    .congr 2
     rw[List.take_append_of_le_length (by omega),List.take_of_length_le (by omega)]
    .refine⟨by omega,?_⟩
     cases hF:(l.filter λd=>!p d) with
     |nil=>rw[hF] at Y;simp at Y;omega
     |cons c0 cs=>rfl
def vg(g:Lang)(r:Rf)(s:ByteArray)(l:List Dec):List (List Prt)×Int:=if (vz g s).2≠0 then ([],(vz g s).2) else ((vz g s).1.filter λq=>!jS l r q,0)
theorem zgv{g:Lang}(H:LightF g)(r:Rf)(s:ByteArray)(l:List Dec):(vg g r s l).1.length<=200/\∀ q∈(vg g r s l).1,q.length<=4:=by
 have h:=G4 H s
 unfold vg
 split
 .exact⟨Nat.zero_le _,λq G=>by cases G⟩
 .exact⟨Nat.le_trans (List.length_filter_le ..) h.1,λq G=>h.2 q (List.mem_filter.1 G).1⟩
theorem zds(g:Lang)(G:LightF g)(F:LangC g)(r:Rf)(s:ByteArray)(hs:s.size<=1024)(l:List Dec)(E:l.length<2^40):
  zi Tryz.prog 183 [g.d,qb r,.str s,zv l] (.tup [zG (vg g r s l).1,int (vg g r s l).2]):=by
 have K:=zh0 g G F s hs
 have H:=G4 G s
 unfold vg
 generalize vz g s=z at *
 obtain⟨O,e⟩:=z
 simp only at K H ⊢
 refine zp mixed Tryz.func183 rfl c_183 ?_
 simp+decide[Tryz.f183,Lang.d,zj,int,qb,Rf.row]
 refine zc.pure (by rfl) K (by simp[D.scalar]) ?_
 by_cases J:e=0
 case neg=>simp+decide[int,zG,J]
 subst J
 simp+decide[int]
 refine zc.fresh (by rfl) (ze9 O (by omega)) (by simp) ?_
 simp+decide[int]
 refine zc.mut [4,2,1] [.ar 0,.fn 218 [.bp 1 0,.bp 2 0]] [(0,.arr 39 1 (O.map rowA)),(1,.box 64 [.d (zv l)]),(2,.box 78 [.d (int r.rcd),.d (int r.note)])] (by rfl) (by simp) (by simp) (by simp[int];rfl)
  (zdr O (by omega) _ (jS l r) l r (λx L=>zcp l (by omega) r x (by have:=H.2 x L;omega))) ?_
 simp+decide[int,zG,rowA]
structure Stt where
 ref:Rf
 kind:Int
 pick:List Prt
 deriving DecidableEq
def Stt.d(x:Stt):D:=.agg [int x.ref.rcd,int x.ref.note,int x.kind,zg x.pick]
def Z2(g:Lang)(r:Rf)(s:ByteArray)(l:List Dec):Stt:=
 if (xF l r).2=true then
  (if (yL g.orth.units s).2.2=0/\vq g (yL g.orth.units s).1 (xF l r).1=true then ⟨r,4,(xF l r).1⟩ else ⟨r,5,(xF l r).1⟩)
 else if (vg g r s l).2=11\/1<(vg g r s l).1.length then ⟨r,3,[]⟩
 else if (vg g r s l).2≠0 then ⟨r,0,[]⟩
 else match (vg g r s l).1 with
  | []=>⟨r,1,[]⟩
  |q::_=>⟨r,2,q⟩
theorem zfa(g:Lang)(K:LightF g)(J:LangC g)(r:Rf)(s:ByteArray)(hs:s.size<=1024)(l:List Dec)(L:l.length<2^40)(M:(xF l r).1.length<2^20):
  zi Tryz.prog 124 [g.d,qb r,.str s,zv l] (Z2 g r s l).d:=by
 have Q:=zds g K J r s hs l L
 have T:=ze6 l r (by omega)
 have V:=G3 g.orth J.orth K.graphs s hs
 have X:=Qm g.orth.units s
 have F:=Di g (K.wA J).toLangOk (yL g.orth.units s).1 (by omega) (xF l r).1 M
 unfold Z2
 have E:decide ((xr g (xF l r).1).2=0/\(xr g (xF l r).1).1=(yL g.orth.units s).1)=vq g (yL g.orth.units s).1 (xF l r).1:=rfl
 rw[E] at F
 generalize vq g (yL g.orth.units s).1 (xF l r).1=lic at *
 generalize xF l r=pk at *
 obtain⟨P,ok⟩:=pk
 generalize yL g.orth.units s=z at *
 obtain⟨W,ap,e⟩:=z
 generalize vg g r s l=c at *
 obtain⟨O,f⟩:=c
 simp only at *
 refine zp mixed Tryz.func124 rfl c_124 ?_
 simp+decide[Tryz.f124,Lang.d,zj,int,qb,Rf.row]
 refine zc.pure (by rfl) T (by simp[D.scalar,qb,Rf.row]) ?_
 cases ok with
 |true=>
  simp+decide[int,zu];refine zc.pure (by rfl) V (by simp[D.scalar]) ?_
  by_cases Y:e=0
  case neg=>simp+decide[int,ints,zu,Y,Stt.d]
  subst Y;simp+decide[int,ints,zu];refine zc.pure (by rfl) F (by simp[D.scalar,zu]) ?_
  cases lic <;> simp+decide[int,ints,zu,Stt.d]
 |false=>
  simp+decide[int,zu];refine zc.pure (by rfl) Q (by simp[D.scalar,qb,Rf.row]) ?_
  by_cases G:f=11
  .simp+decide[int,zG,zg,G,Stt.d]
  by_cases Z:1<O.length
  .have H:(1:Int)<O.length:=by omega
   simp+decide[int,zG,zg,G,Z,H,Stt.d]
  have H:¬(1:Int)<O.length:=by omega
  by_cases A:f=0
  case neg=>simp+decide[int,zG,zg,G,Z,H,A,Stt.d]
  subst A;match O,Z,H with
  | [],_,_=>simp+decide[int,zG,zg,Stt.d]
  | [q],_,_=>
   simp+decide[int,zG,zg,Stt.d];refine HF mixed (by simp) (by rfl) (by rfl) (by rfl) (by simp) ?_
   simp+decide[int,zG,zg,Stt.d]
  |_::_::_,h,_=>simp at h
theorem za3(l:List Dec)(K:l.length<2^62)(J:uC l)(r:Rf)(q:List Prt)(L:q.length<2^62):zi Tryz.prog 223 [zv l,qb r,zu q] (.bool (jS l r q)):=by
 refine zp mixed Tryz.func223 rfl c_223 ?_
 simp[Tryz.f223,zv,qb,Rf.row,int,zu]
 refine zr mixed (λk:Nat=>{n:=38,next:=2,slots:=[(0,.d (zv l)),(4,.bp 0 0),(5,.bp 1 0),(9,.d (.int .i64 l.length)),(10,.d (.int .i64 k))],own:=[(0,.box 78 [.d (int r.rcd),.d (int r.note)]),(1,.box 39 [.d (zg q)])]})
  (λk=>k<=l.length/\∀ d∈l.take k,vX r q d=false) (λk=>l.length-k) 0 (by simp) (by simp[zv,int,zg]) ?_
 intro k ⟨M,O⟩
 by_cases G:k<l.length
 .obtain⟨d,ed⟩:∃ d,l[k]=d:=⟨_,rfl⟩
  have e1:l[k]?=some d:=by rw[List.getElem?_eq_getElem G,ed]
  have E:=J l[k] (List.getElem_mem G);rw[ed] at E;have Q:=NK d.pick q E L;have hsn:=take_snoc G;rw[ed] at hsn;have F:vX r q d=false->∀ x∈l.take (k+1),vX r q x=false:=by
   intro h x T;rw[hsn] at T;rcases List.mem_append.1 T with V | V
   .exact O x V
   .rw[List.mem_singleton] at V;rw[V,h]
  by_cases c1:d.ref.rcd=r.rcd
  .by_cases c2:d.ref.note=r.note
   .have c3:d.ref=r:=wF.2 ⟨c1,c2⟩
    cases X:d.yes
    .simp+decide[zv,Dec.row,int,I64,G,ed,e1,c1,c2,X]
     refine zq (by rfl) (by rfl) Q (by simp[zu]) ?_
     by_cases c4:d.pick=q
     .have H:jS l r q=true:=List.any_eq_true.2 ⟨d,by rw[<-ed];exact List.getElem_mem G,by simp[vX,c3,X,c4]⟩
      simp+decide[c4,H]
     .have H:vX r q d=false:=by simp[vX,c3,X,c4]
      simp+decide[c4,zv,int,I64];exact⟨by omega,k+1,⟨G,F H⟩,by omega,by omega⟩
    .have H:vX r q d=false:=by simp[vX,c3,X]
     simp+decide[zv,Dec.row,int,I64,G,ed,e1,c1,c2,X];exact⟨by omega,k+1,⟨G,F H⟩,by omega,by omega⟩
   .have H:vX r q d=false:=by simp[vX,wF,c2]
    simp+decide[zv,Dec.row,int,I64,G,ed,e1,c1,c2];exact⟨by omega,k+1,⟨G,F H⟩,by omega,by omega⟩
  .have H:vX r q d=false:=by simp[vX,wF,c1]
   simp+decide[zv,Dec.row,int,I64,G,ed,e1,c1];exact⟨by omega,k+1,⟨G,F H⟩,by omega,by omega⟩
 .have:k=l.length:=by omega
  subst this;rw[List.take_length] at O;have H:jS l r q=false:=by
   unfold jS;rw[List.any_eq_false];intro x T;rw[O x T];simp
  simp+decide[zv,int,H]
theorem zah(g:Lang)(L:LightF g)(M:LangC g)(r:Rf)(s:ByteArray)(hs:s.size<=1024)(l:List Dec)(Q:l.length<2^40)(T:uC l):
  zi Tryz.prog 185 [g.d,qb r,.str s,zv l] (zG (vg g r s l).1):=by
 have V:=VS g L M s hs
 have E:=G4 L s
 unfold vg
 generalize vz g s=z at *
 obtain⟨O,e⟩:=z
 simp only at V E ⊢
 refine zp mixed Tryz.func185 rfl c_185 ?_
 simp+decide[Tryz.f185,Lang.d,zj,int,qb,Rf.row]
 refine zc.pure (by rfl) V (by simp[D.scalar]) ?_
 by_cases X:e=0
 case neg=>simp+decide[int,zG,X]
 subst X
 simp+decide[int,zG]
 refine yg mixed (λk:Nat=>{n:=43,next:=4,slots:=[(3,.d (zv l)),(5,.bp 1 0),(9,.d (zG O)),(11,.ar 3),(21,.d (zG O)),(22,.d (int O.length)),(23,.d (int k))],own:=[(1,.box 78 [.d (int r.rcd),.d (int r.note)]),(3,.arr 39 1 (((O.take k).filter λq=>!jS l r q).map rowA))],moved:=[3]})
  (λk=>k<=O.length) (λk=>O.length-k) 0 (Nat.zero_le _) ?_ ?_
 .simp+decide[int,zG,zv]
 intro k Y
 refine zM mixed ?_
 by_cases H:k<O.length
 case neg=>
  have:k=O.length:=by omega
  subst this;rw[List.take_length];simp+decide[int,zG,zv,rowA]
 have G:(k:Int)<O.length:=by omega
 obtain⟨q,eq⟩:∃ q,O[k]=q:=⟨_,rfl⟩
 have e1:O[k]?=some q:=by rw[List.getElem?_eq_getElem H,eq]
 have K:=E.2 O[k] (List.getElem_mem H)
 rw[eq] at K
 have Z:=za3 l (by omega) T r q (by omega)
 have F:=YE (p:=λq=>!jS l r q) H
 rw[eq] at F
 have J:=G8 (λq=>!jS l r q) O k
 cases A:jS l r q with
 |true=>
  rw[A] at Z F;simp only[Bool.not_true,Bool.false_eq_true,if_false,List.append_nil] at F;simp+decide[int,zG,zv,H,G,eq,e1,I64];refine zq (by rfl) (by rfl) Z (by simp[qb,Rf.row,zu]) ?_
  simp+decide[int,zG,zv,H,G,eq,e1,I64];exact⟨by omega,k+1,H,by omega,by omega,by rw[F]⟩
 |false=>
  rw[A] at Z F;simp only[Bool.not_false,if_true] at F;generalize (O.take k).filter (λq=>!jS l r q)=W at F J
  simp+decide[int,zG,zv,H,G,eq,e1,I64];refine zq (by rfl) (by rfl) Z (by simp[qb,Rf.row,zu]) ?_
  simp+decide[int,zG,zv,H,G,eq,e1,I64];exact⟨by omega,by unfold maxLen;omega,by omega,k+1,H,by omega,by omega,by rw[F];simp[rowA]⟩
theorem zbp(g:Lang)(K:LightF g)(J:LangC g)(r:Rf)(s:ByteArray)(hs:s.size<=1024)(l:List Dec)(L:l.length<2^40)(M:uC l)(Q:(xF l r).1.length<2^20):
  zi Tryz.prog 127 [g.d,qb r,.str s,zv l] (Z2 g r s l).d:=by
 have T:=zah g K J r s hs l L M
 have V:=VS g K J s hs
 have X:=zbk l r (by omega)
 have Y:=Hh g.orth J.orth K.graphs s hs
 have Z:=Qm g.orth.units s
 have G:=Dx g (K.wA J) (yL g.orth.units s).1 (by omega) (xF l r).1 Q
 have F:(vg g r s l).2=(vz g s).2:=by
  unfold vg;split
  .rfl
  .rename_i h;exact(Classical.not_not.1 h).symm
 have E:(vz g s).2≠0->(vg g r s l).1=[]:=λh=>by unfold vg;rw[if_pos h]
 unfold Z2
 rw[F]
 generalize vq g (yL g.orth.units s).1 (xF l r).1=lic at *
 generalize xF l r=pk at *
 obtain⟨P,ok⟩:=pk
 generalize yL g.orth.units s=z at *
 obtain⟨W,ap,e⟩:=z
 generalize vg g r s l=c at *
 obtain⟨C,f'⟩:=c
 generalize vz g s=y at *
 obtain⟨O,f⟩:=y
 simp only at *
 refine zp mixed Tryz.func127 rfl c_127 ?_
 simp+decide[Tryz.f127,Lang.d,zj,int,qb,Rf.row]
 refine zc.pure (by rfl) X (by simp[D.scalar,qb,Rf.row]) ?_
 cases ok with
 |true=>
  simp+decide[int,zu];refine zc.pure (by rfl) Y (by simp[D.scalar]) ?_
  by_cases A:e=0
  case neg=>simp+decide[int,ints,zu,A,Stt.d]
  subst A;simp+decide[int,ints,zu];refine zc.pure (by rfl) G (by simp[D.scalar,zu]) ?_
  cases lic <;> simp+decide[int,ints,zu,Stt.d]
 |false=>
  simp+decide[int,zu];refine zc.pure (by rfl) V (by simp[D.scalar]) ?_
  by_cases H:f=11
  .simp+decide[int,zG,zg,H,Stt.d]
  by_cases B:f=0
  case neg=>
   have I:C=[]:=E B
   subst I;simp+decide[int,zG,zg,H,B,Stt.d]
  subst B;simp+decide[int,zG];refine zc.pure (by rfl) T (by simp[D.scalar,qb,Rf.row]) ?_
  match C with
  | []=>simp+decide[int,zG,zg,Stt.d]
  | [q]=>
   simp+decide[int,zG,zg,Stt.d];refine HF mixed (by simp) (by rfl) (by rfl) (by rfl) (by simp) ?_
   simp+decide[int,zG,zg,Stt.d]
  |a::b::t=>
   have N:¬((t.length:Int)+1+1=0):=by omega
   have S:¬((t.length:Int)+1+1=1):=by omega
   simp+decide[int,zG,zg,Stt.d,N,S]
structure Wrd where
 g:Lang
 ref:Rf
 s:ByteArray
 l:List Dec
def Wrd.cells(x:Wrd):List D:=(match x.g.d with | .agg cs=>cs | _=>[])++[int x.ref.rcd,int x.ref.note,.str x.s,zv x.l]
def Wrd.d(x:Wrd):D:=.agg x.cells
theorem Ga{l:List Dec}{r:Rf}{n:Nat}(h:∀ d∈l,d.pick.length<=n):(xF l r).1.length<=n:=by
 unfold xF
 split
 .rename_i d H;exact h d (List.mem_of_find?_eq_some H)
 .exact Nat.zero_le _
theorem zdu{g:Lang}(H:LightF g){r:Rf}{s:ByteArray}{l:List Dec}{n:Nat}(G:4<=n)(h:∀ d∈l,d.pick.length<=n):(Z2 g r s l).pick.length<=n:=by
 have F:=Ga (r:=r) h
 have E:=(zgv H r s l).2
 unfold Z2
 split
 .split <;> exact F
 .split
  .exact Nat.zero_le _
  .split
   .exact Nat.zero_le _
   .split
    .exact Nat.zero_le _
    .rename_i q t K
     have:=E q (by rw[K];exact List.mem_cons_self ..)
     exact Nat.le_trans this G
end Go.V
namespace Go.V.Doc
open Go Go.Proofs
def vB(d:Dc)(w:Int):List ByteArray×List ByteArray:=if ZE d w=true then ((yv d w 3).map (qn d),(yv d w 3).map λm=>kQ d (yv d m 4)) else ([],[])
theorem HJ(d:Dc)(w:Int)(H:Fw d)(G:d.tiers.length<2^62):
  zi Tryz.prog 18 [zA d,int w] (.tup [yl (vB d w).1,yl (vB d w).2]):=by
 have h:=Rw d w H G
 unfold vB
 split at h <;> rename_i c
 .rw[if_pos c];exact h
 .rw[if_neg c];exact h
theorem HK{d:Dc}(E:Rgt d)(w:Int)(K:Fw d)(J:d.tiers.length<2^62):
  zi Tryz.prog 19 [zA d,int w] (.tup [yl (vB d w).1,yl (vB d w).2]):=by
 have F:=VT d w 3 K
 have h:=Rx d E.w w J (by rw[Ua E];omega)
 rw[Ua E] at h
 have H:(xN d&&qf d w)=ZE d w:=by unfold ZE;rw[Bool.and_comm]
 rw[H] at h
 unfold vB
 split at h <;> rename_i c
 .rw[if_pos c]
  have G:xN d=true:=by unfold ZE at c;rw[Bool.and_eq_true] at c;exact c.2
  have heq:(yv d w 3).map (λm=>Q5 d (jN d m 4))=(yv d w 3).map (λm=>kQ d (yv d m 4)):=by
   apply List.map_congr_left;intro m _;rw[Ua E];exact(RA (Rz E G m)).symm
  rw[heq] at h;exact h
 .rw[if_neg c];exact h
theorem HL(d:Dc)(w:Int)(G:Fw d):(vB d w).1.length<20/\(vB d w).2.length<20:=by
 have H:=VT d w 3 G
 unfold vB
 split
 .simp only[List.length_map];omega
 .simp
theorem HM(a b:List ByteArray)(E:b.length<2^62):zi Tryz.prog 125 [yl a,yl b] (.bool (decide (a=b))):=by
 refine zp mixed Tryz.func125 rfl c_125 ?_
 simp[Tryz.f125,yl]
 refine⟨λh e=>h (by rw[e]),λh=>?_⟩
 refine zr mixed (λk:Nat=>{n:=26,next:=0,slots:=[(0,.d (yl a)),(1,.d (yl b)),(12,.d (.int .i64 a.length)),(13,.d (.int .i64 k))],own:=[]})
  (λk=>k<=a.length/\a.take k=b.take k) (λk=>a.length-k) 0 (by simp) (by simp[yl]) ?_
 intro k ⟨K,J⟩
 have h:a.length=b.length:=by omega
 by_cases G:k<a.length
 .have e1:a[k]?=some a[k]:=List.getElem?_eq_getElem G
  have e2:b[k]?=some (b[k]'(by omega)):=List.getElem?_eq_getElem (by omega)
  have H:k<b.length:=by omega
  simp+decide[yl,int,e1,e2,G,H,I64];refine⟨λF e=>by subst e;simp at F,λh1=>⟨by omega,k+1,⟨G,?_⟩,by omega,by omega⟩⟩
  rw[take_snoc G,take_snoc H,J,h1]
 .have:k=a.length:=by omega
  subst this;simp+decide[yl];rw[List.take_length,h,List.take_length] at J;exact J
theorem Jr(a b:List ByteArray)(E:a.length<2^62)(K:b.length<2^62):zi Tryz.prog 16 [yl a,yl b] (.bool (decide (a=b))):=by
 refine zp mixed Tryz.func16 rfl c_16 ?_
 by_cases h:a.length=b.length
 case neg=>
  have F:a≠b:=λe=>h (by rw[e])
  have J:¬(a.length:Int)=b.length:=by omega
  simp+decide[Tryz.f16,yl,int,h,J,F]
 simp+decide[Tryz.f16,yl,int,h]
 refine zr mixed (λk:Nat=>{n:=26,next:=0,slots:=[(0,.d (yl a)),(1,.d (yl b)),(5,.d (int k))],own:=[]})
  (λk=>k<=a.length/\a.take k=b.take k) (λk=>a.length-k) 0 (by simp) (by simp[yl,int]) ?_
 intro k ⟨L,M⟩
 by_cases G:k<a.length
 .have e1:a[k]?=some a[k]:=List.getElem?_eq_getElem G
  have e2:b[k]?=some (b[k]'(by omega)):=List.getElem?_eq_getElem (by omega)
  have H:k<b.length:=by omega
  simp+decide[yl,int,e1,e2,G,H,I64];refine⟨λF e=>by subst e;simp at F,λh1=>⟨by omega,k+1,⟨G,?_⟩,by omega,by omega⟩⟩
  rw[take_snoc G,take_snoc H,M,h1]
 .have:k=a.length:=by omega
  subst this;have H:¬a.length<b.length:=by omega
  simp+decide[yl,int,H];rw[List.take_length,h,List.take_length] at M;exact M
def uD(d:Dc)(g:Lang)(w:Int)(q:List Prt):Bool:=decide ((xo g q).2.2=0/\(xo g q).1=(vB d w).1/\(xo g q).2.1=(vB d w).2)
theorem HN(d:Dc)(w:Int)(F:Fw d)(E:d.tiers.length<2^62)(g:Lang)(K:LightF g)(J:LangC g)(q:List Prt)(L:q.length<2^20):
  zi Tryz.prog 74 [zA d,g.d,int w,zu q] (.bool (uD d g w q)):=by
 refine zp mixed Tryz.func74 rfl c_74 ?_
 have M:=Hq g K J q L
 have O:=HJ d w F E
 obtain⟨H,G⟩:=HL d w F
 unfold uD
 generalize xo g q=z at *
 obtain⟨x,y,e⟩:=z
 generalize vB d w=s at *
 obtain⟨u,v⟩:=s
 simp only at *
 have Q:=HM x u (by omega)
 have T:=HM y v (by omega)
 simp+decide[Tryz.f74,zA,Dc.row,int,Lang.d,zj,zu]
 refine zc.pure (by rfl) M (by simp) ?_
 simp+decide[int,yS,zA,Dc.row]
 refine zc.pure (by rfl) O (by simp) ?_
 by_cases V:e=0
 case neg=>simp+decide[int,yl,V]
 subst V
 simp+decide[int,yl]
 refine zc.pure (by rfl) Q (by simp) ?_
 by_cases X:x=u
 case neg=>simp+decide[int,X]
 simp+decide[int,X]
 refine zc.pure (by rfl) T (by simp) ?_
 simp+decide[int]
def qR(d:Dc)(g:Lang)(l:List Dec)(w:Int):Stt:=Z2 g ⟨d.id,w⟩ (qn d w) l
theorem Gb{d:Dc}(h:Rgt d)(g:Lang)(G:LightF g)(F:LangC g)(l:List Dec)(E:l.length<2^40)(K:∀ x∈l,x.pick.length<=4)(w:Int):
  zi Tryz.prog 73 [zA d,g.d,zv l,int w] (qR d g l w).d:=by
 have H:=h.few
 refine zp mixed Tryz.func73 rfl c_73 ?_
 have J:=Yl d w (by omega)
 have L:=zfa g G F ⟨d.id,w⟩ (qn d w) (note_text h w) l E (Nat.lt_of_le_of_lt (Ga K) (by omega))
 simp+decide[Tryz.f73,zA,Dc.row,int,Lang.d,zj,zv]
 refine zc.pure (by rfl) J (by simp) ?_
 simp+decide[int,getD',Nt.row,Lang.d,zj]
 refine zc.pure (by rfl) L (by simp[qb,Rf.row,qn,Lang.d,zv,int]) ?_
 simp+decide[int,Stt.d,qR]
theorem zgw{d:Dc}(h:Rgt d)(g:Lang)(G:LightF g)(F:LangC g)(l:List Dec)(E:l.length<2^40)(K:uC l)(J:∀ x∈l,x.pick.length<=4)(w:Int):
  zi Tryz.prog 76 [zA d,g.d,zv l,int w] (qR d g l w).d:=by
 have H:=h.few
 refine zp mixed Tryz.func76 rfl c_76 ?_
 have L:=U9 d w (by omega)
 have M:=zbp g G F ⟨d.id,w⟩ (qn d w) (note_text h w) l E K (Nat.lt_of_le_of_lt (Ga J) (by omega))
 simp+decide[Tryz.f76,zA,Dc.row,int,Lang.d,zj,zv]
 refine Zf mixed 11 [2] (by rfl) (by rfl) (by rfl) (by rfl) (by simp) ?_
 simp+decide[zA,Dc.row,int,Lang.d,zj,zv]
 refine zq (by rfl) (by rfl) L (by simp) ?_
 simp+decide[int,Lang.d,zj]
 refine zq (by rfl) (by rfl) M (by simp[qb,Rf.row,qn,Lang.d,zv,int]) ?_
 simp+decide[int,Stt.d,qR]
def Js(d:Dc)(g:Lang)(l:List Dec)(w:Int):Bool:=decide ((qR d g l w).kind=4)&&uD d g w (qR d g l w).pick
theorem zdv{d:Dc}(K:Rgt d)(w:Int)(J:Fw d)(L:d.tiers.length<2^62)(g:Lang)(M:LightF g)(O:LangC g)(s:Stt)(Q:s.pick.length<2^20):
  zi Tryz.prog 77 [zA d,g.d,s.d,int w] (.bool (decide (s.kind=4)&&uD d g w s.pick)):=by
 refine zp mixed Tryz.func77 rfl c_77 ?_
 obtain⟨r,k,q⟩:=s
 simp only at Q
 have T:=zck g M O q Q
 have V:=HK K w J L
 have G:=Ht g q
 obtain⟨F,E⟩:=HL d w J
 unfold uD
 generalize xo g q=z at *
 obtain⟨x,y,e⟩:=z
 generalize vB d w=s at *
 obtain⟨u,v⟩:=s
 simp only at *
 have X:=Jr u x (by omega) (by omega)
 have Y:=Jr v y (by omega) (by omega)
 simp+decide[Tryz.f77,zA,Dc.row,int,Lang.d,zj,Stt.d]
 refine zc.pure (by rfl) V (by simp) ?_
 simp+decide[int,yl,Lang.d,zj]
 refine zc.pure (by rfl) T (by simp[Lang.d,zu]) ?_
 by_cases Z:k=4
 case neg=>simp+decide[int,yS,yl,Z]
 subst Z
 by_cases A:e=0
 case neg=>simp+decide[int,yS,yl,A]
 subst A
 simp+decide[int,yS,yl]
 refine zc.pure (by rfl) X (by simp[yl]) ?_
 by_cases B:u=x
 case neg=>
  have H:¬x=u:=λe=>B e.symm
  simp+decide[int,B,H]
 subst B
 simp+decide[int]
 refine zc.pure (by rfl) Y (by simp[yl]) ?_
 simp+decide[int]
 exact eq_comm
def qD(d:Dc)(g:Lang)(l:List Dec)(w:Int):Bool:=decide (0<(yv d w 3).length) && !Js d g l w
def ki(d:Dc):List Int:=zO (qe d (zR d.tiers 2).toNat)
def YF(d:Dc)(g:Lang)(l:List Dec):List Int:=if xN d=true then qM ((ki d).filter (qD d g l)) else []
theorem Gc{d:Dc}(h:xN d=true):∃ t:Nat,zR d.tiers 2=t/\t<d.tiers.length:=by
 unfold xN at h
 simp only[Bool.and_eq_true,decide_eq_true_eq] at h
 have H:=h.1
 unfold zR at H ⊢
 rw[if_neg (by decide)] at H ⊢
 obtain⟨t,et,G,_⟩:=B6 H
 exact⟨t,et,G⟩
theorem HQ{d:Dc}(h:Wgt d)(H:xN d=true):(ki d).Nodup/\(ki d).length<=d.notes.length:=by
 obtain⟨t,et,G⟩:=Gc H
 unfold ki zO
 rw[et,List.length_map]
 refine⟨?_,U3 h G⟩
 have F:=(U2 h G).map (·.id)
 refine F.nodup_iff.2 ?_
 unfold zX
 have:=(h.inc.sublist (List.filter_sublist (l:=d.notes) (p:=λn=>decide (n.tier=((t:Int).toNat:Int)))))
 rw[List.nodup_iff_pairwise_ne,List.pairwise_map]
 exact this.imp λhab e=>by omega
def wI(g:Lang):List Sym:=[.d (zH g.inv),.d (.str g.orth.name),.d (zI g.orth.units),.d (jq g.orth.letters),.d (yr g.rules),.d (int g.net.states),.d (stepsD g.net.steps),.d (ints g.net.final),.d (zn g.lex)]
def Z3(d:Dc):List Sym:=[.d (int (zR d.tiers 2)),.d (int (zR d.tiers 3)),.d (int (zR d.tiers 4))]
theorem HS{g:Lang}(H:LightF g)(d:Dc){l:List Dec}(G:∀ x∈l,x.pick.length<=4)(w:Int):(qR d g l w).pick.length<2^20:=
 Nat.lt_of_le_of_lt (zdu H (Nat.le_refl 4) G) (by omega)
theorem Gd{d:Dc}(h:Rgt d)(C:Fw d)(I:d.tiers.length<2^62)(g:Lang)(N:LightF g)(P:LangC g)(l:List Dec)(V:l.length<2^40)(S:∀ x∈l,x.pick.length<=4):
  zi Tryz.prog 30 [zA d,g.d,zv l] (ints (YF d g l)):=by
 have X:=h.few
 have Y:=Q0 d I
 have Z:=ZD d I
 refine zp mixed Tryz.func30 rfl c_30 ?_
 unfold YF
 simp+decide[Tryz.f30,zA,Dc.row,int,Lang.d,zj,zv]
 refine zc.pure (by rfl) Y (λ_=>rfl) ?_
 cases W:xN d with
 |false=>simp+decide[ints]
 |true=>
  obtain⟨t,et,A⟩:=Gc W;have hO:=CU h.w C t A;rw[show zO (qe d t)=ki d by unfold ki;rw[et];rfl,<-et] at hO
  obtain⟨Q,B⟩:=HQ h.w W;simp+decide[int];refine zc.pure (by rfl) Z (by simp[D.scalar]) ?_
  simp+decide[wy,int];refine zc.pure (by rfl) hO (by simp[D.scalar]) ?_
  generalize ki d=ws at Q B ⊢;simp+decide[int,ints];refine yg mixed (λk:Nat=>{n:=59,next:=5,slots:=[(2,.d (zv l)),(3,.bp 0 0),(4,.bp 1 0),(7,.bp 3 0),(8,.ar 4),(20,.d (ints ws)),(21,.d (int ws.length)),(22,.d (int k))],own:=[(0,.box 53 (yy d)),(1,.box 36 (wI g)),(3,.box 112 (Z3 d)),(4,.arr 3 1 (Uk ((ws.take k).filter (qD d g l))))],moved:=[4]})
   (λk=>k<=ws.length) (λk=>ws.length-k) 0 (Nat.zero_le _) ?_ ?_
  .simp+decide[int,ints,yy,wI,Z3,zv]
  intro k hk;refine zM mixed ?_
  by_cases E:k<ws.length
  case neg=>
   have:k=ws.length:=by omega
   subst this;rw[List.take_length];have T:=List.length_filter_le (qD d g l) ws;have hN:=S9 (ws.filter (qD d g l)) (by omega) (Q.sublist List.filter_sublist)
   generalize ws.filter (qD d g l)=F at hN ⊢;simp+decide[int,ints];refine zc.V9 (by rfl) hN ?_
   simp+decide[int,ints]
  have M:(k:Int)<ws.length:=by omega
  obtain⟨w,ew⟩:∃ w,ws[k]=w:=⟨_,rfl⟩;have e1:ws[k]?=some w:=by rw[List.getElem?_eq_getElem E,ew]
  have hS:=Gb h g N P l V S w;have hK:=XY d w (zR d.tiers 3) C;have L:=HN d w C I g N P (qR d g l w).pick (HS N d S w);rw[show zO (yz d w (zR d.tiers 3))=yv d w 3 from rfl] at hK
  have H:=YE (p:=qD d g l) E;rw[ew] at H;have T:=G8 (qD d g l) ws k;have hb:qD d g l w=(decide (0<(yv d w 3).length) && !(decide ((qR d g l w).kind=4)&&uD d g w (qR d g l w).pick)):=rfl
  rw[hb] at H;clear hb;generalize (ws.take k).filter (qD d g l)=F at H T;generalize hF:(ws.take (k+1)).filter (qD d g l)=F' at H;generalize uD d g w (qR d g l w).pick=sb at L H;generalize qR d g l w=st at hS L H;obtain⟨r,kd,q⟩:=st;generalize yv d w 3=K at hK H;simp only at L H
  simp+decide[int,ints,yy,wI,Z3,zv,E,M,ew,e1,I64];refine zc.pure (by rfl) hS (by simp) ?_
  simp+decide[int,ints,Stt.d];refine zc.V9 (by rfl) hK ?_
  by_cases J:0<K.length
  case neg=>
   have G:K.length=0:=by omega
   simp[J] at H;subst H;simp+decide[int,ints,J,G,I64];exact⟨by omega,k+1,E,by omega,by omega,by rw[hF]⟩
  have G:¬K.length=0:=by omega
  by_cases O:kd=4
  case neg=>
   simp[J,O] at H;subst H;simp+decide[int,ints,J,G,O,I64];exact⟨by omega,by unfold maxLen;omega,by omega,k+1,E,by omega,by omega,by rw[hF];simp[int]⟩
  subst O;simp+decide[int,ints,J,G,I64];refine zc.pure (by rfl) L (by simp[zu,Lang.d]) ?_
  cases sb with
  |true=>
   simp[J] at H;subst H;simp+decide[int,ints,I64];exact⟨by omega,k+1,E,by omega,by omega,by rw[hF]⟩
  |false=>
   simp[J] at H;subst H;simp+decide[int,ints,I64];exact⟨by omega,by unfold maxLen;omega,by omega,k+1,E,by omega,by omega,by rw[hF];simp[int]⟩
def uE(d:Dc)(g:Lang)(l:List Dec)(n:Nt):Bool:=qf d n.id&&qD d g l n.id
def ZS(d:Dc)(g:Lang)(l:List Dec):List Int:=if xN d=true then (d.notes.filter (uE d g l)).map (·.id) else []
theorem zdw{d:Dc}(h:Rgt d)(Y:Fw d)(Z:d.tiers.length<2^62)(g:Lang)(A:LightF g)(B:LangC g)(l:List Dec)(O:l.length<2^40)(C:uC l)(I:∀ x∈l,x.pick.length<=4):
  zi Tryz.prog 31 [zA d,g.d,zv l] (ints (ZS d g l)):=by
 have Q:=h.few
 have T:=B0 d Z
 refine zp mixed Tryz.func31 rfl c_31 ?_
 unfold ZS
 simp+decide[Tryz.f31,zA,Dc.row,int,Lang.d,zj,zv]
 refine zc.pure (by rfl) T (λ_=>rfl) ?_
 cases N:xN d with
 |false=>simp+decide[ints]
 |true=>
  simp+decide[int];refine yg mixed (λk:Nat=>{n:=59,next:=4,slots:=[(2,.d (zv l)),(3,.bp 0 0),(4,.bp 1 0),(7,.ar 3),(8,.d (int k))],own:=[(0,.box 53 (yy d)),(1,.box 36 (wI g)),(3,.arr 3 1 (Uk (((d.notes.take k).filter (uE d g l)).map (·.id))))],moved:=[3]})
   (λk=>k<=d.notes.length) (λk=>d.notes.length-k) 0 (Nat.zero_le _) ?_ ?_
  .simp+decide[int,ints,yy,wI,zv]
  intro k P;refine zM mixed ?_
  by_cases G:k<d.notes.length
  case neg=>
   have:k=d.notes.length:=by omega
   subst this;rw[List.take_length];simp+decide[int,ints,yy,wI,zv,zw]
  have J:(k:Int)<d.notes.length:=by omega
  obtain⟨n,en⟩:∃ n,d.notes[k]=n:=⟨_,rfl⟩;have e1:d.notes[k]?=some n:=by rw[List.getElem?_eq_getElem G,en]
  have S:=B2 d n.id (by omega) Z
  have W:=zgw h g A B l O C I n.id;have L:=HK h n.id Y Z;have hR:=zdv h n.id Y Z g A B (qR d g l n.id) (HS A d I n.id);have H:=YE (p:=uE d g l) G;rw[en] at H;have V:=G8 (uE d g l) d.notes k;have hb:uE d g l n=(qf d n.id&&(decide (0<(yv d n.id 3).length) && !Js d g l n.id)):=rfl
  have M:Js d g l n.id=(decide ((qR d g l n.id).kind=4)&&uD d g n.id (qR d g l n.id).pick):=rfl
  rw[hb] at H;rw[<-M] at hR;have E:qf d n.id=true->(vB d n.id).1.length=(yv d n.id 3).length:=by
   intro hw;unfold vB ZE;rw[hw,N];simp
  clear hb M;generalize hF:(d.notes.take (k+1)).filter (uE d g l)=F' at H;generalize (d.notes.take k).filter (uE d g l)=F at H V;generalize Js d g l n.id=rb at hR H;generalize qR d g l n.id=st at W hR;obtain⟨r,kd,q⟩:=st;generalize vB d n.id=sh at L E;obtain⟨u,v⟩:=sh;generalize (yv d n.id 3).length=K at E H;simp only at E L
  simp+decide[int,ints,yy,wI,zv,zw,Nt.row,G,J,en,e1,I64];refine zc.pure (by rfl) S (by simp) ?_
  cases hw:qf d n.id with
  |false=>
   rw[hw] at H;simp at H
   subst H;simp+decide[int,ints,I64];exact⟨by omega,k+1,G,by omega,by omega,by rw[hF]⟩
  |true=>
   have E:=E hw;rw[hw] at H;simp+decide[int,ints,I64];refine zc.pure (by rfl) L (by simp) ?_
   by_cases hu:u=[]
   .subst hu
    have hK:K=0:=by simpa using E.symm
    subst hK;simp at H
    subst H;simp+decide[int,ints,yl,I64];exact⟨by omega,k+1,G,by omega,by omega,by rw[hF]⟩
   have X:0<u.length:=List.length_pos_iff.2 hu
   have hK:0<K:=by omega
   simp+decide[int,ints,yl,I64,hu,X];refine zq (by rfl) (by rfl) W (by simp) ?_
   simp+decide[int,Stt.d];refine zq (by rfl) (by rfl) hR (by simp[Lang.d,Stt.d]) ?_
   cases rb with
   |true=>
    simp[hK] at H;subst H;simp+decide[int,ints,I64];exact⟨by omega,k+1,G,by omega,by omega,by rw[hF]⟩
   |false=>
    simp[hK] at H;subst H;simp+decide[int,ints,I64];exact⟨by omega,by unfold maxLen;omega,by omega,k+1,G,by omega,by omega,by rw[hF];simp[int]⟩
theorem HT:∀ {a b:List Int},a.Pairwise (· < ·)->b.Pairwise (· < ·)->(∀ x,x∈a↔x∈b)->a=b
 | [],[],_,_,_=>rfl
 | [],y::b,_,_,h=>by have:=(h y).2 List.mem_cons_self;cases this
 |x::a,[],_,_,h=>by have:=(h x).1 List.mem_cons_self;cases this
 |x::a,y::b,E,K,h=>by
  have H:=List.pairwise_cons.1 E;have G:=List.pairwise_cons.1 K;have F:x=y:=by
   rcases List.mem_cons.1 ((h x).1 List.mem_cons_self) with e | e
   .exact e
   .rcases List.mem_cons.1 ((h y).2 List.mem_cons_self) with e2 | e2
    .exact e2.symm
    .have:=G.1 x e;have:=H.1 y e2;omega
  subst F;rw[HT H.2 G.2 λz=>?_]
  constructor
  .intro J
   rcases List.mem_cons.1 ((h z).1 (List.mem_cons_of_mem _ J)) with e | e
   .have:=H.1 z J;omega
   .exact e
  .intro J
   rcases List.mem_cons.1 ((h z).2 (List.mem_cons_of_mem _ J)) with e | e
   .have:=G.1 z J;omega
   .exact e
theorem zfb{l:List Int}(H:l.Nodup):(qM l).Pairwise (· < ·):=by
 have hs:(qM l).Pairwise λa b=>decide (a<=b)=true:=List.pairwise_mergeSort (λa b c G F=>by simp only[decide_eq_true_eq] at *;omega) (λa b=>by simp only[Bool.or_eq_true,decide_eq_true_eq];omega) l
 have E:(qM l).Nodup:=(Q7 l).nodup_iff.2 H
 rw[List.nodup_iff_pairwise_ne] at E
 exact(hs.and E).imp λh=>by have:=of_decide_eq_true h.1;have:=h.2;omega
theorem Jt{d:Dc}(h:Rgt d)(g:Lang)(l:List Dec):YF d g l=ZS d g l:=by
 unfold YF ZS
 cases G:xN d with
 |false=>rfl
 |true=>
  rw[if_pos rfl,if_pos rfl];obtain⟨t,et,F⟩:=Gc G;obtain⟨H,_⟩:=HQ h.w G;refine HT (zfb (H.sublist List.filter_sublist)) ?_ λx=>?_
  .rw[List.pairwise_map]
   exact h.w.inc.sublist List.filter_sublist
  .rw[(Q7 _).mem_iff,List.mem_filter,List.mem_map]
   unfold ki zO;rw[et,List.mem_map];constructor
   .rintro⟨⟨n,E,rfl⟩,K⟩
    have J:=(uo h.w t F n).1 E;refine⟨n,List.mem_filter.2 ⟨J.1,?_⟩,rfl⟩
    unfold uE;rw[K,Bool.and_true];unfold qf;rw[Zz h J.1];simp[et,J.2]
   .rintro⟨n,E,rfl⟩
    obtain⟨E,K⟩:=List.mem_filter.1 E;unfold uE at K;rw[Bool.and_eq_true] at K;refine⟨⟨n,(uo h.w t F n).2 ⟨E,?_⟩,rfl⟩,K.2⟩
    have:=K.1
    unfold qf at this;rw[Zz h E] at this;simpa[et] using this
theorem zi3(d:Dc)(hs:∀ t∈d.tiers,t.name.size<=9223372036854775807)(F:∀ n∈d.notes,n.text.size<=9223372036854775807)(g:Lang)(E:LangC g)(l:List Dec)(K:l.length<2^40)(J:uC l):
  xT Tryz.prog 25 [zA d,g.d,zv l] (λv=>∃ b,v = .bool b/\(b=true->wu d=true/\LightF g/\l.length<=8/\wH l=0)):=by
 have L:=PW d hs F
 have M:=Tj g E
 have O:=Go.V.KN l (by omega) J
 refine qy mixed Tryz.func25 rfl c_25 ?_
 by_cases Q:l.length<=8
 case neg=>
  have H:¬(l.length:Int)<=8:=by omega
  simp+decide[Tryz.f25,int,zA,Dc.row,Lang.d,zv,Q,H]
 have H:(l.length:Int)<=8:=by omega
 simp+decide[Tryz.f25,int,zA,Dc.row,Lang.d,zv,Q,H]
 refine zc.pure (by rfl) L (by simp[D.scalar]) ?_
 cases G:wu d with
 |false=>simp+decide
 |true=>
  simp+decide
  refine zc.some (by rfl) M ?_
  rintro r ⟨b,rfl,T⟩
  cases b with
  |false=>simp+decide
  |true=>
   have T:=T rfl;simp+decide
   refine zc.pure (by rfl) O (by simp) ?_
   by_cases X:wH l=0
   .simp+decide[int,X]
    exact T
   .simp+decide[int,X]
theorem zdx{d:Dc}(h:Rgt d)(g:Lang)(l:List Dec):(YF d g l).length<=d.notes.length:=by
 rw[Jt h]
 unfold ZS
 split
 .rw[List.length_map];exact List.length_filter_le _ _
 .simp
theorem zdy(K:zi Tryz.prog 13 [] (.bool true))(d:Dc)(hs:∀ t∈d.tiers,t.name.size<=9223372036854775807)(J:∀ n∈d.notes,n.text.size<=9223372036854775807)(g:Lang)(L:LangC g)(l:List Dec)(M:l.length<2^40)(O:uC l):
  zi Tryz.prog 8 [zA d,g.d,zv l] (.bool true):=by
 refine zp mixed Tryz.func8 rfl c_8 ?_
 simp+decide[Tryz.f8,int,zv,zA,Dc.row,Lang.d]
 refine zc.some (by rfl) (zi3 d hs J g L l M O) ?_
 rintro r ⟨b,rfl,Q⟩
 cases b with
 |false=>
  simp+decide
  refine zc.pure (by rfl) K (by simp) ?_
  simp+decide
 |true=>
  obtain⟨G,T,_,F⟩:=Q rfl;obtain⟨V,X,Y,Z⟩:=Ub G;have A:∀ x∈l,x.pick.length<=4:=λx J=>(((zdq l).1 F).1 x J).le
  have B:=Gd Z (ZA (by omega)) (by omega) g T L l M A
  have C:=zdw Z (ZA (by omega)) (by omega) g T L l M O A
  rw[<-Jt Z] at C;have E:=zdx Z g l;generalize YF d g l=ws at B C E;simp+decide
  refine zq (by rfl) (by rfl) B (by simp) ?_
  simp+decide[ints];refine zq (by rfl) (by rfl) C (by simp) ?_
  simp+decide[ints];refine yg mixed (λk:Nat=>{n:=45,next:=2,slots:=[(7,.d (ints ws)),(8,.d (ints ws)),(9,.d (int k))],own:=[]})
   (λk=>k<=ws.length) (λk=>ws.length-k) 0 (Nat.zero_le _) ?_ ?_
  .simp+decide[int,ints]
  intro k I;refine zM mixed ?_
  by_cases H:k<ws.length
  .have e1:ws[k]?=some ws[k]:=List.getElem?_eq_getElem H
   simp+decide[int,ints,H,I64];exact⟨by omega,k+1,H,by omega,by omega⟩
  .have:k=ws.length:=by omega
   subst this;simp+decide[int,ints];refine zc.pure (by rfl) K (by simp) ?_
   simp+decide
abbrev HU:List Sh:=[.str,.int .i64,.int .i64,.int .i64]
abbrev HV:List Sh:=[.int .i64,.int .i64,.int .i64,.int .i64,.int .i64,.int .i64,.str]
abbrev Ge:List Sh:=[.int .i64,.str,.int .i64,.int .i64,.sl [.int .i64],.sl HU,.sl HV]
def Tir.ok(t:Tir):Prop:=t.name.size<=maxLen/\qQ t.kind/\qQ t.role/\qQ t.par
structure Nt.ok(n:Nt):Prop where
 id:qQ n.id
 tier:qQ n.tier
 par:qQ n.par
 fr:qQ n.fr
 tO:qQ n.tO
 rank:qQ n.rank
 text:n.text.size<=maxLen
structure Dc.ok(d:Dc):Prop where
 id:qQ d.id
 name:d.name.size<=maxLen
 len:qQ d.len
 day:qQ d.day
 spk:EH d.spk
 tiers:d.tiers.length<=maxLen/\∀ t∈d.tiers,t.ok
 notes:d.notes.length<=maxLen/\∀ n∈d.notes,n.ok
theorem zcq{r:List D}(h:y4 r HU):∃ t:Tir,r=t.row/\t.ok:=by
 obtain⟨_,_,rfl,g1,r1⟩:=h.zW
 obtain⟨_,_,rfl,g2,r2⟩:=r1.zW
 obtain⟨_,_,rfl,g3,r3⟩:=r2.zW
 obtain⟨_,_,rfl,g4,r4⟩:=r3.zW
 obtain rfl:=r4.vJ
 obtain⟨a,rfl,wa⟩:=g1.uY
 obtain⟨b,rfl,wb⟩:=g2.xl
 obtain⟨c,rfl,wc⟩:=g3.xl
 obtain⟨e,rfl,we⟩:=g4.xl
 exact⟨⟨a,b,c,e⟩,rfl,wa,wb,wc,we⟩
theorem zcr{r:List D}(h:y4 r HV):∃ n:Nt,r=n.row/\n.ok:=by
 obtain⟨_,_,rfl,g1,r1⟩:=h.zW
 obtain⟨_,_,rfl,g2,r2⟩:=r1.zW
 obtain⟨_,_,rfl,g3,r3⟩:=r2.zW
 obtain⟨_,_,rfl,g4,r4⟩:=r3.zW
 obtain⟨_,_,rfl,g5,r5⟩:=r4.zW
 obtain⟨_,_,rfl,g6,r6⟩:=r5.zW
 obtain⟨_,_,rfl,g7,r7⟩:=r6.zW
 obtain rfl:=r7.vJ
 obtain⟨a,rfl,wa⟩:=g1.xl
 obtain⟨b,rfl,wb⟩:=g2.xl
 obtain⟨c,rfl,wc⟩:=g3.xl
 obtain⟨e,rfl,we⟩:=g4.xl
 obtain⟨f,rfl,wf⟩:=g5.xl
 obtain⟨g,rfl,wg⟩:=g6.xl
 obtain⟨s,rfl,ws⟩:=g7.uY
 exact⟨⟨a,b,c,e,f,g,s⟩,rfl,wa,wb,wc,we,wf,wg,ws⟩
theorem zdz{l:List D}(h:y4 l Ge):∃ d:Dc,D.agg l=zA d/\d.ok:=by
 obtain⟨_,_,rfl,g1,r1⟩:=h.zW
 obtain⟨_,_,rfl,g2,r2⟩:=r1.zW
 obtain⟨_,_,rfl,g3,r3⟩:=r2.zW
 obtain⟨_,_,rfl,g4,r4⟩:=r3.zW
 obtain⟨_,_,rfl,g5,r5⟩:=r4.zW
 obtain⟨_,_,rfl,g6,r6⟩:=r5.zW
 obtain⟨_,_,rfl,g7,r7⟩:=r6.zW
 obtain rfl:=r7.vJ
 obtain⟨a,rfl,wa⟩:=g1.xl
 obtain⟨b,rfl,wb⟩:=g2.uY
 obtain⟨c,rfl,wc⟩:=g3.xl
 obtain⟨e,rfl,we⟩:=g4.xl
 obtain⟨f,rfl,wf⟩:=An g5
 obtain⟨ts,rfl,wt1,wt2⟩:=yC.Yf (row:=Tir.row) (good:=Tir.ok) (λr H=>zcq H) g6
 obtain⟨ns,rfl,wn1,wn2⟩:=yC.Yf (row:=Nt.row) (good:=Nt.ok) (λr H=>zcr H) g7
 exact⟨⟨a,b,c,e,f,ts,ns⟩,rfl,wa,wb,wc,we,wf,⟨wt1,wt2⟩,wn1,wn2⟩
theorem zcs{l:List D}(h:y4 l Ge):∃ d:Dc,D.agg l=zA d:=by
 obtain⟨d,e,_⟩:=zdz h
 exact⟨d,e⟩
theorem HW{d:Dc}(h:j5 1048576 (zA d)):(∀ t∈d.tiers,t.name.size<=9223372036854775807)/\(∀ n∈d.notes,n.text.size<=9223372036854775807):=by
 simp only[zA,Dc.row,j5,Caps,Cap,ints,int,List.length_map,and_true] at h
 obtain⟨_,_,_,_,_,⟨t1,t2⟩,n1,n2⟩:=h
 refine⟨λt ht=>?_,λn hn=>?_⟩
 .have:=wC t2 t ht
  simp only[Tir.row,Caps,Cap,int] at this;omega
 .have:=wC n2 n hn
  simp only[Nt.row,Caps,Cap,int] at this;omega
end Go.V.Doc
namespace Go.V
open Go Go.Proofs
def Rf.ok(r:Rf):Prop:=qQ r.rcd/\qQ r.note
def Dec.ok(d:Dec):Prop:=d.ref.ok/\EJ d.pick
abbrev Ju:List Sh:=[.int .i64,.int .i64,.bool,.sl EI]
theorem za4{r:List D}(h:y4 r Ju):∃ d:Dec,r=d.row/\d.ok:=by
 obtain⟨_,_,rfl,g1,r1⟩:=h.zW
 obtain⟨_,_,rfl,g2,r2⟩:=r1.zW
 obtain⟨_,_,rfl,g3,r3⟩:=r2.zW
 obtain⟨_,_,rfl,g4,r4⟩:=r3.zW
 obtain rfl:=r4.vJ
 obtain⟨a,rfl,wa⟩:=g1.xl
 obtain⟨b,rfl,wb⟩:=g2.xl
 obtain⟨c,rfl⟩:=g3.WU
 obtain⟨l,rfl,wl⟩:=Ao g4
 exact⟨⟨⟨a,b⟩,c,l⟩,rfl,⟨wa,wb⟩,wl⟩
theorem zct{d:D}(h:yC d (.sl Ju)):∃ l,d=zv l/\l.length<=maxLen/\∀ x∈l,x.ok:=by
 obtain⟨xs,rfl,H,G⟩:=yC.Yf (row:=Dec.row) (good:=Dec.ok) (λr F=>za4 F) h
 exact⟨xs,rfl,H,G⟩
end Go.V
namespace Go.V.Doc
open Go Go.Proofs
def sB:ByteArray:=⟨#[98]⟩
def sA:ByteArray:=⟨#[97]⟩
def sP:ByteArray:=⟨#[112]⟩
def sI:ByteArray:=⟨#[105]⟩
def Qr:ByteArray:=⟨#[100,111,103]⟩
def Qs:ByteArray:=⟨#[80,76]⟩
def Jv:ByteArray:=⟨#[98,97,98,105]⟩
def sXX:ByteArray:=⟨#[120,120]⟩
def sG:Lang where
 inv:=[⟨sB,2⟩,⟨sA,3⟩,⟨sP,0⟩,⟨sI,11⟩]
 orth:=⟨⟨#[109,97,105,110]⟩,[⟨sB,[1]⟩,⟨sA,[2]⟩,⟨sP,[3]⟩,⟨sI,[4]⟩],[]⟩
 rules:=[⟨[3],[1],[⟨1,1⟩],[⟨1,1⟩],false,false⟩]
 net:=⟨2,[⟨0,1,1⟩,⟨1,2,1⟩],[1]⟩
 lex:=[⟨1,[1,2],1,[],0,[⟨Qr,.empty⟩],[],[]⟩,⟨2,[3,4],2,[],0,[⟨Qs,.empty⟩],[],[]⟩]
def sQ:List Prt:=[⟨1,0,0⟩,⟨2,0,0⟩]
def sL:List Dec:=[⟨⟨5,2⟩,true,sQ⟩]
theorem st1:(yL sG.orth.units Jv).2.2=0:=by decide +kernel
theorem st2:(yL sG.orth.units Jv).1=[1,2,1,4]:=by decide +kernel
theorem HY:vq sG [1,2,1,4] sQ=true:=by decide +kernel
theorem st4:Z2 sG ⟨5,2⟩ Jv sL=⟨⟨5,2⟩,4,sQ⟩:=by decide +kernel
theorem all_nil{α:Type}{p:α->Prop}:∀ x∈([]:List α),p x:=λx h=>by cases h
theorem all_cons{α:Type}{p:α->Prop}{a:α}{l:List α}(h:p a)(t:∀ x∈l,p x):∀ x∈a::l,p x:=λx H=>(List.mem_cons.1 H).elim (λe=>e▸h) (t x)
theorem YG:LightF sG where
 rules:=all_cons ⟨⟨⟨by decide +kernel,by decide +kernel,by decide +kernel⟩,by decide +kernel⟩,by decide +kernel⟩ all_nil
 Y7:=all_cons (all_cons (.inr (by decide +kernel)) all_nil) all_nil
 net:=⟨by decide +kernel,all_cons ⟨⟨by decide +kernel,by decide +kernel⟩,⟨by decide +kernel,by decide +kernel⟩,by decide +kernel,by decide +kernel⟩ (all_cons ⟨⟨by decide +kernel,by decide +kernel⟩,⟨by decide +kernel,by decide +kernel⟩,by decide +kernel,by decide +kernel⟩ all_nil),by decide +kernel⟩
 lex:=⟨all_cons ⟨⟨by decide +kernel,⟨by decide +kernel,by decide +kernel,by decide +kernel⟩,⟨by decide +kernel,by decide +kernel⟩,all_nil⟩,.inl (by simp),by decide +kernel,by decide +kernel,all_nil,all_cons (by decide +kernel) all_nil⟩
  (all_cons ⟨⟨by decide +kernel,⟨by decide +kernel,by decide +kernel,by decide +kernel⟩,⟨by decide +kernel,by decide +kernel⟩,all_nil⟩,.inl (by simp),by decide +kernel,by decide +kernel,all_nil,all_cons (by decide +kernel) all_nil⟩ all_nil),
  λk h=>by
   have H:k=0:=by have:sG.lex.length=2:=rfl;omega
   subst H;exact(by decide:(1:Int)<2)⟩
 main:=⟨by decide +kernel,by decide +kernel⟩
 units1:=λu G=>
  have⟨a,b,c,d,e⟩:=(by decide +kernel:∀ u∈sG.orth.units,0<u.graph.size/\u.graph.size<=32/\1<=u.segs.length/\u.segs.length<=3/\xY u.graph=true) u G
  ⟨a,b,c,d,e⟩
 small:=⟨by decide +kernel,all_cons ⟨by decide +kernel,by decide +kernel,all_nil⟩ (all_cons ⟨by decide +kernel,by decide +kernel,all_nil⟩ all_nil)⟩
 segs:=by decide +kernel
 units:=by decide +kernel
 few:=by decide +kernel
 states:=by decide +kernel
 steps:=by decide +kernel
 final:=by decide +kernel
theorem YH:LangC sG where
 inv:=⟨by decide +kernel,all_cons (by decide +kernel) (all_cons (by decide +kernel) (all_cons (by decide +kernel) (all_cons (by decide +kernel) all_nil)))⟩
 orth:=⟨by decide +kernel,all_cons ⟨by decide +kernel,by decide +kernel⟩ (all_cons ⟨by decide +kernel,by decide +kernel⟩ (all_cons ⟨by decide +kernel,by decide +kernel⟩ (all_cons ⟨by decide +kernel,by decide +kernel⟩ all_nil))),all_nil,by decide +kernel⟩
 rules:=⟨by decide +kernel,all_cons ⟨by decide +kernel,by decide +kernel⟩ all_nil⟩
 steps:=by decide +kernel
 final:=by decide +kernel
 lex:=⟨by decide +kernel,all_cons ⟨by decide +kernel,⟨by decide +kernel,all_nil⟩,⟨by decide +kernel,all_cons ⟨by decide +kernel,by decide +kernel⟩ all_nil⟩,by decide +kernel,by decide +kernel⟩ (all_cons ⟨by decide +kernel,⟨by decide +kernel,all_nil⟩,⟨by decide +kernel,all_cons ⟨by decide +kernel,by decide +kernel⟩ all_nil⟩,by decide +kernel,by decide +kernel⟩ all_nil)⟩
def sD:Dc where
 id:=5
 name:=⟨#[116]⟩
 len:=1000
 day:=1
 spk:=[1]
 tiers:=[⟨⟨#[116,101,120,116]⟩,0,1,-1⟩,⟨⟨#[119,111,114,100]⟩,2,2,0⟩,⟨⟨#[109,111,114,112,104]⟩,3,3,1⟩,⟨⟨#[103,108,111,115,115]⟩,4,4,2⟩]
 notes:=[⟨1,0,0,0,900,0,⟨#[98,97,98,105,32,120,120]⟩⟩,⟨2,1,1,0,400,0,Jv⟩,⟨3,1,1,400,900,0,sXX⟩]
theorem zgx:wu sD=true:=by decide +kernel
theorem Jw:Rgt sD:=(Ub zgx).2.2.2
def sX:Dc:={sD with notes:=sD.notes++[⟨100,2,2,0,0,0,⟨#[98,97]⟩⟩,⟨101,3,100,0,0,0,Qr⟩,⟨102,2,2,0,0,1,⟨#[112,105]⟩⟩,⟨103,3,102,0,0,0,Qs⟩]}
theorem zgy:wu sX=true:=by decide +kernel
theorem Qt:Rgt sX:=(Ub zgy).2.2.2
theorem zd0{d:Dc}(h:Rgt d)(w:Int)(V:xN d=true)(X:qf d w=true)(K:yv d w 3=[])(G:(d.notes.filter (yX d w (zR d.tiers 3))).length<20):
  zJ Tryz.prog 22 [.d (zA d),.d (int w)] [] 0 (.tup [.agg [.d (int d.id),.d (.str d.name),.d (int d.len),.d (int d.day),.d (ints d.spk),.d (zF d.tiers),.ar 4],.d (int 0)]) 6 [(4,.arr 72 7 ((xg d w).map Nt.row))] [3,4]:=by
 have M:=h.few
 have O:=B7 h
 have J:=Q0 d (by omega)
 have Y:=B5 d w (by omega) (by omega)
 have Q:=ZD d (by omega)
 have Z:=CP d w (zR d.tiers 3) (by omega) G
 rw[show zO (yz d w (zR d.tiers 3))=yv d w 3 from rfl,K] at Z
 rw[V] at J
 rw[X] at Y
 have L:xg d w=d.notes.filter λn=>!decide (n.id∈([]:List Int)):=by
  show d.notes.filter (λn=>!decide (n.id∈(yv d w 3).flatMap (VW d)))=_
  rw[K];rfl
 generalize xg d w=C at L ⊢
 refine xH mixed Tryz.func22 rfl c_22 (by simp[Sym.los,Sym.lo]) ?_
 simp+decide[Tryz.f22,zA,Dc.row,int]
 refine zc.pure (by rfl) J (λ_=>rfl) ?_
 simp+decide
 refine zc.pure (by rfl) Y (λ_=>rfl) ?_
 simp+decide[Nt.row,int]
 refine zq (by rfl) (by rfl) Q (by simp) ?_
 simp+decide[wy,int]
 refine zdd (by rfl) (by rfl) Z ?_
 simp+decide[ints]
 refine yg mixed (λk:Nat=>Ul d w [] (k,[])) (λk=>k=0) (λk=>0) 0 rfl ?_ ?_
 .simp+decide[Ul,int,ints]
 intro k Z
 subst Z
 refine zM mixed ?_
 subst L
 simp+decide[Ul,int,zw]
 refine yg mixed (λk:Nat=>{n:=67,next:=5,slots:=[(2,.bp 0 0),(4,.bp 1 0),(8,.ar 3),(11,.ar 4),(48,.d (zw d.notes)),(49,.d (int d.notes.length)),(50,.d (int k))],own:=[(0,.box 53 (yy d)),(1,.box 53 zeroCells),(3,.arr 3 1 []),(4,.arr 72 7 ((d.notes.take k).map Nt.row))],moved:=[3,4]})
  (λk=>k<=d.notes.length) (λk=>d.notes.length-k) 0 (Nat.zero_le _) ?_ ?_
 .simp+decide[int,zw]
 intro k Z
 refine zM mixed ?_
 by_cases H:k<d.notes.length
 case neg=>
  have:k=d.notes.length:=by omega
  subst this;rw[List.take_length];have T:d.notes.filter (λn=>!decide (n.id∈([]:List Int)))=d.notes:=by simp
  simp+decide[int,zw];exact⟨rfl,by rw[List.filter_eq_self.2 λ_ _=>rfl]⟩
 have E:(k:Int)<d.notes.length:=by omega
 obtain⟨n,en⟩:∃ n,d.notes[k]=n:=⟨_,rfl⟩
 have e1:d.notes[k]?=some n:=by rw[List.getElem?_eq_getElem H,en]
 have A:=Dd [] n.id (by simp)
 have hsn:d.notes.take (k+1)=d.notes.take k++[n]:=by rw[List.take_succ_eq_append_getElem H,en]
 have G:(d.notes.take k).length<=k:=by rw[List.length_take];exact Nat.min_le_left _ _
 generalize d.notes.take k=F at hsn G
 simp+decide[int,zw,Nt.row,H,E,en]
 refine zc.pure (by rfl) A (by simp[D.scalar]) ?_
 simp+decide[int,I64,maxLen]
 exact⟨by omega,by omega,⟨by omega,by omega⟩,k+1,H,by omega,by omega,by rw[<-List.map_take,hsn];simp[Nt.row,int]⟩
end Go.V.Doc
namespace Go.V.Doc
open Go Go.Proofs Go.RowKit
theorem zfc:Na Tryz.prog 70 2:=by
 refine⟨c_70,λvs w F=>?_⟩
 obtain⟨p,q,rfl⟩:∃ p q,vs=[p,q]:=by
  match vs,F with
  | [p,q],_=>exact⟨p,q,rfl⟩
 have H:∀ w,(Instr.typeAssert Value.nilIface 20 127 true).run Tryz.prog w = .ok (.tuple #[.agg #[.int .i64 0],.bool false]) w:=λw=>by kernel_rfl
 refine callsD_of_wpS Tryz.func70 rfl λc₀ cs E=>?_
 apply wpS_seq
 apply wpS_region
 simp[wpOpsS,go_sem,recoverD,E,Tryz.ntmps70,Exit.thenS,H]
 apply wpS_seq
 apply wpS_region
 simp[wpOpsS,go_sem,Exit.thenS]
 refine wpS_cond (t:=false) (by simp[Act.eval,Array.replicate]) ?_
 simp only[Bool.false_eq_true,if_false]
 refine wpS_of_wp (wp_skip ?_)
 have G:=jW w (Obj.cells #[Value.int IntKind.i64 0] 127)
 cases c₀
 simp_all[bodyPostS,results,Tryz.results70]
theorem zgz:zi Tryz.prog 71 [int 0] (.tup []):=by
 refine zp mixed Tryz.func71 rfl c_71 ?_
 simp+decide[Tryz.f71,int]
theorem zfd{d:Dc}(H:zR d.tiers 2=1)(k0:(zB d 0).kind=0)(k1:¬(zB d 1).kind=0)(p1:(zB d 1).par.toNat=0):ki d=zO ((yz d 0 0).flatMap λp=>yz d p.id 1):=by
 have e0:qe d 0=yz d 0 0:=by rw[qe,if_pos (show(zB d ((0:Nat):Int)).kind=0 from k0)];rfl
 have e1:qe d 1=(yz d 0 0).flatMap λp=>yz d p.id 1:=by
  have p1':(zB d ((1:Nat):Int)).par.toNat=0:=p1
  rw[qe,if_neg (show ¬(zB d ((1:Nat):Int)).kind=0 from k1),dif_pos (by omega),p1',e0];rfl
 unfold ki
 rw[H]
 show zO (qe d 1)=_
 rw[e1]
theorem zg0:ki sD=[2,3]:=by rw[zfd (by decide +kernel) (by decide +kernel) (by decide +kernel) (by decide +kernel)];decide +kernel
theorem Jx:xN sD=true:=by decide +kernel
theorem zcu:Qn sD sG 2 sQ 100=(sX,0):=by kernel_rfl
theorem zi4:qR sD sG sL 2=⟨⟨5,2⟩,4,sQ⟩:=by decide +kernel
theorem zi5:¬(qR sX sG sL 3).kind=4:=by decide +kernel
theorem zi6:uD sD sG 2 sQ=false:=by decide +kernel
theorem zj3:yv sX 3 3=[]:=by decide +kernel
theorem zj4:yv sD 2 3=[]:=by decide +kernel
theorem HZ:qf sD 2=true:=by decide +kernel
theorem zg1:vB sX 2=([⟨#[98,97]⟩,⟨#[112,105]⟩],[Qr,Qs]):=by decide +kernel
theorem zg2:ZS sX sG sL=[]:=by decide +kernel
theorem zi7:ZS sX sG []=[2]:=by decide +kernel
theorem zd1:zi Tryz.prog 28 [zA sD,sG.d,zv sL,int 100] (.tup [zA sX,int 0]):=by
 refine zbh mixed Tryz.func28 rfl c_28 1 (by rfl) (by rfl) ?_
 simp+decide[Tryz.f28,zA,Dc.row,int,Lang.d,zv,Vh,FC]
 refine⟨_,_,⟨rfl,rfl⟩,zfc,?_⟩
 refine zM mixed ?_
 have G:=Q0 sD (by decide +kernel)
 rw[Jx] at G
 have E:=ZD sD (by decide +kernel)
 have K:=CU Jw.w (ZA (by decide +kernel)) 1 (by decide +kernel)
 rw[show zO (qe sD 1)=[2,3] from zg0] at K
 simp+decide
 refine zc.pure (by rfl) G (λ_=>rfl) ?_
 simp+decide
 refine zc.pure (by rfl) E (by simp) ?_
 simp+decide[wy,int]
 refine zc.pure (by rfl) K (by simp) ?_
 simp+decide[ints]
 refine yg mixed (λk:Nat=>{n:=86,next:=5,slots:=[(2,.d (zv sL)),(3,.d (int (if k=0 then 100 else 104))),(4,.bp 0 0),(5,.bp 1 0),(8,.bp 2 0),(9,.bp 3 0),(10,.bp 4 0),(28,.d (ints [2,3])),(29,.d (int 2)),(30,.d (int k))],own:=[(0,.box 53 (yy (if k=0 then sD else sX))),(1,.box 36 (wI sG)),(2,.box 53 zeroCells),(3,.box 43 [.d (int 0)]),(4,.box 112 (Z3 sD))],base:=4})
  (λk=>k<=2) (λk=>2-k) 0 (Nat.zero_le _) ?_ ?_
 .simp+decide[int,ints,yy,wI,Z3,zv]
 intro k J
 refine zM mixed ?_
 by_cases L:k=0
 .subst L
  have M:=Gb Jw sG YG YH sL (by decide +kernel) (by decide +kernel) 2
  rw[zi4] at M;have F:=HN sD 2 (ZA (by decide +kernel)) (by decide +kernel) sG YG YH sQ (by decide +kernel)
  rw[zi6] at F;have O:=zd0 Jw 2 Jx HZ zj4 (by decide +kernel)
  have Q:=zgt Jw sG YG YH 2 O sQ (by decide +kernel) 100 Jx HZ
  rw[zcu] at Q;simp+decide[int,ints,yy,wI,Z3,zv];refine zc.pure (by rfl) M (by simp) ?_
  simp+decide[int,Stt.d];refine zc.pure (by rfl) F (by simp) ?_
  simp+decide
  refine zc.pure (by rfl) Q (by simp) ?_
  simp+decide[int,ints,zA,Dc.row];refine zc.pure (by rfl) zgz (by simp) ?_
  simp+decide[sQ,zg,I64];exact⟨1,by omega,by omega,by simp⟩
 by_cases T:k=1
 .subst T
  have M:=Gb Qt sG YG YH sL (by decide +kernel) (by decide +kernel) 3
  have H:=zi5;have V:=Rl sX 3 (zR sX.tiers 3) (by decide +kernel)
  rw[show zO (yz sX 3 (zR sX.tiers 3))=[] from zj3] at V
  generalize qR sX sG sL 3=st at M H;obtain⟨r,kd,q⟩:=st;simp only at H
  simp+decide[int,ints,yy,wI,Z3,zv];refine zc.pure (by rfl) M (by simp) ?_
  simp+decide[int,Stt.d,H];refine zc.V9 (by rfl) V ?_
  simp+decide[ints,I64];exact⟨2,by omega,by omega,by simp⟩
 have X:k=2:=by omega
 subst X
 simp+decide[int,ints,yy,wI,Z3,zv]
end Go.V.Doc
namespace Go.V.Doc
open Go Go.Proofs
theorem zfe:zi Tryz.prog 40 [] (.tup [zA sD,sG.d,zv sL]):=by
 refine zp mixed Tryz.func40 rfl c_40 ?_
 simp+decide[Tryz.f40]
 refine uS [5,6,8,13,17,18,19,24,25] ?_
 simp+decide
 refine Zf mixed 6 [0,1] (by rfl) (by rfl) (by rfl) (by rfl) (by simp) ?_
 simp+decide
 exact⟨rfl,rfl,rfl⟩
theorem zff:zi Tryz.prog 13 [] (.bool true):=by
 refine zp mixed Tryz.func13 rfl c_13 ?_
 have F:=HJ sX 2 (ZA (by decide +kernel)) (by decide +kernel)
 rw[zg1] at F
 have E:=Gd Qt (ZA (by decide +kernel)) (by decide +kernel) sG YG YH [] (by decide +kernel) (by decide +kernel)
 rw[Jt Qt,zi7] at E
 have K:=Gd Qt (ZA (by decide +kernel)) (by decide +kernel) sG YG YH sL (by decide +kernel) (by decide +kernel)
 rw[Jt Qt,zg2] at K
 have J:=Q0 sD (by decide +kernel)
 rw[Jx] at J
 have H:=Jr [⟨#[98,97]⟩,⟨#[112,105]⟩] [⟨#[98,97]⟩,⟨#[112,105]⟩] (by simp) (by simp)
 have G:=Jr [Qr,Qs] [Qr,Qs] (by simp) (by simp)
 rw[decide_eq_true rfl] at H G
 simp+decide[Tryz.f13]
 refine zc.pure (by rfl) zfe (by simp) ?_
 simp+decide[zA,Dc.row,Lang.d,zv,int]
 refine zc.pure (by rfl) zd1 (by simp[zA,Dc.row,int]) ?_
 simp+decide[zA,Dc.row,int]
 refine zc.pure (by rfl) F (by simp) ?_
 simp+decide[yl]
 refine zc.pure (by rfl) E (by simp) ?_
 simp+decide[ints]
 refine zc.pure (by rfl) J (by simp) ?_
 simp+decide
 have L:sX.notes.length=7:=by decide +kernel
 simp+decide[zw,L]
 refine zc.pure (by rfl) H (by simp[D.scalar]) ?_
 simp+decide
 refine zc.pure (by rfl) G (by simp[D.scalar]) ?_
 simp+decide
 refine zc.pure (by rfl) K (by simp) ?_
 simp+decide[ints]
theorem zbq{d:D}(h:yC d (.sl Ju)):∃ l,d=zv l:=by
 obtain⟨l,e,_⟩:=zct h
 exact⟨l,e⟩
theorem I0{l:List Dec}(h:j5 1048576 (zv l)):l.length<2^40/\uC l:=by
 simp only[zv,j5,Cap,List.length_map] at h
 refine⟨by omega,λx H=>?_⟩
 have:=wC h.2 x H
 simp only[Dec.row,Caps,Cap,int,zg,List.length_map] at this
 unfold Dec.fit
 omega
theorem zcv(d:Dc)(c0:j5 1048576 (zA d))(g:Lang)(c1:j5 1048576 g.d)(l:List Dec)(c2:j5 1048576 (zv l)):
  zi Tryz.prog 8 [zA d,g.d,zv l] (.bool true):=
 zdy zff d (HW c0).1 (HW c0).2 g (AA c1) l (I0 c2).1 (I0 c2).2
end Go.V.Doc

/- Contracts and plain laws of this seat: part MF. It needs no conditions. -/
import Derived.Test.YtknekjalbninmaaGreatS3
import Derived.Test.YtknekjalbninmaaGreatSw
import Derived.Test.YtknekjalbninmaaGreatMD
import Derived.Test.YtknekjalbninmaaGreatME
import Derived.Test.YtknekjalbninmaaGreatMA
import Derived.Test.YtknekjalbninmaaGreatMC
import Derived.Test.YtknekjalbninmaaGreatMB
import Derived.Test.YtknekjalbninmaaGreatW1
set_option maxHeartbeats 32000000
set_option linter.unusedVariables false
set_option linter.unusedSimpArgs false
set_option linter.unusedSectionVars false
set_option maxRecDepth 100000
namespace Go.V
open Go Go.Proofs
theorem znm(a b:List Int)(E:b.length<2^62):zl Tryz.prog 158 [ints a,ints b] (.bool (decide (a=b))):=by
 refine zp mixed Tryz.func158 rfl c_158 ?_
 simp[Tryz.f158,ints]
 refine⟨λh e=>h (by rw[e]),λh=>?_⟩
 refine zu mixed (λk:Nat=>{n:=26,next:=0,slots:=[(0,.d (ints a)),(1,.d (ints b)),(12,.d (.int .i64 a.length)),(13,.d (.int .i64 k))],own:=[]})
  (λk=>k<=a.length/\a.take k=b.take k) (λk=>a.length-k) 0 (by simp) (by simp[ints]) ?_
 intro k ⟨K,J⟩
 have h:a.length=b.length:=by omega
 by_cases G:k<a.length
 .have e1:a[k]?=some a[k]:=List.getElem?_eq_getElem G
  have e2:b[k]?=some (b[k]'(by omega)):=List.getElem?_eq_getElem (by omega)
  have H:k<b.length:=by omega
  simp+decide[ints,int,e1,e2,G,H,I64];refine⟨λF e=>by subst e;simp at F,λhe=>⟨by omega,k+1,⟨G,?_⟩,by omega,by omega⟩⟩
  rw[yH G,yH H,J,he]
 .have:k=a.length:=by omega
  subst this;simp+decide[ints];rw[List.take_length,h,List.take_length] at J;exact J
def uE(w s:List Int):Bool:=decide (s.length<=w.length)&&decide (s=w.take s.length)
def jC(us:List Grap)(w:List Int):Nat->Option Nat
 |0=>none
 |k+1=>match us[k]? with
  |none=>jC us w k
  |some u=>if uE w u.segs=true then (match jC us w k with
    |none=>some k
    |some b=>if ((us[b]?.map λv=>v.segs.length).getD 0)<u.segs.length then some k else some b)
   else jC us w k
theorem Yg{us:List Grap}{w:List Int}:∀ {k b:Nat},jC us w k=some b->∃ v,us[b]?=some v/\uE w v.segs=true
 |0,b,h=>by cases h
 |k+1,b,h=>by
  unfold jC at h;split at h
  .exact Yg h
  .rename_i u H
   split at h
   .rename_i G
    split at h
    .obtain rfl:=Option.some.inj h;exact⟨u,H,G⟩
    .rename_i b' hb'
     split at h
     .obtain rfl:=Option.some.inj h;exact⟨u,H,G⟩
     .obtain rfl:=Option.some.inj h
      exact Yg hb'
   .exact Yg h
theorem zhm(o:Orth)(V:OrthC o)(w:List Int)(X:w.length<2^40):zl Tryz.prog 99 [.agg o.cells,ints w] (int (Zp (jC o.units w o.units.length))):=by
 have O:=V.few.1
 refine zp mixed Tryz.func99 rfl c_99 ?_
 simp+decide[Tryz.f99,int,ints,zS,Orth.cells]
 refine xn mixed (λk:Nat=>{n:=51,next:=1,slots:=[(1,.d (ints w)),(2,.bp 0 0),(5,.d (int (Zp (jC o.units w k)))),(9,.d (zS o.units)),(10,.d (int o.units.length)),(11,.d (int k))],own:=[(0,.box 28 (o.cells.map .d))]})
  (λk=>k<=o.units.length) (λk=>o.units.length-k) 0 (Nat.zero_le _) ?_ ?_
 .simp+decide[int,ints,zS,Orth.cells,jC,Zp]
 intro k Y
 refine zL mixed ?_
 by_cases G:k<o.units.length
 case neg=>
  have:k=o.units.length:=by omega
  subst this;simp+decide[int,ints,zS,Orth.cells]
 have F:(k:Int)<o.units.length:=by omega
 obtain⟨u,eu⟩:∃ u,o.units[k]=u:=⟨_,rfl⟩
 have eu1:o.units[k]?=some u:=by rw[List.getElem?_eq_getElem G,eu]
 have Q:=(V.units o.units[k] (List.getElem_mem G)).2
 rw[eu] at Q
 have H:jC o.units w (k+1)=if uE w u.segs=true then (match jC o.units w k with
    |none=>some k
    |some b=>if ((o.units[b]?.map λv=>v.segs.length).getD 0)<u.segs.length then some k else some b)
   else jC o.units w k:=by rw[jC,eu1]
 by_cases c1:w.length<u.segs.length
 .have c1':(w.length:Int)<u.segs.length:=by omega
  have Z:uE w u.segs=false:=by unfold uE;rw[decide_eq_false (by omega)];rfl
  rw[Z,if_neg (by decide)] at H
  simp+decide[int,ints,zS,Orth.cells,G,F,eu,eu1,Grap.row,I64,c1,c1'];exact⟨by omega,k+1,G,by omega,by rw[H],by omega⟩
 have c1':¬(w.length:Int)<u.segs.length:=by omega
 have A:=znm u.segs (w.take u.segs.length) (by rw[List.length_take];omega)
 have T:uE w u.segs=decide (u.segs=w.take u.segs.length):=by unfold uE;rw[decide_eq_true (by omega)];rfl
 have c2:u.segs.length<=w.length:=by omega
 have c2':(u.segs.length:Int)<=w.length:=by omega
 rw[<-T] at A
 simp only[ints,List.map_take] at A
 simp+decide[int,ints,zS,Orth.cells,G,F,eu,eu1,Grap.row,I64,c1,c1',c2,c2']
 refine scp A ?_
 cases Z:uE w u.segs with
 |false=>
  rw[Z,if_neg (by decide)] at H
  simp+decide[int,ints,zS,Orth.cells,G,F,eu,eu1,Grap.row,I64];exact⟨by omega,k+1,G,by omega,by rw[H],by omega⟩
 |true=>
  rw[Z,if_pos rfl] at H;cases K:jC o.units w k with
  |none=>
   rw[K] at H;simp only at H
   simp+decide[int,ints,zS,Orth.cells,G,F,eu,eu1,Grap.row,I64,Zp];exact⟨by omega,k+1,G,by omega,by rw[H],by omega⟩
  |some b=>
   obtain⟨v,ev1,_⟩:=Yg K;obtain⟨L,ev⟩:=List.getElem?_eq_some_iff.1 ev1;have E:(b:Int)<o.units.length:=by omega
   rw[K] at H;simp only at H
   rw[ev1] at H;simp only[Option.map_some,Option.getD_some] at H;have M:¬(b:Int)<0:=by omega
   by_cases B:v.segs.length<u.segs.length
   .have J:(v.segs.length:Int)<u.segs.length:=by omega
    rw[if_pos B] at H;simp+decide[int,ints,zS,Orth.cells,G,F,eu,eu1,Grap.row,I64,Zp,L,E,ev,ev1,B,J,M];exact⟨by omega,k+1,G,by omega,by rw[H],by omega⟩
   .have J:¬(v.segs.length:Int)<u.segs.length:=by omega
    rw[if_neg B] at H;simp+decide[int,ints,zS,Orth.cells,G,F,eu,eu1,Grap.row,I64,Zp,L,E,ev,ev1,B,J,M];exact⟨by omega,k+1,G,by omega,by rw[H],by omega⟩
theorem zhn(s:ByteArray)(hs:s.size<2^40):
  zI Tryz.prog 100 [.bp 0 0,.d (.str s)] [(0,.box 166 [.d (.val (.pointer none)),.nils])] 1 (.tup [.d (int s.size),.d (.val .nilIface)]) 2 [(1,.arr 5 1 (yF s)),(0,.box 166 [.bp 0 0,.ar 1])] [1]:=by
 have H:zI Tryz.prog 159 [.bp 0 0] [(0,.box 166 [.d (.val (.pointer none)),.nils])] 1 (.d (.tup [])) 1 [(0,.box 166 [.bp 0 0,.nils])] []:=zih (by rfl) zjv
 refine xW mixed Tryz.func100 rfl c_100 (by simp[Sym.los,Sym.lo]) ?_
 simp+decide[Tryz.f100,int]
 refine zG.mut [0] [.bp 0 0] [(0,.box 166 [.d (.val (.pointer none)),.nils])] (by rfl) (by simp) (by simp) (by simp) H ?_
 simp+decide[int,maxLen]
 exact⟨by omega,by omega⟩
theorem zho(s:ByteArray)(rows:List (List D))(hs:rows.length+s.size<2^40):
  zI Tryz.prog 100 [.bp 0 0,.d (.str s)] [(0,.box 166 [.bp 0 0,.ar 1]),(1,.arr 5 1 rows)] 2 (.tup [.d (int s.size),.d (.val .nilIface)]) 2 [(0,.box 166 [.bp 0 0,.ar 1]),(1,.arr 5 1 (rows++yF s))] [1]:=by
 have H:zI Tryz.prog 159 [.bp 0 0] [(0,.box 166 [.bp 0 0,.ar 1]),(1,.arr 5 1 rows)] 2 (.d (.tup [])) 2 [(0,.box 166 [.bp 0 0,.ar 1]),(1,.arr 5 1 rows)] []:=zkv (by rfl) zly _ _ _
 refine xW mixed Tryz.func100 rfl c_100 (by simp[Sym.los,Sym.lo]) ?_
 simp+decide[Tryz.f100,int]
 refine zG.mut [0,1] [.bp 0 0] [(0,.box 166 [.bp 0 0,.ar 1]),(1,.arr 5 1 rows)] (by rfl) (by simp) (by simp) (by simp;rfl) H ?_
 simp+decide[int,maxLen]
 exact⟨by omega,by omega⟩
theorem zmc(s:ByteArray)(hs:s.size≠0):
  zI Tryz.prog 101 [.bp 0 0] [(0,.box 166 [.bp 0 0,.ar 1]),(1,.arr 5 1 (yF s))] 2 (.d (.str s)) 2 [] []:=zft Tryz.znv bldX (by rfl) s hs
theorem zdf(a b:ByteArray):yF (a++b)=yF a++yF b:=by
 unfold yF
 simp[ByteArray.data_append]
def uF(us:List Grap)(w:List Int):Nat->Nat->ByteArray->ByteArray×Int×Int
 |0,_,_=>(.empty,0,0)
 |f+1,at_,acc=>if at_<w.length then (match jC us (w.drop at_) us.length with
   |none=>(.empty,at_,20)
   |some b=>uF us w f (at_+((us[b]?.map λv=>v.segs.length).getD 0)) (acc++((us[b]?.map λv=>v.graph).getD .empty)))
  else (acc,0,0)
def qS(us:List Grap)(w:List Int):ByteArray×Int×Int:=
 if w.length=0 then (.empty,0,4) else if 24<w.length then (.empty,0,5) else uF us w (w.length+1) 0 .empty
theorem IK{us:List Grap}(G:∀ u∈us,UnitF u){w:List Int}:∀ {f at_:Nat} {acc:ByteArray},acc.size<=32*at_->at_<=w.length->(uF us w f at_ acc).1.size<=32*w.length
 |0,_,_,_,_=>by simp[uF]
 |f+1,at_,acc,h,hat=>by
  unfold uF;split
  .split
   .simp
   .rename_i b F
    obtain⟨v,E,H⟩:=Yg F;have K:=G v (List.mem_of_getElem? E);have J:v.segs.length<=(w.drop at_).length:=by
     unfold uE at H;rw[Bool.and_eq_true,decide_eq_true_eq] at H;exact H.1
    rw[List.length_drop] at J;rw[E];refine IK G ?_ ?_
    .have:=K.size;have:=K.segs
     rw[ByteArray.size_append];simp only[Option.map_some,Option.getD_some];omega
    .simp only[Option.map_some,Option.getD_some]
     omega
  .have:acc.size<=32*w.length:=by omega
   exact this
theorem zdg{us:List Grap}(H:∀ u∈us,UnitF u)(w:List Int):(qS us w).1.size<=768:=by
 unfold qS
 split
 .simp
 .split
  .simp
  .have:=IK H (w:=w) (f:=w.length+1) (at_:=0) (acc:=.empty) (by simp) (by omega)
   omega
theorem zkh(o:Orth)(P:OrthC o)(S:∀ u∈o.units,UnitF u)(w:List Int)(W:w.length<2^40):
  zl Tryz.prog 43 [.agg o.cells,ints w] (.tup [.str (qS o.units w).1,int (qS o.units w).2.1,int (qS o.units w).2.2]):=by
 refine zp mixed Tryz.func43 rfl c_43 ?_
 by_cases c0:w.length=0
 .have:w=[]:=List.eq_nil_of_length_eq_zero c0
  subst this;simp+decide[Tryz.f43,int,ints,Orth.cells,qS]
 have c0':¬(w.length:Int)=0:=by omega
 by_cases c1:24<w.length
 .have c1':(24:Int)<w.length:=by omega
  have T:qS o.units w=(.empty,0,5):=by unfold qS;rw[if_neg c0,if_pos c1]
  rw[T];simp+decide[Tryz.f43,int,ints,Orth.cells,c0,c0',c1,c1']
 have c1':¬(24:Int)<w.length:=by omega
 have T:qS o.units w=uF o.units w (w.length+1) 0 .empty:=by unfold qS;rw[if_neg c0,if_neg c1]
 simp+decide[Tryz.f43,int,ints,Orth.cells,c0,c0',c1,c1']
 refine xn mixed (λx:Bool×Nat×Nat×ByteArray=>if x.1=true
   then {n:=45,next:=2,slots:=[(1,.d (ints w)),(2,.bp 0 0),(7,.bp 1 0),(8,.d (int x.2.2.1))],own:=[(0,.box 28 (o.cells.map .d)),(1,.box 166 [.d (.val (.pointer none)),.nils])]}
   else {n:=45,next:=3,slots:=[(1,.d (ints w)),(2,.bp 0 0),(7,.bp 1 0),(8,.d (int x.2.2.1))],own:=[(0,.box 28 (o.cells.map .d)),(1,.box 166 [.bp 1 0,.ar 2]),(2,.arr 5 1 (yF x.2.2.2))],moved:=[2]})
  (λx=>x.2.2.1<=w.length/\w.length<x.2.2.1+x.2.1/\uF o.units w x.2.1 x.2.2.1 x.2.2.2=qS o.units w/\x.2.2.2.size<=32*x.2.2.1/\(x.1=true->x.2.2.1=0/\x.2.2.2 = .empty)/\(x.1=false->x.2.2.2.size≠0)) (λx=>w.length-x.2.2.1)
  (true,w.length+1,0,.empty) ⟨by simp,by simp,T.symm,by simp,by simp,by simp⟩ ?_ ?_
 .simp+decide[int,ints,Orth.cells]
 rintro⟨fr,f,at_,acc⟩ ⟨J,hf,F,A,V,Y⟩
 simp only at J hf F A V Y
 refine zL mixed ?_
 obtain⟨f,rfl⟩:∃ f',f=f'+1:=⟨f-1,by omega⟩
 unfold uF at F
 by_cases G:at_<w.length
 case neg=>
  have H:¬(at_:Int)<w.length:=by omega
  rw[if_neg G] at F;cases fr with
  |true=>have:=(V rfl).1;omega
  |false=>
   rw[<-F];simp+decide[int,ints,G,H,Orth.cells];refine zG.mut [1,2] [.bp 0 0] [(0,.box 166 [.bp 0 0,.ar 1]),(1,.arr 5 1 (yF acc))] (by rfl) (by simp) (by simp) (by simp;rfl) (zmc acc (Y rfl)) ?_
   simp+decide[int]
 rw[if_pos G] at F
 have H:(at_:Int)<w.length:=by omega
 have hU:=zhm o P (w.drop at_) (by rw[List.length_drop];omega)
 simp only[ints,List.map_drop] at hU
 have M:List.take w.length (w.map λn=>[D.int .i64 n])=w.map λn=>[D.int .i64 n]:=List.take_of_length_le (by simp)
 cases hb:jC o.units (w.drop at_) o.units.length with
 |none=>
  rw[hb] at F hU;simp only at F
  simp only[Zp] at hU;rw[<-F];cases fr with
  |true=>
   simp+decide[int,ints,G,H,J,M,Orth.cells];refine scp hU ?_
   simp+decide[int,ints,G,H,Orth.cells]
  |false=>
   simp+decide[int,ints,G,H,J,M,Orth.cells];refine scp hU ?_
   simp+decide[int,ints,G,H,Orth.cells]
 |some b=>
  obtain⟨v,ev1,K⟩:=Yg hb;obtain⟨O,ev⟩:=List.getElem?_eq_some_iff.1 ev1;have E:(b:Int)<o.units.length:=by omega
  have Q:¬(b:Int)<0:=by omega
  have hF:=S v (List.mem_of_getElem? ev1);have B:=hF.size;have C:=hF.pos;have I:=hF.segs;have N:v.segs.length<=w.length-at_:=by
   unfold uE at K;rw[Bool.and_eq_true,decide_eq_true_eq,List.length_drop] at K;exact K.1
  rw[hb] at F hU;simp only[ev1,Option.map_some,Option.getD_some] at F;simp only[Zp] at hU;have L:(acc++v.graph).size<=32*(at_+v.segs.length):=by rw[ByteArray.size_append];omega
  have Z:(acc++v.graph).size≠0:=by rw[ByteArray.size_append];omega
  cases fr with
  |true=>
   obtain⟨h0,X⟩:=V rfl;subst X;simp+decide[int,ints,G,H,J,M,Orth.cells];refine scp hU ?_
   simp+decide[int,ints,G,H,Orth.cells,zS,Grap.row,O,E,ev,ev1,Q];refine zG.mut [1] [.bp 0 0,.d (.str v.graph)] [(0,.box 166 [.d (.val (.pointer none)),.nils])] (by rfl) (by simp) (by simp) (by simp) (zhn v.graph (by omega)) ?_
   simp+decide[int,ints,G,H,Orth.cells,zS,Grap.row,O,E,ev,ev1,Q,I64];exact⟨⟨by omega,by omega⟩,f,at_+v.segs.length,ByteArray.empty++v.graph,⟨by omega,by omega,F,L,λe=>Z (by rw[e];rfl)⟩,by omega,by omega,by simp⟩
  |false=>
   simp+decide[int,ints,G,H,J,M,Orth.cells];refine scp hU ?_
   simp+decide[int,ints,G,H,Orth.cells,zS,Grap.row,O,E,ev,ev1,Q];refine zG.mut [1,2] [.bp 0 0,.d (.str v.graph)] [(0,.box 166 [.bp 0 0,.ar 1]),(1,.arr 5 1 (yF acc))] (by rfl) (by simp) (by simp) (by simp;rfl) (zho v.graph (yF acc) (by rw[K7];omega)) ?_
   simp+decide[int,ints,G,H,Orth.cells,zS,Grap.row,O,E,ev,ev1,Q,I64];exact⟨⟨by omega,by omega⟩,f,at_+v.segs.length,acc++v.graph,⟨by omega,by omega,F,L,λe=>Z (by rw[e];rfl)⟩,by omega,by omega,(zdf _ _).symm⟩
def qh(l:List ByteArray):D:=.sl (l.map λs=>[.str s])
def jU(l:List Ent)(p:Prt):List Int:=((zJ l p.entry).1.forms[p.alt.toNat]?).getD []
def Zr(l:List Ent)(p:Prt):ByteArray:=((qk l p.entry)[p.sense.toNat]?.map λs=>s.gloss).getD .empty
def vf(g:Lang):List Prt->List ByteArray->List ByteArray->List ByteArray×List ByteArray×Int
 | [],x,y=>(x,y,0)
 |p::ps,x,y=>if (qS g.orth.units (jU g.lex p)).2.2≠0 then ([],[],(qS g.orth.units (jU g.lex p)).2.2)
   else vf g ps (x++[(qS g.orth.units (jU g.lex p)).1]) (y++[Zr g.lex p])
def yA(g:Lang)(ps:List Prt):List ByteArray×List ByteArray×Int:=
 if vK g ps≠0 then ([],[],vK g ps) else vf g ps [] []
theorem IL:∀ {l:List Ent} {ps:List Prt},jN l ps=0->∀ p∈ps,vx l p=0
 |l,[],_,p,H=>by cases H
 |l,q::ps,h,p,H=>by
  unfold jN at h;split at h
  .rename_i hq
   rcases List.mem_cons.1 H with rfl | H
   .exact hq
   .exact IL h p H
  .rename_i hq;exact absurd h hq
theorem znn{g:Lang}{ps:List Prt}(h:vK g ps=0):ps.length<=4/\∀ p∈ps,vx g.lex p=0:=by
 unfold vK at h
 split at h
 .cases h
 .split at h
  .cases h
  .split at h
   .rename_i H;exact absurd h H
   .rename_i G H
    exact⟨by omega,IL (by simpa using H)⟩
theorem zoo{l:List Ent}{p:Prt}(h:vx l p=0):(zJ l p.entry).2=true/\0<=p.alt/\p.alt<(zJ l p.entry).1.forms.length/\0<=p.sense/\p.sense<(qk l p.entry).length:=by
 unfold vx at h
 split at h
 .cases h
 .rename_i H
  split at h
  .cases h
  .rename_i h2
   split at h
   .cases h
   .rename_i h3
    unfold qX at h2;split at h2
    .rename_i h4
     exact⟨by simpa using H,h4.2.1,h4.2.2,by omega,by omega⟩
    .simp at h2
theorem zbv{g:Lang}{ps:List Prt}{k:Nat}{x y:List ByteArray}(h:k<ps.length):vf g (ps.drop k) x y=if (qS g.orth.units (jU g.lex ps[k])).2.2≠0 then ([],[],(qS g.orth.units (jU g.lex ps[k])).2.2)
   else vf g (ps.drop (k+1)) (x++[(qS g.orth.units (jU g.lex ps[k])).1]) (y++[Zr g.lex ps[k]]):=by
 rw[List.drop_eq_getElem_cons h];rfl
def strRow(l:List ByteArray):List (List D):=l.map λs=>[.str s]
theorem IM(g:Lang)(B:LightF g)(C:LangC g)(ps:List Prt)(I:ps.length<2^20):
  zl Tryz.prog 14 [g.d,zZ ps] (.tup [qh (yA g ps).1,qh (yA g ps).2.1,int (yA g ps).2.2]):=by
 have N:=B.Y9 C
 have P:=N.toLangOk
 have O:=CX g P ps I
 refine zp mixed Tryz.func14 rfl c_14 ?_
 unfold yA
 simp+decide[Tryz.f14,int,Lang.d,zZ,zq]
 refine zh O ?_
 by_cases S:vK g ps=0
 case neg=>simp+decide[int,S,qh]
 obtain⟨h4,Q⟩:=znn S
 obtain⟨E,hE⟩:∃ E,vf g ps [] []=E:=⟨_,rfl⟩
 simp+decide[int,S,hE,zm]
 refine xn mixed (λx:Nat×List ByteArray×List ByteArray=>{n:=74,next:=6,slots:=[(2,.bp 0 0),(3,.bp 1 0),(8,.ar 4),(9,.ar 5),(24,.d (zm ps)),(25,.d (int ps.length)),(26,.d (int x.1))],own:=[(0,.box 36 (zq g.d)),(1,.box 39 [.d (zm ps)]),(4,.arr 9 1 (strRow x.2.1)),(5,.arr 9 1 (strRow x.2.2))],moved:=[4,5]})
  (λx=>x.1<=ps.length/\x.2.1.length=x.1/\x.2.2.length=x.1/\vf g (ps.drop x.1) x.2.1 x.2.2=E) (λx=>ps.length-x.1) (0,[],[]) ⟨Nat.zero_le _,rfl,rfl,by rw[List.drop_zero];exact hE⟩ ?_ ?_
 .simp+decide[int,zm,zq,Lang.d,strRow]
 rintro⟨k,x,y⟩ ⟨hk,hx,hy,H⟩
 simp only at hk hx hy H
 refine zL mixed ?_
 by_cases F:k<ps.length
 case neg=>
  have:k=ps.length:=by omega
  rw[this,List.drop_length] at H;subst H;have G:¬(k:Int)<ps.length:=by omega
  simp+decide[int,F,G,vf,qh,strRow]
 have G:(k:Int)<ps.length:=by omega
 rw[zbv F] at H
 obtain⟨p,ep⟩:∃ p,ps[k]=p:=⟨_,rfl⟩
 have e1:ps[k]?=some p:=by rw[List.getElem?_eq_getElem F,ep]
 have L:=Q ps[k] (List.getElem_mem F)
 rw[ep] at H L
 obtain⟨q1,q2,q3,q4,q5⟩:=zoo L
 have hG:=Jg g.lex p.entry P.lex.len
 have hA:=CL P.lex p.entry
 have hF:=Ug (zJ g.lex p.entry).1 (by omega)
 have T:(jU g.lex p).length<2^20:=by
  unfold jU;have hj:p.alt.toNat<(zJ g.lex p.entry).1.forms.length:=by omega
  rw[List.getElem?_eq_getElem hj];exact P.lex.form _ (Qu q1) _ (List.getElem_mem hj)
 have hS:=zkh g.orth C.orth B.units1 (jU g.lex p) (by omega)
 have M:=Jh g.lex p.entry P.lex.len P.lex.senses
 have J:=zdg B.units1 (jU g.lex p)
 have K:(zJ g.lex p.entry).1.forms[p.alt.toNat]?=some (jU g.lex p):=by
  unfold jU;have hj:p.alt.toNat<(zJ g.lex p.entry).1.forms.length:=by omega
  rw[List.getElem?_eq_getElem hj];rfl
 obtain⟨sn,hsn,V⟩:∃ sn,(qk g.lex p.entry)[p.sense.toNat]?=some sn/\Zr g.lex p=sn.gloss:=by
  have hj:p.sense.toNat<(qk g.lex p.entry).length:=by omega
  exact⟨_,List.getElem?_eq_getElem hj,by unfold Zr;rw[List.getElem?_eq_getElem hj];rfl⟩
 rw[V] at H
 generalize jU g.lex p=W at K hS H J T
 generalize qS g.orth.units W=z at hS H J
 generalize qk g.lex p.entry=ss at M hsn q5
 generalize zJ g.lex p.entry=r at hG hF K q3 q1 hA
 obtain⟨e,ok⟩:=r
 obtain⟨s,pos,err⟩:=z
 simp only at hG hF K q3 q1 hS H J hA
 subst q1
 have hj:p.alt.toNat<e.forms.length:=by omega
 have X:e.forms[p.alt.toNat]=W:=Option.some.inj (by rw[<-List.getElem?_eq_getElem hj];exact K)
 have hk:p.sense.toNat<ss.length:=by omega
 have Y:ss[p.sense.toNat]=sn:=Option.some.inj (by rw[<-List.getElem?_eq_getElem hk];exact hsn)
 simp+decide[int,zm,zq,Lang.d,Prt.row,F,G,ep,e1,I64]
 refine zh hG ?_
 simp+decide[int,zm,zq,Lang.d,Prt.row,Ent.row,I64]
 refine scp hF ?_
 simp+decide[int,zm,zq,Lang.d,Prt.row,Ent.row,I64,yG,q2,q3,hj,X]
 refine scp hS ?_
 by_cases he:err=0
 case neg=>
  rw[if_pos he] at H;subst H;simp+decide[int,zm,zq,Lang.d,Prt.row,Ent.row,I64,he,qh]
 subst he
 rw[if_neg (by decide)] at H
 simp+decide[int,zm,zq,Lang.d,Prt.row,Ent.row,I64,maxLen]
 have Z:(strRow x).length=k:=by simp[strRow,hx]
 have A:(strRow y).length=k:=by simp[strRow,hy]
 refine⟨by omega,by omega,?_⟩
 refine J7 mixed 12 (by rfl) (by rfl) (by rfl) (by rfl) (by simp) ?_
 simp+decide[int,zm,zq,Lang.d,Prt.row,Ent.row,I64,maxLen]
 refine scp M ?_
 simp+decide[int,zm,zq,Lang.d,Prt.row,Ent.row,I64,maxLen,ye,Sens.row,q4,q5,hk,Y]
 exact⟨by omega,by omega,⟨by omega,by omega⟩,k+1,x++[s],y++[sn.gloss],⟨F,by simp[hx],by simp[hy],H⟩,by omega,by omega,by simp[strRow],by simp[strRow]⟩
theorem IN{g:Lang}:∀ {ps:List Prt} {x y:List ByteArray},(vf g ps x y).1.length<=x.length+ps.length/\(vf g ps x y).2.1.length<=y.length+ps.length
 | [],x,y=>by simp[vf]
 |p::ps,x,y=>by
  unfold vf;split
  .simp
  .have:=IN (g:=g) (ps:=ps) (x:=x++[(qS g.orth.units (jU g.lex p)).1]) (y:=y++[Zr g.lex p])
   simp only[List.length_append,List.length_cons,List.length_nil] at this ⊢;omega
theorem zfb(g:Lang)(ps:List Prt):(yA g ps).1.length<=ps.length/\(yA g ps).2.1.length<=ps.length:=by
 unfold yA
 split
 .simp
 .have:=IN (g:=g) (ps:=ps) (x:=[]) (y:=[])
  simpa using this
def Vb(g:Lang)(s:ByteArray)(ps:List Prt):Bool:=decide ((qg g.orth.units s).2.2=0)&&kH g (qg g.orth.units s).1 ps
theorem za9(g:Lang)(G:LightF g)(F:LangC g)(s:ByteArray)(hs:s.size<=1024)(ps:List Prt)(E:ps.length<2^20):zl Tryz.prog 64 [g.d,.str s,zZ ps] (.bool (Vb g s ps)):=by
 have K:=G.Y9 F
 have J:=GX g.orth F.orth G.graphs s hs
 have H:=GY g.orth.units s
 have L:=CY g K.toLangOk (qg g.orth.units s).1 (by omega) ps E
 unfold Vb kH
 generalize qg g.orth.units s=z at *
 obtain⟨w,pos,e⟩:=z
 simp only at J L H ⊢
 refine zp mixed Tryz.func64 rfl c_64 ?_
 simp+decide[Tryz.f64,int,Lang.d,zZ,zq]
 refine zh J ?_
 by_cases M:e=0
 .simp+decide[int,ints,M]
  refine zh L ?_
  simp+decide[int,ints]
 .simp+decide[int,ints,M]
end Go.V
namespace Go.V.Doc
open Go Go.Proofs
def newG(d:Dc)(w nx:Int)(F G:List ByteArray)(i:Nat):List Nt:=
 [⟨nx+2*i,zw d.tiers 3,w,0,0,i,(F[i]?).getD .empty⟩,⟨nx+2*i+1,zw d.tiers 4,nx+2*i,0,0,0,(G[i]?).getD .empty⟩]
def xk(d:Dc)(w nx:Int)(F G:List ByteArray)(k:Nat):List Nt:=(List.range k).flatMap (newG d w nx F G)
theorem W5(d:Dc)(w nx:Int)(F G:List ByteArray)(k:Nat):xk d w nx F G (k+1)=xk d w nx F G k++newG d w nx F G k:=by
 unfold xk;rw[List.range_succ,List.flatMap_append];simp
theorem Xe(d:Dc)(w nx:Int)(F G:List ByteArray):∀ k,(xk d w nx F G k).length=2*k
 |0=>rfl
 |k+1=>by rw[W5,List.length_append,Xe d w nx F G k];simp[newG];omega
def qG(l:List Nt)(nx:Int)(k:Nat):Bool:=(List.range k).any λi=>(zn l (nx+i)).2
theorem IP(l:List Nt)(nx:Int)(k:Nat):qG l nx (k+1)=(qG l nx k || (zn l (nx+k)).2):=by
 unfold qG;rw[List.range_succ,List.any_append];simp
def Xf(F:List ByteArray):Bool:=F.any λs=>decide (200<s.size)
def yR(d:Dc)(w nx:Int)(F G:List ByteArray):Dc:={d with notes:=jf (zM d w++xk d w nx F G F.length)}
def xy(d:Dc)(g:Lang)(w:Int)(ps:List Prt)(nx:Int):Dc×Int:=
 if (je d w).2≠0 then (kN,(je d w).2)
 else if Vb g (zn d.notes w).1.text ps=false then (kN,23)
 else if (yA g ps).2.2≠0 then (kN,(yA g ps).2.2)
 else if Xf (yA g ps).1=true then (kN,5)
 else if nx<1\/1099511627768<nx then (kN,2)
 else if qG (zM d w) nx (2*(yA g ps).1.length)=true then (kN,8)
 else if 300<(zM d w).length+2*(yA g ps).1.length then (kN,11)
 else (yR d w nx (yA g ps).1 (yA g ps).2.1,0)
theorem GZ{d:Dc}(h:Rgt d){w:Int}(F:yy d w=true):zn (zM d w) w=zn d.notes w:=by
 unfold yy at F
 rw[Bool.and_eq_true] at F
 obtain⟨E,K⟩:=gb F.1
 obtain⟨n,J⟩:∃ n,(zn d.notes w).1=n:=⟨_,rfl⟩
 rw[J] at E K
 have L:QU d w n=false:=by
  unfold QU;rw[decide_eq_false_iff_not];intro M;obtain⟨c,M,_,q⟩:=(gk h E).1 M;have O:=JB h E M;have:=Zf h E (G5 h E M) (by rw[q,K])
  omega
 have H:=kK h E
 rw[K] at H
 rw[H]
 unfold zM
 unfold zn at H ⊢
 rw[List.find?_filter]
 have key:∀ l:List Nt,l.Pairwise (λa b=>a.id<b.id)->n∈l->List.find? (λa=>decide ((!QU d w a)=true/\decide (a.id=w)=true)) l=some n:=by
  intro l Q G;rw[List.find?_eq_some_iff_append];obtain⟨l1,l2,rfl⟩:=List.append_of_mem G;refine⟨by simp[L,K],l1,l2,rfl,λa T=>?_⟩
  have:=(List.pairwise_append.1 Q).2.2 a T n List.mem_cons_self
  have:¬a.id=w:=by omega
  simp[this]
 rw[key _ h.inc E]
theorem note_text{d:Dc}(h:Rgt d)(id:Int):(zn d.notes id).1.text.size<=1024:=by
 cases H:(zn d.notes id).2 with
 |true=>
  have G:=(gb H).1;have F:=(h.nok _ G).e;rw[YR] at F;split at F
  .rename_i ht
   unfold textE at ht;split at ht
   .cases ht
   .omega
  .rename_i ht;exact absurd F ht
 |false=>
  unfold zn at H ⊢;split at H
  .cases H
  .exact Nat.zero_le _
theorem zfc{d:Dc}(h:Rgt d)(g:Lang)(w:Int)(H:Fw d)(ps:List Prt)(nx:Int)(G:(je d w).2≠0):zl Tryz.prog 26 [zv d,g.d,int w,zZ ps,int nx] (.tup [zv (xy d g w ps nx).1,int (xy d g w ps nx).2]):=by
 have F:=EY h w H
 unfold xy
 rw[if_pos G]
 generalize je d w=z at *
 obtain⟨x,e⟩:=z
 simp only at F G ⊢
 refine zp mixed Tryz.func26 rfl c_26 ?_
 simp+decide[Tryz.f26,zv,Dc.row,int,Lang.d,zZ,zq]
 refine zh F ?_
 simp+decide[zv,Dc.row,int,G]
 exact⟨rfl,rfl,rfl⟩
def ji(d:Dc)(g:Lang)(ps:List Prt)(N:List Nt):List (Nat×Obj'):=
 [(0,.box 53 (ya d)),(1,.box 36 (zq g.d)),(2,.box 39 [.d (zm ps)]),(3,.box 53 zeroCells),(8,.arr 72 7 (N.map Nt.row)),
  (10,.box 53 [.d (int d.id),.d (.str d.name),.d (int d.len),.d (int d.day),.d (ints d.spk),.d (zH d.tiers),.ar 8])]
def jj(w nx:Int)(F G:List ByteArray):List (Nat×Sym):=
 [(2,.d (int w)),(4,.d (int nx)),(5,.bp 0 0),(6,.bp 1 0),(8,.bp 2 0),(10,.bp 3 0),(12,.bp 10 0),(16,.d (qh F)),(17,.d (qh G))]
theorem IQ{g:Lang}:∀ {ps:List Prt} {x y:List ByteArray},y.length=x.length->(vf g ps x y).2.1.length=(vf g ps x y).1.length
 | [],x,y,h=>h
 |p::ps,x,y,h=>by
  unfold vf;split
  .rfl
  .exact IQ (by simp[h])
theorem F2(g:Lang)(ps:List Prt):(yA g ps).2.1.length=(yA g ps).1.length:=by
 unfold yA
 split
 .rfl
 .exact IQ rfl
theorem Vd(g:Lang){m:Nat}:Sym.los m (zq g.d):=by simp[zq,Lang.d,Sym.los,Sym.lo]
theorem zki{d:Dc}(h:Rgt d)(g:Lang)(hL:LightF g)(hg:LangC g)(w:Int)(hC:zI Tryz.prog 22 [.d (zv d),.d (int w)] [] 0 (.tup [.agg [.d (int d.id),.d (.str d.name),.d (int d.len),.d (int d.day),.d (ints d.spk),.d (zH d.tiers),.ar 4],.d (int 0)]) 6 [(4,.arr 72 7 ((zM d w).map Nt.row))] [3,4])(ps:List Prt)(hp:ps.length<2^20)(nx:Int)(hr:yw d=true)(hw:yy d w=true):
  zl Tryz.prog 26 [zv d,g.d,int w,zZ ps,int nx] (.tup [zv (xy d g w ps nx).1,int (xy d g w ps nx).2]):=by
 have S:=h.few
 have W:=YW h
 have H0:(je d w).2=0:=by unfold je;rw[if_neg (by rw[hr];decide),if_neg (by rw[hw];decide)]
 have Gb:(zM d w).length<=d.notes.length:=List.length_filter_le _ _
 have C:=ZR (xr d w) w (by simp only[xr];omega)
 have V:=za9 g hL hg (zn d.notes w).1.text (note_text h w) ps hp
 have H1:=IM g hL hg ps hp
 have H2:=zfb g ps
 have Hb:=F2 g ps
 have Hc:=Y2 d (by omega)
 rw[show(xr d w).notes=zM d w from rfl,GZ h hw] at C
 obtain⟨E,hE⟩:∃ E,xy d g w ps nx=E:=⟨_,rfl⟩
 rw[hE]
 unfold xy at hE
 rw[if_neg (by simp[H0])] at hE
 refine ZC mixed Tryz.func26 rfl c_26 [8] ?_
 simp+decide[Tryz.f26,zv,Dc.row,int,Lang.d,zZ,zq]
 refine zG.mut [] [.d (zv d),.d (int w)] [] (by rfl) (by simp[zv,Dc.row,int]) (by simp) (by simp) hC ?_
 simp+decide[int]
 refine zh C ?_
 simp+decide[getD',Nt.row,int]
 refine zh V ?_
 cases J:Vb g (zn d.notes w).1.text ps with
 |false=>
  rw[if_pos J] at hE;subst hE;simp+decide[int];exact⟨rfl,rfl,rfl⟩
 |true=>
 rw[if_neg (by rw[J];decide)] at hE
 simp+decide[int]
 refine zh H1 ?_
 generalize yA g ps=z at *
 obtain⟨F,G,e⟩:=z
 simp only at hE H2 Hb
 by_cases he:e=0
 case neg=>
  rw[if_pos he] at hE;subst hE;simp+decide[int,he];exact⟨rfl,rfl,rfl⟩
 subst he
 rw[if_neg (by decide)] at hE
 simp+decide[int,qh]
 refine xn mixed (λk:Nat=>{n:=145,next:=12,slots:=(60,.d (qh F))::(61,.d (int F.length))::(62,.d (int k))::jj w nx F G,own:=ji d g ps (zM d w),moved:=[7,8]})
  (λk=>k<=F.length/\Xf (F.take k)=false) (λk=>F.length-k) 0 ⟨Nat.zero_le _,rfl⟩ ?_ ?_
 .simp+decide[int,jj,ji,qh,zq,Lang.d]
 rintro k ⟨hk,T⟩
 refine zL mixed ?_
 by_cases O:k<F.length
 case pos=>
  have H:(k:Int)<F.length:=by omega
  obtain⟨s,es⟩:∃ s,F[k]=s:=⟨_,rfl⟩;have e1:F[k]?=some s:=by rw[List.getElem?_eq_getElem O,es]
  by_cases hs:200<s.size
  .have X:(200:Int)<s.size:=by omega
   have Hd:Xf F=true:=List.any_eq_true.2 ⟨s,by rw[<-es];exact List.getElem_mem O,by simpa using hs⟩
   rw[if_pos Hd] at hE;subst hE;simp+decide[int,jj,ji,qh,O,H,es,e1,hs,X,I64];exact⟨rfl,rfl,rfl⟩
  .have X:¬(200:Int)<s.size:=by omega
   simp+decide[int,jj,ji,qh,O,H,es,e1,hs,X,I64];refine⟨⟨by omega,by omega⟩,k+1,⟨O,?_⟩,by omega,by omega,Vd g⟩
   unfold Xf at T ⊢;rw[List.take_succ_eq_append_getElem O,List.any_append,T,es];simp[hs]
 have Hi:k=F.length:=by omega
 rw[Hi,List.take_length] at T
 have H:¬(k:Int)<F.length:=by omega
 rw[if_neg (by rw[T];decide)] at hE
 by_cases h1:nx<1
 .rw[if_pos (.inl h1)] at hE
  subst hE;simp+decide[int,jj,ji,qh,H,h1,I64];exact⟨rfl,rfl,rfl⟩
 by_cases h2:1099511627768<nx
 .rw[if_pos (.inr h2)] at hE
  subst hE;simp+decide[int,jj,ji,qh,H,h1,h2,I64];exact⟨rfl,rfl,rfl⟩
 rw[if_neg (λe=>e.elim h1 h2)] at hE
 simp+decide[int,jj,ji,qh,H,h1,h2,I64]
 refine⟨⟨by omega,by omega⟩,?_⟩
 refine xn mixed (λk:Nat=>{n:=145,next:=12,slots:=(80,.d (int (2*F.length)))::(81,.d (int k))::jj w nx F G,own:=ji d g ps (zM d w),moved:=[7,8]})
  (λk=>k<=2*F.length/\qG (zM d w) nx k=false) (λk=>2*F.length-k) 0 ⟨Nat.zero_le _,rfl⟩ ?_ ?_
 .simp+decide[int,jj,ji,qh]
  exact Vd g
 rintro q ⟨hq,Y⟩
 refine zL mixed ?_
 by_cases I:q<2*F.length
 case pos=>
  have K:(q:Int)<2*F.length:=by omega
  have N:=ZR (xr d w) (nx+q) (by simp only[xr];omega)
  rw[show(xr d w).notes=zM d w from rfl] at N
  have Z:=IP (zM d w) nx q;generalize zn (zM d w) (nx+q)=r at *;obtain⟨n,ok⟩:=r;simp only[Y,Bool.false_or] at Z;simp+decide[int,jj,ji,qh,I,K,I64];refine⟨⟨by omega,by omega⟩,?_⟩
  refine zh N ?_
  cases ok with
  |true=>
   have Hp:qG (zM d w) nx (2*F.length)=true:=by
    have:∀ m,qG (zM d w) nx (q+1+m)=true:=by
     intro m;induction m with
     |zero=>exact Z
     |succ m ih=>rw[<-Nat.add_assoc,IP,ih];rfl
    have h:=this (2*F.length-(q+1));rwa [show q+1+(2*F.length-(q+1))=2*F.length by omega] at h
   rw[if_pos Hp] at hE;subst hE;simp+decide[getD',Nt.row,int];exact⟨rfl,rfl,rfl⟩
  |false=>
   simp+decide[getD',Nt.row,int,I64];exact⟨⟨by omega,by omega⟩,q+1,⟨I,Z⟩,by omega,by omega,Vd g⟩
 have Hs:q=2*F.length:=by omega
 rw[Hs] at Y
 have K:¬(q:Int)<2*F.length:=by omega
 rw[if_neg (by rw[Y];decide)] at hE
 by_cases h3:300<(zM d w).length+2*F.length
 .have A:(300:Int)<(zM d w).length+2*F.length:=by omega
  rw[if_pos h3] at hE;subst hE;simp+decide[int,jj,ji,qh,K,h3,A,I64];exact⟨⟨by omega,by omega⟩,⟨by omega,by omega⟩,rfl,rfl,rfl⟩
 have A:¬(300:Int)<(zM d w).length+2*F.length:=by omega
 rw[if_neg h3] at hE
 simp+decide[int,jj,ji,qh,K,h3,A,I64]
 refine⟨⟨by omega,by omega⟩,⟨by omega,by omega⟩,?_⟩
 refine zh Hc ?_
 simp+decide[wZ,int]
 refine xn mixed (λk:Nat=>{n:=145,next:=13,slots:=(23,.bp 12 0)::(107,.d (int F.length))::(108,.d (int k))::jj w nx F G,own:=(12,.box 112 [.d (int (zw d.tiers 2)),.d (int (zw d.tiers 3)),.d (int (zw d.tiers 4))])::ji d g ps (zM d w++xk d w nx F G k),moved:=[7,8]})
  (λk=>k<=F.length) (λk=>F.length-k) 0 (Nat.zero_le _) ?_ ?_
 .simp+decide[int,jj,ji,qh,xk]
  exact Vd g
 intro i hi
 refine zL mixed ?_
 by_cases J:i<F.length
 case neg=>
  have:i=F.length:=by omega
  subst this;have L:¬(F.length:Int)<F.length:=by omega
  have Hx:zM d w++xk d w nx F G F.length≠[]:=by
   intro e0;have P:=GZ h hw;have:zM d w=[]:=(List.append_eq_nil_iff.1 e0).1
   rw[this] at P;unfold yy at hw;rw[<-P] at hw;simp[zn] at hw
  have hS:=zgx (zM d w++xk d w nx F G F.length) Hx (by rw[List.length_append,Xe];omega)
  simp+decide[int,jj,ji,qh];simp only[<-List.map_append];refine zG.mut [8] [.ar 0,.fn 66 []] [(0,.arr 72 7 ((zM d w++xk d w nx F G F.length).map Nt.row))] (by rfl) (by simp[int]) (by simp[Sym.los,Sym.lo]) (by simp) hS ?_
  subst hE;simp+decide[int,yR];exact rfl
 have L:(i:Int)<F.length:=by omega
 obtain⟨s,es⟩:∃ s,F[i]=s:=⟨_,rfl⟩
 have e1:F[i]?=some s:=by rw[List.getElem?_eq_getElem J,es]
 have B:i<G.length:=by omega
 have Q:(i:Int)<G.length:=by omega
 obtain⟨u,eu⟩:∃ u,G[i]=u:=⟨_,rfl⟩
 have e2:G[i]?=some u:=by rw[List.getElem?_eq_getElem B,eu]
 have hsn:=W5 d w nx F G i
 have Ga:=Xe d w nx F G i
 unfold newG at hsn
 rw[e1,e2] at hsn
 generalize xk d w nx F G i=M at hsn Ga
 simp+decide[int,jj,ji,qh,J,L,B,Q,es,e1,eu,e2,I64]
 refine⟨⟨by omega,by omega⟩,⟨by omega,by omega⟩,?_⟩
 refine J7 mixed 23 (by rfl) (by rfl) (by rfl) (by rfl) (by simp) ?_
 simp+decide[int,qh,J,L,B,Q,es,e1,eu,e2,I64,maxLen]
 exact⟨⟨by omega,by omega⟩,by omega,by omega,⟨by omega,by omega⟩,i+1,J,by omega,by omega,by simp[zq,Lang.d,yE,zA],Vd g,by rw[hsn];simp[Nt.row,int]⟩
theorem zno{d:Dc}(h:Rgt d)(g:Lang)(H:LightF g)(G:LangC g)(w:Int)(F:Fw d)(ps:List Prt)(E:ps.length<2^20)(nx:Int):
  zl Tryz.prog 26 [zv d,g.d,int w,zZ ps,int nx] (.tup [zv (xy d g w ps nx).1,int (xy d g w ps nx).2]):=by
 by_cases K:(je d w).2=0
 .unfold je at K
  cases J:yw d with
  |false=>rw[if_pos J] at K;cases K
  |true=>
   rw[if_neg (by rw[J];decide)] at K
   cases L:yy d w with
   |false=>rw[if_pos L] at K;cases K
   |true=>exact zki h g H G w (EX h w J L F) ps E nx J L
 .exact zfc h g w F ps nx K
abbrev vE(l:List Nt):Prop:=l.Pairwise λa b=>a.id<b.id
theorem zfd{l:List Nt}(h:(l.map (·.id)).Nodup):vE (jf l):=by
 have G:=za5 l
 have F:((jf l).map (·.id)).Nodup:=((JI l).map _).nodup_iff.2 h
 rw[List.nodup_iff_pairwise_ne,List.pairwise_map] at F
 exact(List.pairwise_and_iff.2 ⟨G,F⟩).imp λ{a b} H=>by have:=H.1;have:=H.2;omega
theorem F3{d:Dc}{w nx:Int}{F G:List ByteArray}:∀ (k:Nat),vE (xk d w nx F G k)/\∀ n∈xk d w nx F G k,∃ j:Nat,j<2*k/\n.id=nx+j
 |0=>⟨by simp[xk,vE],by simp[xk]⟩
 |k+1=>by
  obtain⟨H,E⟩:=F3 (d:=d) (w:=w) (nx:=nx) (F:=F) (G:=G) k;rw[W5];refine⟨List.pairwise_append.2 ⟨H,by simp[newG];omega,λa K b J=>?_⟩,λn L=>?_⟩
  .obtain⟨j,hj,e⟩:=E a K
   simp only[newG,List.mem_cons,List.not_mem_nil,or_false] at J;rcases J with rfl | rfl <;> simp only <;> omega
  .rcases List.mem_append.1 L with L | L
   .obtain⟨j,hj,e⟩:=E n L
    exact⟨j,by omega,e⟩
   .simp only[newG,List.mem_cons,List.not_mem_nil,or_false] at L
    rcases L with rfl | rfl
    .exact⟨2*k,by omega,by simp only;omega⟩
    .exact⟨2*k+1,by omega,by simp only;omega⟩
theorem IR{l:List Nt}{x:Nt}(h:x∈l):(zn l x.id).2=true:=by
 unfold zn
 cases H:l.find? λm=>decide (m.id=x.id) with
 |none=>rw[List.find?_eq_none] at H;exact absurd (H x h) (by simp)
 |some m=>rfl
theorem F4{l:List Nt}{nx:Int}{k:Nat}(h:qG l nx k=false){x:Nt}(H:x∈l){j:Nat}(hj:j<k):x.id≠nx+j:=by
 intro e
 unfold qG at h
 have:=List.any_eq_false.1 h j (List.mem_range.2 hj)
 rw[<-e,IR H] at this
 exact this rfl
theorem Xg{d:Dc}(h:Rgt d)(w:Int):vE (zM d w):=h.inc.sublist List.filter_sublist
theorem zfe{d:Dc}{w nx:Int}{F G:List ByteArray}{k:Nat}(h:qG (zM d w) nx (2*k)=false):∀ n∈xk d w nx F G k,∀ x∈zM d w,x.id≠n.id:=by
 intro n H x E e
 obtain⟨j,hj,e2⟩:=(F3 k).2 n H
 exact F4 h E hj (by rw[e,e2])
theorem zkj{d:Dc}(h:Rgt d){w nx:Int}{F G:List ByteArray}{k:Nat}(H:qG (zM d w) nx (2*k)=false):((zM d w++xk d w nx F G k).map (·.id)).Nodup:=by
 rw[List.nodup_iff_pairwise_ne,List.pairwise_map,List.pairwise_append]
 exact⟨(Xg h w).imp λ{a b} e=>by omega,(F3 k).1.imp λ{a b} e=>by omega,λa E b K=>zfe H b K a E⟩
end Go.V.Doc
namespace Go.V.Doc
open Go Go.Proofs
theorem kV{l:List Nt}(h:vE l){n:Nt}(H:n∈l):zn l n.id=(n,true):=by
 have G:=IR H
 obtain⟨F,E⟩:=gb G
 refine Prod.ext ?_ G
 obtain⟨i,hi,e1⟩:=List.mem_iff_getElem.1 F
 obtain⟨j,hj,e2⟩:=List.mem_iff_getElem.1 H
 have K:=List.pairwise_iff_getElem.1 h
 rw[<-e1,<-e2] at E
 rcases Nat.lt_trichotomy i j with q | q | q
 .have:=K i j hi hj q;omega
 .subst q;rw[<-e1,e2]
 .have:=K j i hj hi q;omega
theorem W6{a b:List Nt}(G:vE a)(F:vE b)(h:∀ m,m∈a↔m∈b):a=b:=by
 have nd:∀ {l:List Nt},vE l->l.Nodup:=λ{l} E=>E.imp λ{x y} H e=>by rw[e] at H;omega
 exact List.Perm.eq_of_pairwise (le:=λa b=>a.id<b.id) (λa b _ _ r1 r2=>by omega) G F ((List.perm_ext_iff_of_nodup (nd G) (nd F)).2 h)
theorem zff{d x:Dc}(H:x.tiers=d.tiers)(G:x.len=d.len){n:Nt}(F:(zr d n.tier).kind≠0->zn x.notes n.par=zn d.notes n.par):wy x n=wy d n:=by
 have e:∀ i,zr x i=zr d i:=λi=>by unfold zr;rw[H]
 unfold wy ju
 simp only[e,H,G]
 by_cases E:(zr d n.tier).kind=0
 .simp only[E,if_true]
 .rw[F E]
theorem IT{d:Dc}{n:Nt}(H:(zr d n.tier).kind≠0)(G:(zn d.notes n.par).2=true/\(zn d.notes n.par).1.tier=(zr d n.tier).par)
  (F:ju d n (zn d.notes n.par).1=true) (E:0<=n.rank/\(n.rank=0\/(zr d n.tier).kind=3)):wy d n=0:=by
 unfold wy
 rw[if_pos (by rw[if_neg H];simp[G]),if_pos F,if_neg (by omega)]
theorem Rgt.grow{d x:Dc}(h:Rgt d)(E:x.tiers=d.tiers)(K:x.len=d.len)(J:x.notes.length<=300)(hi:vE x.notes)
  (L:∀ n∈x.notes,(n∈d.notes/\((zr d n.tier).kind≠0->zn x.notes n.par=zn d.notes n.par)/\∀ m,m.tier=n.tier->m.par=n.par->(m∈x.notes↔m∈d.notes)) \/
   (Nok x n/\((zr d n.tier).kind=3/\jP (yi x.notes n.tier n.par)=true\/(zr d n.tier).kind=4/\(yi x.notes n.tier n.par).length<=1))):Rgt x:=by
 have e:∀ i,zr x i=zr d i:=λi=>by unfold zr;rw[E]
 have hs:∀ n:Nt,(∀ m,m.tier=n.tier->m.par=n.par->(m∈x.notes↔m∈d.notes))->yi x.notes n.tier n.par=yi d.notes n.tier n.par:=λn M=>by
  unfold yi;refine W6 (hi.sublist List.filter_sublist) (h.inc.sublist List.filter_sublist) λm=>?_
  simp only[List.mem_filter,Bool.and_eq_true,decide_eq_true_eq];exact⟨λq=>⟨(M m q.2.1 q.2.2).1 q.1,q.2⟩,λq=>⟨(M m q.2.1 q.2.2).2 q.1,q.2⟩⟩
 refine⟨by rw[E];exact h.tiers,by rw[K];exact h.len,J,λn O=>?_,hi,λt F=>?_⟩
 .rcases L n O with⟨Q,T,_⟩ | ⟨Q,_⟩
  .have o:=h.nok n Q
   refine⟨o.lo,o.hi,o.t0,by rw[E];exact o.t1,?_⟩
   have V:=o.e;rw[YR] at V ⊢;rw[zff E K T];exact V
  .exact Q
 .have G:=UX.1 (h.ter t (by rw[<-E];exact F))
  rw[UX,e];refine⟨λn X=>?_,λn X=>?_⟩ <;> obtain⟨O,et⟩:=gg.1 X <;> rcases L n O with⟨Q,T,M⟩ | ⟨_,M⟩
  .have H:=hs n M
   have Y:=G.1 n (gg.2 ⟨Q,et⟩);rw[et] at H;unfold wF at Y ⊢;rw[H];exact Y
  .rw[et] at M
   unfold wF;rcases M with⟨k,_⟩ | ⟨k,_⟩ <;> rw[k] <;> rfl
  .have H:=hs n M
   have Y:=G.2 n (gg.2 ⟨Q,et⟩);rw[et] at H T;unfold badR at Y ⊢;rw[H];by_cases k1:(zr d t).kind=1
   .rw[T (by rw[k1];decide)];exact Y
   .simp only[k1,decide_false,Bool.false_and] at Y ⊢;exact Y
  .rw[et] at M
   unfold badR;rcases M with⟨k,q⟩ | ⟨k,q⟩
   .rw[k,q];rfl
   .rw[k,decide_eq_false (show ¬1<(yi x.notes t n.par).length by omega)];rfl
section
variable {d:Dc} {w:Int}
theorem zkk(h:Rgt d){m n:Nt}(H:m∈d.notes)(G:n∈d.notes)(F:m.tier=n.tier)(E:m.par=n.par):m.id∈X0 d w↔n.id∈X0 d w:=by
 rw[gk h H,gk h G,(xi h H).1,(xi h G).1,E]
 simp only[List.mem_cons,or_and_right,exists_or,exists_eq_left,F,E]
theorem vR{n:Nt}:n∈zM d w↔n∈d.notes/\n.id∉X0 d w:=by
 unfold zM QU
 simp only[List.mem_filter,Bool.not_eq_true',decide_eq_false_iff_not]
theorem F5(h:Rgt d){n:Nt}(G:n∈zM d w)(F:(zr d n.tier).kind≠0):∃ p∈zM d w,zn d.notes n.par=(p,true)/\p.id=n.par:=by
 obtain⟨E,K⟩:=vR.1 G
 obtain⟨t,H,et⟩:=h.En E
 rw[et] at F
 obtain⟨p1,p2⟩:=h.parent ⟨E,et⟩ H F
 have J:=kK h p1.1
 rw[p2] at J
 refine⟨_,vR.2 ⟨p1.1,λL=>K ?_⟩,J,p2⟩
 obtain⟨c,q1,q2,q3⟩:=(gk h p1.1).1 L
 refine(gk h E).2 ⟨c,?_,q2,q3⟩
 rw[(xi h E).1,J]
 unfold chainE
 rw[if_pos rfl]
 exact List.mem_cons_of_mem _ q1
theorem IU(h:Rgt d):Rgt (xr d w):=by
 refine h.grow rfl rfl (Nat.le_trans (List.length_filter_le _ _) h.few) (Xg h w) λn H=>.inl ?_
 have H:n∈zM d w:=H
 obtain⟨G,F⟩:=vR.1 H
 refine⟨G,λE=>?_,λm a b=>⟨λK=>(vR.1 K).1,λK=>vR.2 ⟨K,λJ=>F ((zkk h K G a b).1 J)⟩⟩⟩
 obtain⟨p,L,M,e⟩:=F5 h H E
 rw[M,<-e]
 exact kV (Xg h w) L
end
theorem F6{l:List Tir}{t:Tir}(h:qA l t=0):(t.role=0\/uq l t.role=false)/\((t.role=3->t.kind=3/\0<=t.par/\t.par<l.length/\(l[t.par.toNat]?.getD default).role=2)/\(t.role=4->t.kind=4/\0<=t.par/\t.par<l.length/\(l[t.par.toNat]?.getD default).role=3)):=by
 unfold qA at h
 split at h
 .cases h
 split at h
 .cases h
 split at h
 .cases h
 split at h
 .cases h
 split at h
 .cases h
 rename_i H
 refine⟨.inr (by simpa using H),?_⟩
 split at h
 .rename_i k0
  split at h
  .unfold Z5 at h
   constructor <;> intro r <;> rw[r,k0] at h <;> simp at h
  .cases h
 split at h
 .cases h
 rename_i k0 G
 split at h
 .cases h
 unfold Z5 at h
 constructor <;> intro r <;> rw[r] at h <;> simp at h
 .split at h
  .split at h
   .exact⟨by assumption,by omega,by omega,by assumption⟩
   .cases h
  .cases h
 .split at h
  .split at h
   .exact⟨by assumption,by omega,by omega,by assumption⟩
   .cases h
  .cases h
theorem zmd{d:Dc}(h:Rgt d){t:Nat}(H:t<d.tiers.length){r:Int}(G:r≠0)(F:(d.tiers[t]).role=r):zw d.tiers r=t:=by
 have E:=(F6 (h.good.tiers t H)).1
 rw[F] at E
 unfold zw Y1
 rw[if_neg G,Ek H (λe K=>?_) (by simp[F])]
 rcases E with E | E
 .exact absurd E G
 .unfold uq at E
  rw[decide_eq_false G,Bool.not_false,Bool.true_and,List.any_eq_false] at E;exact Bool.eq_false_iff.2 (E e K)
theorem Ve{d:Dc}{r:Int}(H:r≠0)(h:0<=zw d.tiers r):∃ t:Nat,zw d.tiers r=t/\∃ G:t<d.tiers.length,(d.tiers[t]).role=r:=by
 unfold zw at h ⊢
 rw[if_neg H] at h ⊢
 obtain⟨t,et,G,F⟩:=Em h
 exact⟨t,et,G,of_decide_eq_true F⟩
theorem IV{d:Dc}(h:Rgt d){t:Nat}(H:t<d.tiers.length){r:Int}(G:r≠0)(F:0<=(d.tiers[t]).par)(E:(d.tiers[t]).par<(d.tiers.take t).length)(K:((d.tiers.take t)[(d.tiers[t]).par.toNat]?.getD default).role=r):(zr d t).par=zw d.tiers r:=by
 rw[Zd d H]
 rw[List.length_take] at E
 have J:(d.tiers[t]).par.toNat<d.tiers.length:=by omega
 rw[List.getElem?_take,if_pos (by omega),List.getElem?_eq_getElem J,Option.getD_some] at K
 rw[zmd h J G K];omega
structure Tiered(d:Dc):Prop where
 m:(zr d (zw d.tiers 3)).kind=3/\(zr d (zw d.tiers 3)).par=zw d.tiers 2/\0<=zw d.tiers 3/\zw d.tiers 3<d.tiers.length
 g:(zr d (zw d.tiers 4)).kind=4/\(zr d (zw d.tiers 4)).par=zw d.tiers 3/\0<=zw d.tiers 4/\zw d.tiers 4<d.tiers.length
theorem Zs{d:Dc}(h:Rgt d)(H:yw d=true):Tiered d:=by
 unfold yw at H
 simp only[Bool.and_eq_true,decide_eq_true_eq] at H
 obtain⟨t3,e3,l3,r3⟩:=Ve (by decide) H.2.1
 obtain⟨t4,e4,l4,r4⟩:=Ve (by decide) H.2.2
 obtain⟨k3,a1,a2,a3⟩:=(F6 (h.good.tiers t3 l3)).2.1 r3
 obtain⟨k4,b1,b2,b3⟩:=(F6 (h.good.tiers t4 l4)).2.2 r4
 refine⟨?_,?_⟩
 .rw[e3,IV h l3 (by decide) a1 a2 a3,Zd d l3]
  exact⟨k3,rfl,by omega,by omega⟩
 .rw[e4,IV h l4 (by decide) b1 b2 b3,Zd d l4]
  exact⟨k4,rfl,by omega,by omega⟩
section
variable {d:Dc} {w nx:Int} {F G:List ByteArray}
abbrev Yh(d:Dc)(w nx:Int)(F:List ByteArray)(i:Nat):Nt:=⟨nx+2*i,zw d.tiers 3,w,0,0,i,(F[i]?).getD .empty⟩
abbrev Xh(d:Dc)(nx:Int)(G:List ByteArray)(i:Nat):Nt:=⟨nx+2*i+1,zw d.tiers 4,nx+2*i,0,0,0,(G[i]?).getD .empty⟩
theorem jD{k:Nat}{n:Nt}:n∈xk d w nx F G k↔∃ i,i<k/\(n=Yh d w nx F i\/n=Xh d nx G i):=by
 unfold xk newG
 simp only[List.mem_flatMap,List.mem_range,List.mem_cons,List.not_mem_nil,or_false]
theorem vS{n:Nt}:n∈(yR d w nx F G).notes↔n∈zM d w\/n∈xk d w nx F G F.length:=(JI _).mem_iff.trans List.mem_append
theorem Yi(h:Rgt d)(H:qG (zM d w) nx (2*F.length)=false):vE (yR d w nx F G).notes:=zfd (zkj h H)
theorem zhp{l:List Nt}(h:vE l):l.Nodup:=h.imp λ{x y} H e=>by rw[e] at H;omega
theorem zhq(h:Rgt d)(H:yy d w=true)(E:qG (zM d w) nx (2*F.length)=false):∃ n∈zM d w,n.id=w/\n.tier=zw d.tiers 2/\zn (yR d w nx F G).notes w=(n,true)/\zn d.notes w=(n,true):=by
 have e:=GZ h H
 unfold yy at H
 rw[Bool.and_eq_true,decide_eq_true_eq] at H
 have K:=gb (l:=zM d w) (id:=w) (by rw[e];exact H.1)
 rw[e] at K
 have J:=kV (Yi (G:=G) h E) (vS.2 (.inl K.1))
 rw[K.2] at J
 exact⟨_,K.1,K.2,H.2,J,Prod.ext rfl H.1⟩
theorem IW(H:zw d.tiers 4≠zw d.tiers 3):∀ k,((xk d w nx F G k).filter λn=>decide (n.tier=zw d.tiers 3)&&decide (n.par=w)).length<=k
 |0=>by simp[xk]
 |k+1=>by
  have:=IW H k
  rw[W5,List.filter_append,List.length_append];have:((newG d w nx F G k).filter λn=>decide (n.tier=zw d.tiers 3)&&decide (n.par=w)).length<=1:=by simp[newG,H]
  omega
theorem Vf(h:Rgt d){n:Nt}(H:n∈zM d w)(G:n.tier=zw d.tiers 3)(F:n.par=w):False:=
 (vR.1 H).2 ((gk h (vR.1 H).1).2 ⟨n,QN h (vR.1 H).1,G,F⟩)
theorem W7(h:Rgt d)(H:Tiered d)(G:qG (zM d w) nx (2*F.length)=false){i:Nat}(hi:i<F.length){n:Nt}(E:n∈zM d w)(K:n.tier=zw d.tiers 4)(J:n.par=nx+2*i):False:=by
 obtain⟨p,L,_,e⟩:=F5 h E (by rw[K,H.g.1];decide)
 exact F4 G L (j:=2*i) (by omega) (by rw[e,J];omega)
theorem zkl(h:Rgt d)(Q:yw d=true)(T:yy d w=true)(V:∀ s∈F,textE s=0)(X:∀ s∈G,textE s=0)(Y:G.length=F.length)(Z:1<=nx)(A:nx+2*F.length<=1099511627777)
  (B:qG (zM d w) nx (2*F.length)=false) (C:(zM d w).length+2*F.length<=300):Rgt (yR d w nx F G):=by
 have I:=Zs h Q
 have J:zw d.tiers 4≠zw d.tiers 3:=λe=>by have:=I.g.1;rw[e,I.m.1] at this;cases this
 have E:=Yi (G:=G) h B
 have K:∀ {L:List ByteArray} {i:Nat},(∀ s∈L,textE s=0)->i<L.length->textE ((L[i]?).getD .empty)=0:=λ{L i} N hi=>by
  rw[List.getElem?_eq_getElem hi];exact N _ (List.getElem_mem hi)
 have H:∀ i,zr (yR d w nx F G) i=zr d i:=λ_=>rfl
 refine(IU h (w:=w)).grow rfl rfl ?_ E λn P=>?_
 .show(jf _).length<=300
  rw[JH,List.length_append,Xe];exact C
 rcases vS.1 P with S | S
 .left
  refine⟨S,λhk=>?_,λm a b=>⟨λW=>?_,λW=>vS.2 (.inl W)⟩⟩
  .obtain⟨p,hp,_,e⟩:=F5 h S hk
   have e2:zn (xr d w).notes n.par=(p,true):=by rw[<-e];exact kV (Xg h w) hp
   rw[e2,<-e];exact kV E (vS.2 (.inl hp))
  .rcases vS.1 W with W | W
   .exact W
   .obtain⟨i,hi,rfl | rfl⟩:=jD.1 W
    .exact(Vf h S a.symm b.symm).elim
    .exact(W7 h I B hi S a.symm b.symm).elim
 .right
  obtain⟨i,hi,e⟩:=jD.1 S;rcases e with rfl | rfl
  .obtain⟨p,hp,_,pt,hg,_⟩:=zhq (G:=G) h T B
   refine⟨⟨by simp only;omega,by simp only;omega,I.m.2.2.1,I.m.2.2.2,?_⟩,.inl ⟨I.m.1,?_⟩⟩
   .rw[YR,if_pos (K V hi)]
    refine IT (by rw[H,I.m.1];decide) (by rw[H,hg];exact⟨rfl,by rw[I.m.2.1];exact pt⟩) ?_ ⟨by simp only;omega,.inr (by rw[H];exact I.m.1)⟩
    unfold ju;rw[if_neg]
    .simp
    .rw[QG (d:=yR d w nx F G) I.m.2.2.1 I.m.2.2.2,H,I.m.1];decide
   .rw[QB]
    intro j hj;have M:(yi (yR d w nx F G).notes (zw d.tiers 3) w).length<=F.length:=by
     unfold yi;show((jf (zM d w++xk d w nx F G F.length)).filter _).length<=F.length
     rw[((JI (zM d w++xk d w nx F G F.length)).filter _).length_eq,List.filter_append,List.length_append];have e0:(zM d w).filter (λn=>decide (n.tier=zw d.tiers 3)&&decide (n.par=w))=[]:=by
      rw[List.filter_eq_nil_iff];intro m W e;rw[Bool.and_eq_true,decide_eq_true_eq,decide_eq_true_eq] at e;exact Vf h W e.1 e.2
     rw[e0];have:=IW (w:=w) (nx:=nx) (F:=F) (G:=G) J F.length
     simp only[List.length_nil,Nat.zero_add];exact this
    have O:j<F.length:=Nat.lt_of_lt_of_le hj M
    rw[List.any_eq_true];exact⟨Yh d w nx F j,List.mem_filter.2 ⟨vS.2 (.inr (jD.2 ⟨j,O,.inl rfl⟩)),by simp⟩,by simp⟩
  .have hg:=kV E (vS.2 (.inr (jD.2 ⟨i,hi,.inl rfl⟩)))
   refine⟨⟨by simp only;omega,by simp only;omega,I.g.2.2.1,I.g.2.2.2,?_⟩,.inr ⟨I.g.1,?_⟩⟩
   .rw[YR,if_pos (K X (by omega))]
    refine IT (by rw[H,I.g.1];decide) (by rw[H];simp only at hg ⊢;rw[hg];exact⟨rfl,by rw[I.g.2.1]⟩) ?_ ⟨by simp only;omega,.inl rfl⟩
    unfold ju;rw[if_neg]
    .simp
    .rw[QG (d:=yR d w nx F G) I.g.2.2.1 I.g.2.2.2,H,I.g.1];decide
   .refine zng ((zhp E).sublist List.filter_sublist) λa ha b hb=>?_
    have key:∀ m,m∈yi (yR d w nx F G).notes (zw d.tiers 4) (nx+2*i)->m=Xh d nx G i:=λm W=>by
     unfold yi at W;rw[List.mem_filter,Bool.and_eq_true,decide_eq_true_eq,decide_eq_true_eq] at W;obtain⟨q1,q2,q3⟩:=W;rcases vS.1 q1 with q | q
     .exact(W7 h I B hi q q2 q3).elim
     .obtain⟨j,hj,rfl | rfl⟩:=jD.1 q
      .exact absurd q2.symm J
      .obtain rfl:j=i:=by simp only at q3;omega
       rfl
    rw[key a ha,key b hb]
end
end Go.V.Doc
namespace Go.V.Doc
open Go Go.Proofs Go.Lib
theorem decodeN_more(n m b0 b1 b2 b3 c1 c2 c3:Nat)(H:n<=m)(G:1<n->c1=b1)(F:2<n->c2=b2)(E:3<n->c3=b3)(K:¬((decodeN n b0 b1 b2 b3).1=65533/\(decodeN n b0 b1 b2 b3).2=1))(J:1<=n):
  decodeN m b0 c1 c2 c3=decodeN n b0 b1 b2 b3/\(decodeN n b0 b1 b2 b3).2<=n/\1<=(decodeN n b0 b1 b2 b3).2:=by
 by_cases n1:1<n
 .have:=G n1;subst this
  by_cases n2:2<n
  .have:=F n2;subst this
   by_cases n3:3<n
   .have:=E n3;subst this
    have m1:1<m:=by omega
    have m2:2<m:=by omega
    have m3:3<m:=by omega
    revert K
    unfold decodeN;simp only[n1,n2,n3,m1,m2,m3,true_and];intro K;constructor <;> (repeat' split) <;> (simp only;omega)
   .revert K
    unfold decodeN;have m1:1<m:=by omega
    have m2:2<m:=by omega
    simp only[n1,n2,n3,m1,m2,true_and,false_and,and_false,if_false];repeat' split
    all_goals intro K
    all_goals first | exact absurd ⟨rfl,rfl⟩ K | (refine⟨rfl,?_⟩;simp only;omega) | (exfalso;omega)
  .revert K
   unfold decodeN;have m1:1<m:=by omega
   simp only[n1,n2,m1,true_and,false_and,and_false,if_false];repeat' split
   all_goals intro K
   all_goals first | exact absurd ⟨rfl,rfl⟩ K | (refine⟨rfl,?_⟩;simp only;omega) | (exfalso;omega)
 .revert K
  unfold decodeN;simp only[n1,false_and,and_false,if_false];repeat' split
  all_goals intro K
  all_goals first | exact absurd ⟨rfl,rfl⟩ K | (refine⟨rfl,?_⟩;simp only;omega) | (exfalso;omega)
theorem IX:∀ (k:Nat) (a b:List UInt8),a.length<=k->validD a=true->validD (a++b)=validD b
 |0,a,b,G,_=>by
  obtain rfl:a=[]:=List.eq_nil_of_length_eq_zero (by omega)
  rfl
 |k+1,a,b,G,h=>by
  by_cases e:a=[]
  .subst e;rfl
  have H:0<a.length:=List.length_pos_iff.2 e
  rw[validD_step a e] at h;split at h
  .cases h
  rename_i F;rw[decodeL_N] at F;have E:∀ i,i<a.length->(a++b).getD i 0=a.getD i 0:=λi hi=>by
   simp only[List.getD_eq_getElem?_getD];rw[List.getElem?_append_left hi]
  have K:=decodeN_more a.length (a++b).length (a.getD 0 0).toNat (a.getD 1 0).toNat (a.getD 2 0).toNat (a.getD 3 0).toNat ((a++b).getD 1 0).toNat ((a++b).getD 2 0).toNat ((a++b).getD 3 0).toNat (by simp) (λq=>by rw[E 1 q]) (λq=>by rw[E 2 q]) (λq=>by rw[E 3 q]) F H
  obtain⟨d1,d2,d3⟩:=K;have e2:decodeL (a++b)=decodeL a:=by rw[decodeL_N,decodeL_N,E 0 H,d1]
  rw[validD_step (a++b) (by simp[e]),e2,if_neg (by rw[decodeL_N];exact F)]
  rw[<-decodeL_N] at d2;rw[List.drop_append_of_le_length d2];exact IX k _ b (by rw[List.length_drop];rw[<-decodeL_N] at d3;omega) h
def jk(s:ByteArray):Prop:=validD s.data.toList=true/\∀ b∈s.data.toList,badByte b.toNat=false
theorem zme{a b:ByteArray}(H:jk a)(G:jk b):jk (a++b):=by
 unfold jk at *
 rw[ByteArray.data_append,Array.toList_append]
 refine⟨by rw[IX _ _ _ (Nat.le_refl _) H.1];exact G.1,λx F=>?_⟩
 rcases List.mem_append.1 F with F | F
 .exact H.2 x F
 .exact G.2 x F
theorem Xi:jk .empty:=⟨rfl,λb H=>by cases H⟩
theorem zhr{s:ByteArray}{b:UInt8}(H:b∈s.data.toList):∃ k,k<s.size/\zC s k=b.toNat:=by
 obtain⟨k,G,rfl⟩:=List.mem_iff_getElem.1 H
 refine⟨k,by simpa using G,?_⟩
 unfold zC
 rw[List.getD_eq_getElem?_getD,List.getElem?_eq_getElem G];rfl
theorem IY{s:ByteArray}(h:xp s=true):jk s:=by
 unfold xp at h
 rw[Bool.and_eq_true,Bool.and_eq_true,Bool.and_eq_true] at h
 obtain⟨H,⟨G,_⟩,_⟩:=h
 have F:=(UC s s.size 0 (by omega) (by omega)).1
 rw[List.drop_zero,G] at F
 refine⟨F,λb E=>?_⟩
 obtain⟨k,K,e⟩:=zhr E
 unfold uV at H
 have:=List.all_eq_true.1 H k (List.mem_range.2 K)
 rw[e] at this
 unfold Z9 at this
 unfold badByte
 rw[Bool.and_eq_true,decide_eq_true_eq,decide_eq_true_eq] at this
 rw[decide_eq_false this.1,decide_eq_false this.2];rfl
theorem text_of{s:ByteArray}(h:jk s)(G:s.size<=200):textE s=0:=by
 unfold textE
 rw[if_neg (by omega),if_pos (show Uo s=true from h.1),if_neg]
 unfold Jp
 rw[Bool.not_eq_true,List.any_eq_false]
 intro k F
 have F:=List.mem_range.1 F
 have H:k<s.data.toList.length:=by simpa using F
 have:=h.2 (s.data.toList[k]) (List.getElem_mem H)
 unfold zC
 rw[List.getD_eq_getElem?_getD,List.getElem?_eq_getElem H]
 simp only[Option.getD_some];rw[this];decide
theorem IZ{us:List Grap}(H:∀ u∈us,UnitF u){w:List Int}:∀ {f at_:Nat} {acc:ByteArray},jk acc->jk (uF us w f at_ acc).1
 |0,_,_,_=>Xi
 |f+1,at_,acc,h=>by
  unfold uF;split
  .split
   .exact Xi
   .rename_i b G
    obtain⟨v,F,_⟩:=Yg G;rw[F];exact IZ H (zme h (IY (H v (List.mem_of_getElem? F)).lab))
  .exact h
theorem zhs{us:List Grap}(H:∀ u∈us,UnitF u)(w:List Int):jk (qS us w).1:=by
 unfold qS
 split
 .exact Xi
 .split
  .exact Xi
  .exact IZ H Xi
theorem M1{l:List Ent}(H:∀ e∈l,∀ s∈e.senses,xp s.gloss=true):∀ {f:Nat} {id:Int} {ss:List Sens},wo l f id=some ss->∀ s∈ss,xp s.gloss=true
 |0,_,_,h=>by cases h
 |f+1,id,ss,h=>by
  unfold wo at h;split at h
  .rename_i G
   split at h
   .cases h;exact H _ (Qu G)
   .split at h
    .cases h
    .exact M1 H h
  .cases h
theorem zht{l:List Ent}(H:∀ e∈l,∀ s∈e.senses,xp s.gloss=true)(p:Prt):jk (Zr l p)/\(Zr l p).size<=200:=by
 unfold Zr
 cases hs:(qk l p.entry)[p.sense.toNat]? with
 |none=>exact⟨Xi,Nat.zero_le _⟩
 |some s=>
  have G:=List.mem_of_getElem? hs;have F:xp s.gloss=true:=by
   unfold qk at G;cases E:wo l (l.length+1) p.entry with
   |none=>rw[E] at G;cases G
   |some ss=>rw[E] at G;exact M1 H E s G
  have:=(Gp F).2
  exact⟨IY F,by simp only[Option.map_some,Option.getD_some];omega⟩
theorem M3{g:Lang}(H:LightF g):∀ {ps:List Prt} {x y:List ByteArray},(∀ s∈x,jk s)->(∀ s∈y,jk s/\s.size<=200)->(∀ s∈(vf g ps x y).1,jk s)/\∀ s∈(vf g ps x y).2.1,jk s/\s.size<=200
 | [],x,y,G,F=>⟨G,F⟩
 |p::ps,x,y,G,F=>by
  unfold vf;split
  .exact⟨λs h=>(by cases h),λs h=>(by cases h)⟩
  .refine M3 H (λs h=>?_) (λs h=>?_) <;> rcases List.mem_append.1 h with h | h
   .exact G s h
   .rw[List.mem_singleton] at h;rw[h];exact zhs H.units1 _
   .exact F s h
   .rw[List.mem_singleton] at h;rw[h];exact zht (λe E=>(H.lex.each e E).gl) p
theorem zfg{g:Lang}(H:LightF g)(ps:List Prt):(∀ s∈(yA g ps).1,jk s)/\∀ s∈(yA g ps).2.1,textE s=0:=by
 unfold yA
 split
 .exact⟨λs h=>(by cases h),λs h=>(by cases h)⟩
 .have h:=M3 H (ps:=ps) (x:=[]) (y:=[]) (λs h=>(by cases h)) (λs h=>(by cases h))
  exact⟨h.1,λs hs=>text_of (h.2 s hs).1 (h.2 s hs).2⟩
theorem M4{g:Lang}:∀ {ps:List Prt} {x y:List ByteArray},(vf g ps x y).2.2=0->(vf g ps x y).1.length=x.length+ps.length
 | [],x,y,_=>rfl
 |p::ps,x,y,h=>by
  unfold vf at h ⊢;split at h
  .rename_i H;exact absurd h H
  .rename_i H
   rw[if_neg H,M4 h];simp only[List.length_append,List.length_cons,List.length_nil];omega
theorem zdh{g:Lang}{ps:List Prt}(h:(yA g ps).2.2=0):(yA g ps).1.length=ps.length/\ps.length<=4:=by
 unfold yA at h ⊢
 split at h
 .rename_i H;exact absurd h H
 .rename_i H
  rw[if_neg H,M4 h];refine⟨by simp,?_⟩
  rw[ne_eq,Classical.not_not] at H;unfold vK at H;split at H
  .cases H
  .split at H
   .cases H
   .omega
end Go.V.Doc
namespace Go.V.Doc
open Go Go.Proofs
section
variable {d:Dc} {w nx:Int} {F G:List ByteArray}
theorem F7(h:Fw d):Fw (xr d w) where
 n:=Nat.lt_of_le_of_lt (List.length_filter_le _ _) h.n
 k:=λid t=>Nat.lt_of_le_of_lt (List.Sublist.length_le (List.filter_sublist.filter _)) (h.k id t)
theorem zmf(h:Rgt d)(E:yw d=true)(K:Fw d)(J:qG (zM d w) nx (2*F.length)=false)(L:F.length<=4):Fw (yR d w nx F G) where
 n:=by
  show(jf _).length<2^40
  have:=(F7 (w:=w) K).n
  have:(zM d w).length<=d.notes.length:=List.length_filter_le _ _
  have:=h.few
  rw[JH,List.length_append,Xe];omega
 k:=λid t=>by
  have M:=Zs h E;show((jf (zM d w++xk d w nx F G F.length)).filter (yq d id t)).length<20
  rw[((JI (zM d w++xk d w nx F G F.length)).filter _).length_eq,List.filter_append,List.length_append];have O:=(F7 (w:=w) K).k id t;have O:((zM d w).filter (yq d id t)).length<20:=O
  have Q:((xk d w nx F G F.length).filter (yq d id t)).length<=8:=Nat.le_trans (List.length_filter_le _ _) (by rw[Xe];omega)
  cases T:(xk d w nx F G F.length).filter (yq d id t) with
  |nil=>simpa using O
  |cons n l=>
   rw[<-T];obtain⟨m1,m2⟩:=List.mem_filter.1 (show n∈(xk d w nx F G F.length).filter (yq d id t) by rw[T];exact List.mem_cons_self)
   have e0:(zM d w).filter (yq d id t)=[]:=by
    rw[List.filter_eq_nil_iff];intro m H V;unfold yq at V m2;simp only[Bool.and_eq_true,decide_eq_true_eq] at V m2;obtain⟨i,hi,rfl | rfl⟩:=jD.1 m1
    .exact Vf h H (V.1.1.1.trans m2.1.1.1.symm) (V.1.1.2.trans m2.1.1.2.symm)
    .exact W7 h M J hi H (V.1.1.1.trans m2.1.1.1.symm) (V.1.1.2.trans m2.1.1.2.symm)
   rw[e0];simp only[List.length_nil];omega
end
structure Mid(d:Dc):Prop where
 r:Rgt d
 y:yw d=true
 w:Fw d
theorem Mid.clear{d:Dc}(h:Mid d)(w:Int):Mid (xr d w):=⟨IU h.r,h.y,F7 h.w⟩
theorem Xj{d:Dc}{g:Lang}{w:Int}{ps:List Prt}{nx:Int}(H:(xy d g w ps nx).2=0):
  (je d w).2=0/\Vb g (zn d.notes w).1.text ps=true/\(yA g ps).2.2=0/\Xf (yA g ps).1=false/\(1<=nx/\nx<=1099511627768)/\qG (zM d w) nx (2*(yA g ps).1.length)=false/\(zM d w).length+2*(yA g ps).1.length<=300 /\
   (xy d g w ps nx).1=yR d w nx (yA g ps).1 (yA g ps).2.1:=by
 unfold xy at H ⊢
 split at H
 .rename_i h;exact absurd H h
 rename_i G
 rw[if_neg G]
 split at H
 .cases H
 rename_i F
 rw[if_neg F]
 split at H
 .rename_i h;exact absurd H h
 rename_i E
 rw[if_neg E]
 split at H
 .cases H
 rename_i K
 rw[if_neg K]
 split at H
 .cases H
 rename_i J
 rw[if_neg J]
 split at H
 .cases H
 rename_i L
 rw[if_neg L]
 split at H
 .cases H
 rename_i M
 rw[if_neg M]
 exact⟨Classical.not_not.1 G,by simpa using F,Classical.not_not.1 E,by simpa using K,⟨by omega,by omega⟩,by simpa using L,by omega,rfl⟩
theorem zdi{d:Dc}{w:Int}(h:(je d w).2=0):yw d=true/\yy d w=true:=by
 unfold je at h
 split at h
 .cases h
 .split at h
  .cases h
  .rename_i H G
   exact⟨by simpa using H,by simpa using G⟩
theorem Mid.fill{d:Dc}(h:Mid d){g:Lang}(H:LightF g){w:Int}{ps:List Prt}{nx:Int}(G:(xy d g w ps nx).2=0):Mid (xy d g w ps nx).1:=by
 obtain⟨c1,c2,c3,c4,c5,c6,c7,c8⟩:=Xj G
 obtain⟨_,F⟩:=zdi c1
 obtain⟨l1,l2⟩:=zdh c3
 obtain⟨t1,t2⟩:=zfg H ps
 have hs:=F2 g ps
 rw[c8]
 refine⟨zkl h.r h.y F (λs hs=>text_of (t1 s hs) ?_) t2 hs c5.1 (by omega) c6 c7,h.y,zmf h.r h.y h.w c6 (by omega)⟩
 unfold Xf at c4
 have:=List.any_eq_false.1 c4 s hs
 simpa using this
end Go.V.Doc
namespace Go.V
open Go Go.Proofs
def xA(d x:Dec):Bool:=d.yes&&(x.yes&&decide (d.ref=x.ref))
theorem Yj{a b:Rf}:a=b↔a.rcd=b.rcd/\a.note=b.note:=by cases a;cases b;simp
def vF(a b:Dec):Bool:=if a.ref.rcd=b.ref.rcd then (if a.ref.note=b.ref.note then yh a.pick b.pick else decide (a.ref.note<b.ref.note)) else decide (a.ref.rcd<b.ref.rcd)
def Dec.fit(d:Dec):Prop:=d.pick.length<2^62
theorem zhu(a b:Dec)(H:a.fit)(G:b.fit):zl Tryz.prog 118 [.agg a.row,.agg b.row] (.bool (vF a b)):=by
 refine zp mixed Tryz.func118 rfl c_118 ?_
 simp+decide[Tryz.f118,Dec.row,int,vF]
 refine⟨λh F=>absurd F h,λh=>⟨λh2=>?_,λh2=>?_⟩⟩
 .rw[if_pos h,if_neg h2]
 .refine zh (RS a.pick b.pick H G) ?_
  simp[if_pos h,if_pos h2]
def cmpD(a b:Dec):Int:=if Bf a.ref b.ref=0 then (if yh a.pick b.pick=true then -1 else if yh b.pick a.pick=true then 1 else 0) else Bf a.ref b.ref
def isId(n:Int):Bool:=decide (1<=n)&&decide (n<=1099511627776)
theorem M5(n:Int):zl Tryz.prog 117 [int n] (.bool (isId n)):=by
 refine zp mixed Tryz.func117 rfl c_117 ?_
 simp+decide[Tryz.f117,int,isId]
 omega
def kh{α:Type}(p:α->Bool)(l:List α):Int:=match l.findIdx? p with
 |some k=>k
 |none=>-1
theorem M6{α:Type}{p:α->Bool}{l:List α}{k:Nat}(h:k<l.length)(H:∀ e∈l.take k,p e=false)(G:p l[k]=true):l.findIdx? p=some k:=by
 rw[List.findIdx?_eq_some_iff_getElem]
 refine⟨h,G,λj hj=>?_⟩
 have:=H l[j] (by rw[List.mem_take_iff_getElem];exact⟨j,by omega,rfl⟩)
 simpa using this
theorem F8{α:Type}{p:α->Bool}{l:List α}(H:∀ e∈l,p e=false):l.findIdx? p=none:=by
 rw[List.findIdx?_eq_none_iff];exact H
theorem zhv(l:List Dec)(G:l.length<2^62)(f:Nat)(caps:List D)(p:Dec->Bool)(F:∀ x∈l,zl Tryz.prog f (.agg x.row::caps) (.bool (p x))):
  zl Tryz.prog 241 [zE l,.fn f caps] (int (kh p l)):=by
 refine zp mixed Tryz.func241 rfl c_241 ?_
 simp[Tryz.f241,zE]
 refine zu mixed (λk:Nat=>{n:=19,next:=0,slots:=[(0,.d (zE l)),(1,.d (.fn f caps)),(6,.d (zE l)),(7,.d (.int .i64 l.length)),(8,.d (.int .i64 k))],own:=[]})
  (λk=>k<=l.length/\∀ e∈l.take k,p e=false) (λk=>l.length-k) 0 (by simp) (by simp[zE]) ?_
 intro k ⟨E,K⟩
 by_cases H:k<l.length
 .have e1:l[k]?=some l[k]:=List.getElem?_eq_getElem H
  simp+decide[zE,Dec.row,int,H];refine zG.pure (lent:=false) (by simp[jZ,Up];rfl) (F l[k] (List.getElem_mem H)) (by simp) ?_
  simp+decide[I64];refine⟨λh=>?_,λh=>⟨by omega,k+1,⟨H,uh H K h⟩,by omega,by omega⟩⟩
  simp[kh,M6 H K h]
 .have:k=l.length:=by omega
  subst this;simp+decide[zE,int];simp[kh,F8 (by simpa using K)]
theorem zkm{α:Type}(p:α->Bool)(l:List α):decide (0<=kh p l)=l.any p:=by
 unfold kh
 cases h:l.findIdx? p with
 |none=>
  rw[List.findIdx?_eq_none_iff] at h;have:l.any p=false:=by rw[List.any_eq_false];intro x H;rw[h x H];simp
  rw[this];rfl
 |some k=>
  rw[List.findIdx?_eq_some_iff_getElem] at h;obtain⟨G,F,_⟩:=h;rw[List.any_eq_true.2 ⟨_,List.getElem_mem G,F⟩];simp
theorem zbw(l:List Dec)(H:l.length<2^62)(f:Nat)(caps:List D)(p:Dec->Bool)(G:∀ x∈l,zl Tryz.prog f (.agg x.row::caps) (.bool (p x))):
  zl Tryz.prog 219 [zE l,.fn f caps] (.bool (l.any p)):=by
 refine zp mixed Tryz.func219 rfl c_219 ?_
 simp[Tryz.f219,zE]
 refine zh (zhv l H f caps p G) ?_
 simp[int,<-zkm]
def qH(l:List Dec)(k:Nat):Option Int:=match l[k]? with
 |none=>none
 |some d=>if isId d.ref.rcd=true then (if isId d.ref.note=true then (if d.pick.length=0 then some 4 else if d.pick.length>4 then some 11
   else if (decide (0<k)&&match l[k-1]? with | some c=>!vF c d | none=>false)=true then some 10
   else if (l.take k).any (xA d)=true then some 8 else none) else some 2) else some 2
def wL(l:List Dec):Int:=((List.range l.length).findSome? (qH l)).getD 0
theorem F9{l:List Dec}{k:Nat}{e:Int}(h:k<l.length)(G:∀ j,j<k->qH l j=none)(F:qH l k=some e):wL l=e:=by
 unfold wL
 have:(List.range l.length).findSome? (qH l)=some e:=by
  rw[List.findSome?_eq_some_iff];refine⟨List.range k,k,(List.range' (k+1) (l.length-(k+1))),?_,F,λa E=>G a (List.mem_range.1 E)⟩
  obtain⟨m,K⟩:∃ m,l.length=k+(1+m):=⟨l.length-(k+1),by omega⟩
  have H:l.length-(k+1)=m:=by omega
  rw[H,K,List.range_eq_range',List.range_eq_range',<-List.range'_append,<-List.range'_append];simp
 rw[this];rfl
theorem M7{l:List Dec}(H:∀ j,j<l.length->qH l j=none):wL l=0:=by
 unfold wL
 have:(List.range l.length).findSome? (qH l)=none:=by
  rw[List.findSome?_eq_none_iff];intro a G;exact H a (List.mem_range.1 G)
 rw[this];rfl
theorem M8{p:Nat->Prop}{k:Nat}(h:∀ j,j<k->p j)(H:p k):∀ j,j<k+1->p j:=by
 intro j hj
 rcases Nat.lt_or_ge j k with G | G
 .exact h j G
 .have:j=k:=by omega
  subst this;exact H
def W8(l:List Dec):Prop:=∀ d∈l,d.fit
theorem UL(l:List Dec)(A:l.length<2^62)(B:W8 l):zl Tryz.prog 63 [zE l] (int (wL l)):=by
 refine zp mixed Tryz.func63 rfl c_63 ?_
 simp[Tryz.f63,zE]
 refine zu mixed (λk:Nat=>{n:=74,next:=0,slots:=[(0,.d (zE l)),(6,.d (zE l)),(7,.d (.int .i64 l.length)),(8,.d (.int .i64 k))],own:=[]})
  (λk=>k<=l.length/\∀ j,j<k->qH l j=none) (λk=>l.length-k) 0 (by simp) (by simp[zE]) ?_
 intro k ⟨C,I⟩
 by_cases E:k<l.length
 .have e1:l[k]?=some l[k]:=List.getElem?_eq_getElem E
  have L:=λe=>F9 (e:=e) E I
  simp only[qH,e1] at L;have X:l[k].fit:=B _ (List.getElem_mem E)
  have Z:∀ e∈l,e.row.length=4:=λe _=>rfl
  simp+decide[zE,Dec.row,int,E];refine zh (M5 l[k].ref.rcd) ?_
  cases N:isId l[k].ref.rcd
  .simp+decide[L 2 (by simp[N])]
  simp+decide
  refine zh (M5 l[k].ref.note) ?_
  cases P:isId l[k].ref.note
  .simp+decide[L 2 (by simp[N,P])]
  simp+decide[zm];by_cases S:l[k].pick=[]
  .simp+decide[S,L 4 (by simp[N,P,S])]
  simp+decide[S];by_cases W:l[k].pick.length>4
  .have O:(4:Int)<(l[k].pick.length:Int):=by omega
   have Q:¬(l[k].pick.length:Int)<=4:=by omega
   simp+decide[O,Q,L 11 (by simp[N,P,S,W])]
  have O:¬(4:Int)<(l[k].pick.length:Int):=by omega
  have Q:(l[k].pick.length:Int)<=4:=by omega
  simp+decide[O,Q];by_cases T:0<k
  .have hj:k-1<l.length:=by omega
   have e0:l[k-1]?=some l[k-1]:=List.getElem?_eq_getElem hj
   have Y:l[k-1].fit:=B _ (List.getElem_mem hj)
   have M:¬k=0:=by omega
   simp+decide[e0,I64,Dec.row,T,M];refine⟨by omega,by omega,scp (zhu l[k-1] l[k] Y X) ?_⟩
   cases h5:vF l[k-1] l[k]
   .simp+decide[int,L 10 (by simp[N,P,S,W,e0,h5,T])]
   simp+decide[int];have G:(decide (0<k)&&match l[k-1]? with | some c=>!vF c l[k] | none=>false)=false:=by simp[e0,h5]
   refine zu mixed (λm:Nat=>{n:=74,next:=1,slots:=[(0,.d (zE l)),(3,.d (.int .i64 k)),(4,.bp 0 0),(5,.d (.int .i64 m)),(6,.d (zE l)),(7,.d (.int .i64 l.length)),(8,.d (.int .i64 k))],own:=[(0,.box 139 [.d (int l[k].ref.rcd),.d (int l[k].ref.note),.d (.bool l[k].yes),.d (zm l[k].pick)])]})
    (λm=>m<=k/\∀ e∈l.take m,xA l[k] e=false) (λm=>k-m) 0 (by simp) (by simp[zE,int,zm]) ?_
   intro m ⟨hm,hq⟩;by_cases H:m<k
   .have F:m<l.length:=by omega
    have e2:l[m]?=some l[m]:=List.getElem?_eq_getElem F
    have K:xA l[k] l[m]=true->qH l k=some 8:=by
     intro h;have:(l.take k).any (xA l[k])=true:=List.any_eq_true.2 ⟨l[m],by rw[List.mem_take_iff_getElem];exact⟨m,by omega,rfl⟩,h⟩
     simp[qH,e1,N,P,S,W,G,this]
    have J:xA l[k] l[m]=false->∀ e∈l.take (m+1),xA l[k] e=false:=λh=>uh F hq h
    cases y1:l[k].yes
    .simp+decide[H,int,I64,zE,zm]
     exact⟨by omega,m+1,⟨H,J (by simp[xA,y1])⟩,by omega,by omega⟩
    .cases y2:l[m].yes
     .simp+decide[H,F,Dec.row,int,I64,zE,zm,y2]
      exact⟨by omega,m+1,⟨H,J (by simp[xA,y2])⟩,by omega,by omega⟩
     .simp+decide[H,F,Dec.row,int,I64,zE,zm,y2]
      refine⟨λg1 g2=>(F9 E I (K (by simp[xA,y1,y2,Yj,g1,g2]))).symm,λg=>⟨by omega,m+1,⟨H,J ?_⟩,by omega,by omega⟩⟩
      simp[xA,y1,y2,Yj];exact λe3 e4=>g e3.symm e4.symm
   .have:m=k:=by omega
    subst this;have V:(l.take m).any (xA l[m])=false:=by rw[List.any_eq_false];intro x hx;rw[hq x hx];simp
    simp+decide[int,I64,zE,zm];refine⟨by omega,m+1,⟨E,M8 I ?_⟩,by omega,by omega⟩
    simp[qH,e1,N,P,S,W,G,V]
  .have M:k=0:=by omega
   simp+decide[M];have G:(decide (0<k)&&match l[k-1]? with | some c=>!vF c l[k] | none=>false)=false:=by simp[T]
   refine zu mixed (λm:Nat=>{n:=74,next:=1,slots:=[(0,.d (zE l)),(3,.d (.int .i64 k)),(4,.bp 0 0),(5,.d (.int .i64 m)),(6,.d (zE l)),(7,.d (.int .i64 l.length)),(8,.d (.int .i64 k))],own:=[(0,.box 139 [.d (int l[k].ref.rcd),.d (int l[k].ref.note),.d (.bool l[k].yes),.d (zm l[k].pick)])]})
    (λm=>m<=k/\∀ e∈l.take m,xA l[k] e=false) (λm=>k-m) 0 (by simp) (by simp[zE,int,zm,M]) ?_
   intro m ⟨hm,hq⟩;by_cases H:m<k
   .have F:m<l.length:=by omega
    have e2:l[m]?=some l[m]:=List.getElem?_eq_getElem F
    have K:xA l[k] l[m]=true->qH l k=some 8:=by
     intro h;have:(l.take k).any (xA l[k])=true:=List.any_eq_true.2 ⟨l[m],by rw[List.mem_take_iff_getElem];exact⟨m,by omega,rfl⟩,h⟩
     simp[qH,e1,N,P,S,W,G,this]
    have J:xA l[k] l[m]=false->∀ e∈l.take (m+1),xA l[k] e=false:=λh=>uh F hq h
    cases y1:l[k].yes
    .simp+decide[H,int,I64,zE,zm]
     exact⟨by omega,m+1,⟨H,J (by simp[xA,y1])⟩,by omega,by omega⟩
    .cases y2:l[m].yes
     .simp+decide[H,F,Dec.row,int,I64,zE,zm,y2]
      exact⟨by omega,m+1,⟨H,J (by simp[xA,y2])⟩,by omega,by omega⟩
     .simp+decide[H,F,Dec.row,int,I64,zE,zm,y2]
      refine⟨λg1 g2=>(F9 E I (K (by simp[xA,y1,y2,Yj,g1,g2]))).symm,λg=>⟨by omega,m+1,⟨H,J ?_⟩,by omega,by omega⟩⟩
      simp[xA,y1,y2,Yj];exact λe3 e4=>g e3.symm e4.symm
   .have:m=k:=by omega
    subst this;have V:(l.take m).any (xA l[m])=false:=by rw[List.any_eq_false];intro x hx;rw[hq x hx];simp
    simp+decide[int,I64,zE,zm];refine⟨by omega,m+1,⟨E,M8 I ?_⟩,by omega,by omega⟩
    simp[qH,e1,N,P,S,W,G,V]
 .have:k=l.length:=by omega
  subst this;simp+decide[zE,int];rw[M7 (by simpa using I)]
@[simp] theorem znf(d:Dec):d.row.length=4:=rfl
def vT(l:List Dec)(r:Rf):List Prt×Bool:=match l.find? (λd=>decide (d.ref=r)&&d.yes) with
 |some d=>(d.pick,true)
 |none=>([],false)
theorem zkn{α:Type}{p:α->Bool}{l:List α}{k:Nat}(h:k<l.length)(H:∀ e∈l.take k,p e=false)(G:p l[k]=true):l.find? p=some l[k]:=by
 rw[List.find?_eq_some_iff_getElem]
 refine⟨G,k,h,rfl,λj hj=>?_⟩
 have:=H l[j] (by rw[List.mem_take_iff_getElem];exact⟨j,by omega,rfl⟩)
 simpa using this
theorem zhw{α:Type}{p:α->Bool}{l:List α}(H:∀ e∈l,p e=false):l.find? p=none:=by
 rw[List.find?_eq_none];intro e G;simpa using H e G
theorem zhx(l:List Dec)(r:Rf)(F:l.length<2^62):zl Tryz.prog 182 [zE l,YP r] (.tup [zZ (vT l r).1,.bool (vT l r).2]):=by
 refine zp mixed Tryz.func182 rfl c_182 ?_
 simp[Tryz.f182,zE,YP,Rf.row,int,Value.oneCell']
 refine zu mixed (λk:Nat=>{n:=26,next:=2,slots:=[(3,.bp 0 0),(4,.bp 1 0),(8,.d (zE l)),(9,.d (.int .i64 l.length)),(10,.d (.int .i64 k))],own:=[(0,.box 78 [.d (int r.rcd),.d (int r.note)]),(1,.box 39 [.nils])]})
  (λk=>k<=l.length/\∀ e∈l.take k,(decide (e.ref=r)&&e.yes)=false) (λk=>l.length-k) 0 (by simp) (by simp[zE,int]) ?_
 intro k ⟨E,K⟩
 by_cases H:k<l.length
 .have e1:l[k]?=some l[k]:=List.getElem?_eq_getElem H
  have G:(decide (l[k].ref=r)&&l[k].yes)=false->∀ e∈l.take (k+1),(decide (e.ref=r)&&e.yes)=false:=λh=>uh H K h
  by_cases g:l[k].ref=r
  .have g':=Yj.1 g
   cases y:l[k].yes
   .simp+decide[zE,Dec.row,int,H,I64,g'.1,g'.2,y]
    exact⟨by omega,k+1,⟨H,by simpa using G (by simp[y])⟩,by omega,by omega⟩
   .have J:=zkn H K (by simp[g,y])
    simp+decide[zE,Dec.row,int,H,g'.1,g'.2,y,vT,J,zZ]
  .have g':l[k].ref.rcd=r.rcd->¬l[k].ref.note=r.note:=λa b=>g (Yj.2 ⟨a,b⟩)
   by_cases g1:l[k].ref.rcd=r.rcd
   .have g2:=g' g1
    simp+decide[zE,Dec.row,int,H,I64,g1,g2];exact⟨by omega,k+1,⟨H,by simpa using G (by simp[g])⟩,by omega,by omega⟩
   .simp+decide[zE,Dec.row,int,H,I64,g1]
    exact⟨by omega,k+1,⟨H,by simpa using G (by simp[g])⟩,by omega,by omega⟩
 .have:k=l.length:=by omega
  subst this;rw[List.take_length] at K;have J:=zhw K;simp+decide[zE,int,vT,J,zZ,zm]
theorem W9{α:Type}{p:α->Bool}{l:List α}{k:Nat}(h:k<l.length):(l.take (k+1)).filter p=(l.take k).filter p++(if p l[k]=true then [l[k]] else []):=by
 rw[take_snoc h,List.filter_append]
 congr 1
 simp[List.filter_cons]
theorem zfh{α:Type}(p:α->Bool)(l:List α)(k:Nat):((l.take k).filter p).length<=l.length:=by
 have H:=List.length_filter_le p (l.take k)
 have G:=List.length_take_le k l
 simp only[List.length_take] at H
 omega
theorem zba{α:Type}{l:List α}{i:Nat}(v:α)(h:i<l.length):(l.set i v).take (i+1)=l.take i++[v]:=by
 have H:i<(l.set i v).length:=by simpa using h
 rw[take_snoc H,List.getElem_set_self]
 congr 1
 apply List.ext_getElem?
 intro j
 simp only[List.getElem?_take,List.getElem?_set]
 by_cases hj:j<i
 .rw[if_pos hj,if_pos hj,if_neg (by omega)]
 .rw[if_neg hj,if_neg hj]
theorem zdj{α:Type}{l:List α}{i j:Nat}(v:α)(h:i<j):(l.set i v).drop j=l.drop j:=by
 apply List.ext_getElem?
 intro k
 simp only[List.getElem?_drop,List.getElem?_set]
 rw[if_neg (by omega)]
theorem zfi{P:Program}(F:P.follows .mixedOrders=true){id:Nat}{ops:List Oper}{st:St}{Q:DE->St->Prop}(H:ops≠[])(K:yU ops=true)(E:j8 ops (ops.length-1)=true)(L:(ops.getLast H).guard=none)
  (G:(st.own.map (·.1)).Nodup) (h:YB P ops st.next (ops.getLast H) ops.dropLast st (Q .normal)):Triple P (.region id ops.toArray true) Q st:=by
 obtain⟨pre,o,rfl⟩:∃ pre o,ops=pre++[o]:=⟨ops.dropLast,ops.getLast H,(List.dropLast_concat_getLast H).symm⟩
 have J:(pre++[o]).getLast H=o:=by simp
 rw[J] at L h
 rw[List.dropLast_concat] at h
 refine P3 F K ?_ L G h
 simpa using E
def M9(d x:Dec):Bool:=decide (cmpD x d=0) || xA d x
theorem zbx{a b c:Prt}(h:qy a b=true)(H:qy b c=true):qy a c=true:=by
 unfold qy at h H ⊢
 by_cases e1:a.entry=b.entry <;> by_cases e2:b.entry=c.entry <;> by_cases e3:a.alt=b.alt <;> by_cases e4:b.alt=c.alt <;>
  by_cases e5:a.entry=c.entry <;> by_cases e6:a.alt=c.alt <;> simp only[e1,e2,e3,e4,e5,e6,if_true,if_false,decide_eq_true_eq] at h H ⊢ <;> first | omega | (simp_all;omega) | simp_all
theorem zby(a:Prt):qy a a=false:=by simp[qy]
theorem Mc:∀ {a b c:List Prt},yh a b=true->yh b c=true->yh a c=true
 |_,[],_,h,_=>by simp[yh] at h
 |_,_::_,[],_,h=>by simp[yh] at h
 | [],_::_,_::_,_,_=>by simp[yh]
 |x::a,y::b,z::c,h,H=>by
  simp only[yh] at h H ⊢;by_cases e1:x=y
  .subst e1
   rw[if_pos rfl] at h;by_cases e2:x=z
   .subst e2
    rw[if_pos rfl] at H ⊢;exact Mc h H
   .rw[if_neg e2] at H ⊢;exact H
  .rw[if_neg e1] at h
   by_cases e2:y=z
   .subst e2;rw[if_neg e1];exact h
   .rw[if_neg e2] at H
    have G:=zbx h H;have e3:¬x=z:=by intro e;subst e;rw[zby] at G;cases G
    rw[if_neg e3];exact G
theorem zdk{a b c:Dec}(h:vF a b=true)(H:vF b c=true):vF a c=true:=by
 unfold vF at h H ⊢
 by_cases e1:a.ref.rcd=b.ref.rcd
 .by_cases e2:b.ref.rcd=c.ref.rcd
  .rw[if_pos e1] at h;rw[if_pos e2] at H;rw[if_pos (e1.trans e2)]
   by_cases e3:a.ref.note=b.ref.note
   .by_cases e4:b.ref.note=c.ref.note
    .rw[if_pos e3] at h;rw[if_pos e4] at H;rw[if_pos (e3.trans e4)]
     exact Mc h H
    .rw[if_neg e4] at H;rw[if_neg (λe=>e4 (e3.symm.trans e))]
     simp only[decide_eq_true_eq] at H ⊢;omega
   .rw[if_neg e3] at h
    simp only[decide_eq_true_eq] at h;by_cases e4:b.ref.note=c.ref.note
    .rw[if_neg (λe=>e3 (e.trans e4.symm))];simp only[decide_eq_true_eq];omega
    .rw[if_neg e4] at H
     simp only[decide_eq_true_eq] at H;rw[if_neg (by omega)];simp only[decide_eq_true_eq];omega
  .rw[if_neg e2] at H;rw[if_neg (λe=>e2 (e1.symm.trans e))]
   simp only[decide_eq_true_eq] at H ⊢;omega
 .rw[if_neg e1] at h
  simp only[decide_eq_true_eq] at h;by_cases e2:b.ref.rcd=c.ref.rcd
  .rw[if_neg (λe=>e1 (e.trans e2.symm))];simp only[decide_eq_true_eq];omega
  .rw[if_neg e2] at H
   simp only[decide_eq_true_eq] at H;rw[if_neg (by omega)];simp only[decide_eq_true_eq];omega
theorem zbz(a:Dec):vF a a=false:=by simp[vF,CB]
theorem zfj{l:List Dec}{k:Nat}{e:Int}(h:qH l k=some e):e≠0:=by
 unfold qH at h
 split at h
 .cases h
 .repeat' split at h
  all_goals first | (cases h;decide) | cases h
theorem Md{l:List Dec}(h:wL l=0):∀ k,k<l.length->qH l k=none:=by
 unfold wL at h
 cases H:(List.range l.length).findSome? (qH l) with
 |none=>
  rw[List.findSome?_eq_none_iff] at H;intro k G;exact H k (List.mem_range.2 G)
 |some e=>
  rw[H] at h;obtain⟨k,_,G⟩:=List.exists_of_findSome?_eq_some H;exact absurd h (zfj G)
structure AtOk(l:List Dec)(k:Nat)(h:k<l.length):Prop where
 rcd:isId l[k].ref.rcd=true
 note:isId l[k].ref.note=true
 ne:l[k].pick.length≠0
 le:l[k].pick.length<=4
 less:∀ j (hj:j+1=k),vF (l[j]'(by omega)) l[k]=true
 riv:(l.take k).any (xA l[k])=false
theorem Fa{l:List Dec}{k:Nat}(h:k<l.length):qH l k=none↔AtOk l k h:=by
 have e1:l[k]?=some l[k]:=List.getElem?_eq_getElem h
 constructor
 .intro hc
  unfold qH at hc;rw[e1] at hc;simp only at hc
  by_cases g1:isId l[k].ref.rcd=true
  .rw[if_pos g1] at hc
   by_cases g2:isId l[k].ref.note=true
   .rw[if_pos g2] at hc
    by_cases g3:l[k].pick.length=0
    .rw[if_pos g3] at hc;cases hc
    .rw[if_neg g3] at hc
     by_cases g4:l[k].pick.length>4
     .rw[if_pos g4] at hc;cases hc
     .rw[if_neg g4] at hc
      cases k with
      |zero=>exact⟨g1,g2,g3,by omega,λj hj=>by omega,by simp⟩
      |succ j=>
       have H:j<l.length:=by omega
       have e0:l[j]?=some l[j]:=List.getElem?_eq_getElem H
       simp only[Nat.add_sub_cancel,e0,Nat.zero_lt_succ,decide_true,Bool.true_and] at hc;by_cases g5:(!vF l[j] l[j+1])=true
       .rw[if_pos g5] at hc;cases hc
       .rw[if_neg g5] at hc
        by_cases g6:(l.take (j+1)).any (xA l[j+1])=true
        .rw[if_pos g6] at hc;cases hc
        .refine⟨g1,g2,g3,by omega,λj' hj=>?_,by simpa using g6⟩
         have:j'=j:=by omega
         subst this;simpa using g5
   .rw[if_neg g2] at hc;cases hc
  .rw[if_neg g1] at hc;cases hc
 .intro⟨F,E,K,J,L,M⟩
  have G:¬l[k].pick.length>4:=by omega
  cases k with
  |zero=>simp only[qH,e1,F,E,K,G,M,if_true,if_false];simp
  |succ j=>
   have H:j<l.length:=by omega
   have e0:l[j]?=some l[j]:=List.getElem?_eq_getElem H
   simp only[qH,e1,F,E,K,G,M,if_true,if_false,Nat.add_sub_cancel,e0,L j rfl];simp
def Vg(l:List Dec):Prop:=l.Pairwise (λa b=>vF a b=true)
theorem zhy{l:List Dec}(h:∀ k (G:k+1<l.length),vF l[k] l[k+1]=true):Vg l:=by
 unfold Vg
 rw[List.pairwise_iff_getElem]
 intro i j hi hj H
 induction j with
 |zero=>omega
 |succ j ih=>
  by_cases e:i=j
  .subst e;exact h i hj
  .exact zdk (ih (by omega) (by omega)) (h j hj)
theorem zbb{l:List Dec}(h:wL l=0):Vg l:=zhy λk H=>((Fa H).1 (Md h (k+1) H)).less k rfl
def zop(d:Dec)(l:List Dec):List Dec:=l.filter λx=>!M9 d x&&vF x d
def zoq(d:Dec)(l:List Dec):List Dec:=l.filter λx=>!M9 d x && !vF x d
def H3(l:List Dec)(d:Dec):List Dec:=if wL [d]=0 then zop d l++d::zoq d l else l
theorem zdl(x y:Dec):xA x y=xA y x:=by
 unfold xA
 have:decide (x.ref=y.ref)=decide (y.ref=x.ref):=by rw[Bool.eq_iff_iff];simp[eq_comm]
 rw[this];cases x.yes <;> cases y.yes <;> simp
structure GoodD(x:Dec):Prop where
 rcd:isId x.ref.rcd=true
 note:isId x.ref.note=true
 ne:x.pick.length≠0
 le:x.pick.length<=4
theorem zfk(l:List Dec):wL l=0↔(∀ x∈l,GoodD x)/\Vg l/\∀ x∈l,∀ y∈l,x≠y->xA x y=false:=by
 constructor
 .intro h
  have at':=λk (E:k<l.length)=>(Fa E).1 (Md h k E)
  refine⟨λx K=>?_,zbb h,λx K y J H=>?_⟩
  .obtain⟨k,E,rfl⟩:=List.mem_iff_getElem.1 K
   have:=at' k E
   exact⟨this.rcd,this.note,this.ne,this.le⟩
  .obtain⟨i,hi,rfl⟩:=List.mem_iff_getElem.1 K
   obtain⟨j,hj,rfl⟩:=List.mem_iff_getElem.1 J;have key:∀ i j (hi:i<l.length) (hj:j<l.length),i<j->xA l[j] l[i]=false:=by
    intro i j hi hj F;have:=(at' j hj).riv
    rw[List.any_eq_false] at this;have:=this l[i] (by rw[List.mem_take_iff_getElem];exact⟨i,by omega,rfl⟩)
    simpa using this
   rcases Nat.lt_trichotomy i j with L | L | L
   .rw[zdl];exact key i j hi hj L
   .subst L;exact absurd rfl H
   .exact key j i hj hi L
 .rintro⟨L,M,O⟩
  refine M7 λk E=>(Fa E).2 ?_
  have Q:=L _ (List.getElem_mem E);unfold Vg at M;rw[List.pairwise_iff_getElem] at M;refine⟨Q.rcd,Q.note,Q.ne,Q.le,λj hj=>M j k (by omega) E (by omega),?_⟩
  rw[List.any_eq_false];intro y J;rw[List.mem_take_iff_getElem] at J;obtain⟨i,hi,rfl⟩:=J;have G:i<l.length:=by omega
  have H:l[k]≠l[i]:=by
   intro e;have:=M i k G E (by omega)
   rw[e,zbz] at this;cases this
  rw[O _ (List.getElem_mem E) _ (List.getElem_mem G) H];simp
def Wa(r:Rf)(q:List Prt)(d:Dec):Bool:=decide (d.ref=r)&&(!d.yes&&decide (d.pick=q))
def Wb(l:List Dec)(r:Rf)(q:List Prt):Bool:=l.any (Wa r q)
theorem zb0(d:Dec)(r:Rf)(q:List Prt)(H:q.length<2^62):zl Tryz.prog 220 [.agg d.row,.ptr [int r.rcd,int r.note],.ptr [zm q]] (.bool (Wa r q d)):=by
 refine zp mixed Tryz.func220 rfl c_220 ?_
 have G:=RN d.pick q H
 unfold Wa
 by_cases c1:d.ref.rcd=r.rcd
 .by_cases c2:d.ref.note=r.note
  .have c3:d.ref=r:=Yj.2 ⟨c1,c2⟩
   cases F:d.yes
   .simp+decide[Tryz.f220,Dec.row,int,c1,c2,c3,F]
    refine zh G ?_
    simp+decide
   .simp+decide[Tryz.f220,Dec.row,int,c1,c2,c3,F]
  .have c3:¬d.ref=r:=λe=>c2 (by rw[e])
   simp+decide[Tryz.f220,Dec.row,int,c1,c2,c3]
 .have c3:¬d.ref=r:=λe=>c1 (by rw[e])
  simp+decide[Tryz.f220,Dec.row,int,c1,c3]
theorem zdm(l:List Dec)(H:l.length<2^62)(r:Rf)(q:List Prt)(G:q.length<2^62):zl Tryz.prog 218 [zZ q,.ptr [zE l],.ptr [int r.rcd,int r.note]] (.bool (Wb l r q)):=by
 refine zp mixed Tryz.func218 rfl c_218 ?_
 have F:=zbw l H 220 [.ptr [int r.rcd,int r.note],.ptr [zm q]] (Wa r q) (λx _=>zb0 x r q G)
 simp+decide[Tryz.f218,zZ,int]
 refine zh F ?_
 simp+decide[Wb]
theorem zhz(l:List (List Prt))(F:l.length<2^62)(f:Nat)(caps:List D)(p:List Prt->Bool)(E:∀ x∈l,zl Tryz.prog f (zZ x::caps) (.bool (p x))):
  zl Tryz.prog 240 [xN l,.fn f caps] (int (kh p l)):=by
 refine zp mixed Tryz.func240 rfl c_240 ?_
 simp[Tryz.f240,xN]
 refine zu mixed (λk:Nat=>{n:=19,next:=0,slots:=[(0,.d (xN l)),(1,.d (.fn f caps)),(7,.d (.int .i64 l.length)),(8,.d (.int .i64 k))],own:=[]})
  (λk=>k<=l.length/\∀ e∈l.take k,p e=false) (λk=>l.length-k) 0 (by simp) (by simp[xN]) ?_
 intro k ⟨K,J⟩
 by_cases H:k<l.length
 .have e1:l[k]?=some l[k]:=List.getElem?_eq_getElem H
  have G:=E l[k] (List.getElem_mem H);simp+decide[xN,int,e1,H,I64];refine zG.pure (lent:=false) (by simp[jZ,Up,zZ]) G (by simp) ?_
  cases h:p l[k]
  .simp+decide[xN,int,I64]
   refine⟨by omega,k+1,⟨H,λe L=>?_⟩,by omega,by omega⟩
   rw[take_snoc H] at L;rcases List.mem_append.1 L with M | M
   .exact J e M
   .rw[List.mem_singleton] at M;rw[M,h]
  .simp+decide[kh,M6 H J h]
 .have:k=l.length:=by omega
  subst this;rw[List.take_length] at J;simp+decide[xN,int,kh,F8 J]
def rowA(q:List Prt):List D:=[zm q]
theorem zh0(l:List (List Prt))(H:l.length<2^40):uM Tryz.prog 217 [xN l] 39 1 (l.map rowA):=by
 refine VP mixed Tryz.func217 rfl c_217 (by simp[rowA]) ?_
 simp[Tryz.f217,xN,maxLen,rowA]
 omega
theorem zfl(l:List (List Prt))(hl:l.length<2^62)(f:Nat)(p:List Prt->Bool)(L:List Dec)(r:Rf)(hf:∀ x∈l,zl Tryz.prog f [zZ x,.ptr [zE L],.ptr [int r.rcd,int r.note]] (.bool (p x))):
  zI Tryz.prog 216 [.ar 0,.fn f [.bp 1 0,.bp 2 0]] [(0,.arr 39 1 (l.map rowA)),(1,.box 64 [.d (zE L)]),(2,.box 78 [.d (int r.rcd),.d (int r.note)])] 3
   (.d (.sl ((l.filter λq=>!p q).map rowA))) 3 [(1,.box 64 [.d (zE L)]),(2,.box 78 [.d (int r.rcd),.d (int r.note)])] []:=by
 refine zad mixed Tryz.func216 rfl c_216 [0] (by simp) ?_
 simp[Tryz.f216]
 refine zh (zhz l hl f [.ptr [zE L],.ptr [int r.rcd,int r.note]] p hf) ?_
 cases hi:l.findIdx? p with
 |none=>
  rw[List.findIdx?_eq_none_iff] at hi;have Z:(l.filter λd=>!p d)=l:=by rw[List.filter_eq_self];intro a ha;rw[hi a ha];rfl
  have E:kh p l = -1:=by simp[kh,F8 hi]
  simp+decide[E,int,Z];done
 |some k=>
  have E:kh p l=k:=by simp[kh,hi]
  rw[List.findIdx?_eq_some_iff_getElem] at hi;obtain⟨hk,A,Q⟩:=hi;have B:¬(k:Int) = -1:=by omega
  simp+decide[E,int,B,I64];refine⟨by omega,?_⟩
  have C:(l.take (k+1)).filter (λd=>!p d)=l.take k:=by
   rw[W9 hk,List.filter_eq_self.2]
   .simp[A]
   .intro a ha
    rw[List.mem_take_iff_getElem] at ha;obtain⟨j,hj,rfl⟩:=ha;have:=Q j (by omega)
    simpa using this
  refine zu mixed (λx:Nat×Nat×List (List Prt)=>{n:=42,next:=3,base:=3,slots:=[(0,.ar 0),(1,.fn f [.bp 1 0,.bp 2 0]),(5,.d (.int .i64 x.2.1)),(6,.d (.int .i64 x.1))],own:=[(0,.arr 39 1 (x.2.2.map rowA)),(1,.box 64 [.d (zE L)]),(2,.box 78 [.d (int r.rcd),.d (int r.note)])]})
   (λx=>x.2.2.length=l.length/\x.2.1<x.1/\x.1<=l.length/\x.2.2.take x.2.1=(l.take x.1).filter (λd=>!p d)/\x.2.2.drop x.1=l.drop x.1) (λx=>l.length-x.1) (k+1,k,l) (by simp[C];omega) (by simp[int]) ?_
  rintro⟨j,i,cur⟩ ⟨T,I,N,H,hdrop⟩
  simp only at T I N H hdrop
  by_cases K:j<l.length
  .have V:j<cur.length:=by omega
   have J:cur[j]=l[j]:=by
    have h1:cur.drop j=cur[j]::cur.drop (j+1):=List.drop_eq_getElem_cons V
    have h2:l.drop j=l[j]::l.drop (j+1):=List.drop_eq_getElem_cons K
    rw[h1,h2] at hdrop;exact(List.cons.inj hdrop).1
   have G:cur.drop (j+1)=l.drop (j+1):=by
    have:=congrArg (List.drop 1) hdrop
    rw[List.drop_drop,List.drop_drop] at this;exact this
   have e1:cur[j]?=some cur[j]:=List.getElem?_eq_getElem V
   have F:(j:Int)<cur.length:=by omega
   have P:zl Tryz.prog f [zZ cur[j],.ptr [zE L],.ptr [int r.rcd,int r.note]] (.bool (p l[j])):=by rw[J];exact hf l[j] (List.getElem_mem K)
   simp+decide[F,V,e1,rowA,int,I64];refine zh P ?_
   cases hp:p l[j]
   .have X:i<cur.length:=by omega
    have e2:cur[i]?=some cur[i]:=List.getElem?_eq_getElem X
    simp+decide[X,e2,rowA,int,I64];refine⟨by omega,by omega,j+1,i+1,cur.set i cur[j],⟨by simpa using T,by omega,K,?_,?_⟩,by omega,⟨by omega,by omega⟩,by simp[List.map_set,rowA,int]⟩
    .rw[zba _ X,W9 K,H,J];simp[hp]
    .rw[zdj _ (by omega)];exact G
   .simp+decide[int,I64]
    refine⟨by omega,j+1,i,cur,⟨T,by omega,K,?_,G⟩,by omega,⟨by omega,by omega⟩,rfl⟩
    rw[W9 K,H];simp[hp]
  .have hj:j=l.length:=by omega
   subst hj;have F:¬(l.length:Int)<cur.length:=by omega
   have S:¬(i:Int)=(cur.length:Int):=by omega
   have M:(cur.map rowA).take i=(l.filter λd=>!p d).map rowA:=by
    rw[<-List.map_take,H,List.take_length]
   have Y:((l.filter λd=>!p d).map rowA).length=i:=by rw[<-M];simp;omega
   by_cases W:i=0
   .subst W
    have H0:¬(0:Int)=(cur.length:Int):=by omega
    simp+decide[F,int,I64,H0];have O:l.filter (λd=>!p d)=[]:=List.eq_nil_of_length_eq_zero (by simpa using Y)
    rw[List.filter_eq_nil_iff] at O;intro a ha;simpa using O a ha
   .have H1:¬(0:Int)=(i:Int):=by omega
    simp+decide[F,int,I64,S,H1];refine⟨by omega,by omega,by omega,?_⟩
    rw[M];rw[if_pos]
    .congr 2
     rw[List.take_append_of_le_length (by omega),List.take_of_length_le (by omega)]
    .refine⟨by omega,?_⟩
     cases hF:(l.filter λd=>!p d) with
     |nil=>rw[hF] at Y;simp at Y;omega
     |cons c0 cs=>rfl
def kW(g:Lang)(r:Rf)(s:ByteArray)(l:List Dec):List (List Prt)×Int:=if (uD g s).2≠0 then ([],(uD g s).2) else ((uD g s).1.filter λq=>!Wb l r q,0)
theorem zko{g:Lang}(H:LightF g)(r:Rf)(s:ByteArray)(l:List Dec):(kW g r s l).1.length<=200/\∀ q∈(kW g r s l).1,q.length<=4:=by
 have h:=IJ H s
 unfold kW
 split
 .exact⟨Nat.zero_le _,λq G=>by cases G⟩
 .exact⟨Nat.le_trans (List.length_filter_le ..) h.1,λq G=>h.2 q (List.mem_filter.1 G).1⟩
theorem zfm(g:Lang)(G:LightF g)(F:LangC g)(r:Rf)(s:ByteArray)(hs:s.size<=1024)(l:List Dec)(E:l.length<2^40):
  zl Tryz.prog 183 [g.d,YP r,.str s,zE l] (.tup [xN (kW g r s l).1,int (kW g r s l).2]):=by
 have K:=zmb g G F s hs
 have H:=IJ G s
 unfold kW
 generalize uD g s=z at *
 obtain⟨O,e⟩:=z
 simp only at K H ⊢
 refine zp mixed Tryz.func183 rfl c_183 ?_
 simp+decide[Tryz.f183,Lang.d,zq,int,YP,Rf.row]
 refine zh K ?_
 by_cases J:e=0
 case neg=>simp+decide[int,xN,J]
 subst J
 simp+decide[int]
 refine zG.fresh (by rfl) (zh0 O (by omega)) (by simp) ?_
 simp+decide[int]
 refine zG.mut [4,2,1] [.ar 0,.fn 218 [.bp 1 0,.bp 2 0]] [(0,.arr 39 1 (O.map rowA)),(1,.box 64 [.d (zE l)]),(2,.box 78 [.d (int r.rcd),.d (int r.note)])] (by rfl) (by simp) (by simp) (by simp[int];rfl)
  (zfl O (by omega) _ (Wb l r) l r (λx L=>zdm l (by omega) r x (by have:=H.2 x L;omega))) ?_
 simp+decide[int,xN,rowA]
structure Stt where
 ref:Rf
 kind:Int
 pick:List Prt
 deriving DecidableEq
def Stt.d(x:Stt):D:=.agg [int x.ref.rcd,int x.ref.note,int x.kind,zm x.pick]
def Xk(g:Lang)(r:Rf)(s:ByteArray)(l:List Dec):Stt:=
 if (vT l r).2=true then
  (if (qg g.orth.units s).2.2=0/\kH g (qg g.orth.units s).1 (vT l r).1=true then ⟨r,4,(vT l r).1⟩ else ⟨r,5,(vT l r).1⟩)
 else if (kW g r s l).2=11\/1<(kW g r s l).1.length then ⟨r,3,[]⟩
 else if (kW g r s l).2≠0 then ⟨r,0,[]⟩
 else match (kW g r s l).1 with
  | []=>⟨r,1,[]⟩
  |q::_=>⟨r,2,q⟩
theorem zh1(g:Lang)(K:LightF g)(J:LangC g)(r:Rf)(s:ByteArray)(hs:s.size<=1024)(l:List Dec)(L:l.length<2^40)(M:(vT l r).1.length<2^20):
  zl Tryz.prog 124 [g.d,YP r,.str s,zE l] (Xk g r s l).d:=by
 have Q:=zfm g K J r s hs l L
 have T:=zhx l r (by omega)
 have V:=GX g.orth J.orth K.graphs s hs
 have X:=GY g.orth.units s
 have F:=CY g (K.Y9 J).toLangOk (qg g.orth.units s).1 (by omega) (vT l r).1 M
 unfold Xk
 have E:decide ((vm g (vT l r).1).2=0/\(vm g (vT l r).1).1=(qg g.orth.units s).1)=kH g (qg g.orth.units s).1 (vT l r).1:=rfl
 rw[E] at F
 generalize kH g (qg g.orth.units s).1 (vT l r).1=lic at *
 generalize vT l r=pk at *
 obtain⟨P,ok⟩:=pk
 generalize qg g.orth.units s=z at *
 obtain⟨W,ap,e⟩:=z
 generalize kW g r s l=c at *
 obtain⟨O,f⟩:=c
 simp only at *
 refine zp mixed Tryz.func124 rfl c_124 ?_
 simp+decide[Tryz.f124,Lang.d,zq,int,YP,Rf.row]
 refine zh T ?_
 cases ok with
 |true=>
  simp+decide[int,zZ];refine zh V ?_
  by_cases Y:e=0
  case neg=>simp+decide[int,ints,zZ,Y,Stt.d]
  subst Y;simp+decide[int,ints,zZ];refine zh F ?_
  cases lic <;> simp+decide[int,ints,zZ,Stt.d]
 |false=>
  simp+decide[int,zZ];refine zh Q ?_
  by_cases G:f=11
  .simp+decide[int,xN,zm,G,Stt.d]
  by_cases Z:1<O.length
  .have H:(1:Int)<O.length:=by omega
   simp+decide[int,xN,zm,G,Z,H,Stt.d]
  have H:¬(1:Int)<O.length:=by omega
  by_cases A:f=0
  case neg=>simp+decide[int,xN,zm,G,Z,H,A,Stt.d]
  subst A;match O,Z,H with
  | [],_,_=>simp+decide[int,xN,zm,Stt.d]
  | [q],_,_=>
   simp+decide[int,xN,zm,Stt.d];refine zfi mixed (by simp) (by rfl) (by rfl) (by rfl) (by simp) ?_
   simp+decide[int,xN,zm,Stt.d]
  |_::_::_,h,_=>simp at h
structure Wrd where
 g:Lang
 ref:Rf
 s:ByteArray
 l:List Dec
def Wrd.cells(x:Wrd):List D:=(match x.g.d with | .agg cs=>cs | _=>[])++[int x.ref.rcd,int x.ref.note,.str x.s,zE x.l]
def Wrd.d(x:Wrd):D:=.agg x.cells
theorem Me{l:List Dec}{r:Rf}{n:Nat}(h:∀ d∈l,d.pick.length<=n):(vT l r).1.length<=n:=by
 unfold vT
 split
 .rename_i d H;exact h d (List.mem_of_find?_eq_some H)
 .exact Nat.zero_le _
theorem zfn{g:Lang}(H:LightF g){r:Rf}{s:ByteArray}{l:List Dec}{n:Nat}(G:4<=n)(h:∀ d∈l,d.pick.length<=n):(Xk g r s l).pick.length<=n:=by
 have F:=Me (r:=r) h
 have E:=(zko H r s l).2
 unfold Xk
 split
 .split <;> exact F
 .split
  .exact Nat.zero_le _
  .split
   .exact Nat.zero_le _
   .split
    .exact Nat.zero_le _
    .rename_i q t K
     have:=E q (by rw[K];exact List.mem_cons_self ..)
     exact Nat.le_trans this G
end Go.V
namespace Go.V.Doc
open Go Go.Proofs
def qt(d:Dc)(w:Int):List ByteArray×List ByteArray:=if YU d w=true then ((zN d w 3).map (qo d),(zN d w 3).map λm=>kM d (zN d m 4)) else ([],[])
theorem MH(d:Dc)(w:Int)(H:Fw d)(G:d.tiers.length<2^62):
  zl Tryz.prog 18 [zv d,int w] (.tup [xq (qt d w).1,xq (qt d w).2]):=by
 have h:=zjk d w H G
 unfold qt
 split at h <;> rename_i c
 .rw[if_pos c];exact h
 .rw[if_neg c];exact h
theorem zmg(d:Dc)(w:Int)(G:Fw d):(qt d w).1.length<20/\(qt d w).2.length<20:=by
 have H:=QL d w 3 G
 unfold qt
 split
 .simp only[List.length_map];omega
 .simp
theorem MI(a b:List ByteArray)(E:b.length<2^62):zl Tryz.prog 125 [xq a,xq b] (.bool (decide (a=b))):=by
 refine zp mixed Tryz.func125 rfl c_125 ?_
 simp[Tryz.f125,xq]
 refine⟨λh e=>h (by rw[e]),λh=>?_⟩
 refine zu mixed (λk:Nat=>{n:=26,next:=0,slots:=[(0,.d (xq a)),(1,.d (xq b)),(12,.d (.int .i64 a.length)),(13,.d (.int .i64 k))],own:=[]})
  (λk=>k<=a.length/\a.take k=b.take k) (λk=>a.length-k) 0 (by simp) (by simp[xq]) ?_
 intro k ⟨K,J⟩
 have h:a.length=b.length:=by omega
 by_cases G:k<a.length
 .have e1:a[k]?=some a[k]:=List.getElem?_eq_getElem G
  have e2:b[k]?=some (b[k]'(by omega)):=List.getElem?_eq_getElem (by omega)
  have H:k<b.length:=by omega
  simp+decide[xq,int,e1,e2,G,H,I64];refine⟨λF e=>by subst e;simp at F,λh1=>⟨by omega,k+1,⟨G,?_⟩,by omega,by omega⟩⟩
  rw[take_snoc G,take_snoc H,J,h1]
 .have:k=a.length:=by omega
  subst this;simp+decide[xq];rw[List.take_length,h,List.take_length] at J;exact J
theorem MJ(a b:List ByteArray)(E:a.length<2^62)(K:b.length<2^62):zl Tryz.prog 16 [xq a,xq b] (.bool (decide (a=b))):=by
 refine zp mixed Tryz.func16 rfl c_16 ?_
 by_cases h:a.length=b.length
 case neg=>
  have F:a≠b:=λe=>h (by rw[e])
  have J:¬(a.length:Int)=b.length:=by omega
  simp+decide[Tryz.f16,xq,int,h,J,F]
 simp+decide[Tryz.f16,xq,int,h]
 refine zu mixed (λk:Nat=>{n:=26,next:=0,slots:=[(0,.d (xq a)),(1,.d (xq b)),(5,.d (int k))],own:=[]})
  (λk=>k<=a.length/\a.take k=b.take k) (λk=>a.length-k) 0 (by simp) (by simp[xq,int]) ?_
 intro k ⟨L,M⟩
 by_cases G:k<a.length
 .have e1:a[k]?=some a[k]:=List.getElem?_eq_getElem G
  have e2:b[k]?=some (b[k]'(by omega)):=List.getElem?_eq_getElem (by omega)
  have H:k<b.length:=by omega
  simp+decide[xq,int,e1,e2,G,H,I64];refine⟨λF e=>by subst e;simp at F,λh1=>⟨by omega,k+1,⟨G,?_⟩,by omega,by omega⟩⟩
  rw[take_snoc G,take_snoc H,M,h1]
 .have:k=a.length:=by omega
  subst this;have H:¬a.length<b.length:=by omega
  simp+decide[xq,int,H];rw[List.take_length,h,List.take_length] at M;exact M
def ki(d:Dc)(g:Lang)(w:Int)(q:List Prt):Bool:=decide ((yA g q).2.2=0/\(yA g q).1=(qt d w).1/\(yA g q).2.1=(qt d w).2)
theorem MK(d:Dc)(w:Int)(F:Fw d)(E:d.tiers.length<2^62)(g:Lang)(K:LightF g)(J:LangC g)(q:List Prt)(L:q.length<2^20):
  zl Tryz.prog 74 [zv d,g.d,int w,zZ q] (.bool (ki d g w q)):=by
 refine zp mixed Tryz.func74 rfl c_74 ?_
 have M:=IM g K J q L
 have O:=MH d w F E
 obtain⟨H,G⟩:=zmg d w F
 unfold ki
 generalize yA g q=z at *
 obtain⟨x,y,e⟩:=z
 generalize qt d w=s at *
 obtain⟨u,v⟩:=s
 simp only at *
 have Q:=MI x u (by omega)
 have T:=MI y v (by omega)
 simp+decide[Tryz.f74,zv,Dc.row,int,Lang.d,zq,zZ]
 refine zh M ?_
 simp+decide[int,qh,zv,Dc.row]
 refine zh O ?_
 by_cases V:e=0
 case neg=>simp+decide[int,xq,V]
 subst V
 simp+decide[int,xq]
 refine zh Q ?_
 by_cases X:x=u
 case neg=>simp+decide[int,X]
 simp+decide[int,X]
 refine zh T ?_
 simp+decide[int]
def yn(d:Dc)(g:Lang)(l:List Dec)(w:Int):Stt:=Xk g ⟨d.id,w⟩ (qo d w) l
theorem ML{d:Dc}(h:Rgt d)(g:Lang)(G:LightF g)(F:LangC g)(l:List Dec)(E:l.length<2^40)(K:∀ x∈l,x.pick.length<=4)(w:Int):
  zl Tryz.prog 73 [zv d,g.d,zE l,int w] (yn d g l w).d:=by
 have H:=h.few
 refine zp mixed Tryz.func73 rfl c_73 ?_
 have J:=ZR d w (by omega)
 have L:=zh1 g G F ⟨d.id,w⟩ (qo d w) (note_text h w) l E (Nat.lt_of_le_of_lt (Me K) (by omega))
 simp+decide[Tryz.f73,zv,Dc.row,int,Lang.d,zq,zE]
 refine zh J ?_
 simp+decide[int,getD',Nt.row,Lang.d,zq]
 refine zh L ?_
 simp+decide[int,Stt.d,yn]
def znp(d:Dc)(g:Lang)(l:List Dec)(w:Int):Bool:=decide ((yn d g l w).kind=4)&&ki d g w (yn d g l w).pick
def ve(d:Dc)(g:Lang)(l:List Dec)(w:Int):Bool:=decide (0<(zN d w 3).length) && !znp d g l w
def qu(d:Dc):List Int:=yc (v7 d (zw d.tiers 2).toNat)
def Wc(d:Dc)(g:Lang)(l:List Dec):List Int:=if yw d=true then qp ((qu d).filter (ve d g l)) else []
theorem Xl{d:Dc}(h:yw d=true):∃ t:Nat,zw d.tiers 2=t/\t<d.tiers.length:=by
 unfold yw at h
 simp only[Bool.and_eq_true,decide_eq_true_eq] at h
 have H:=h.1
 unfold zw at H ⊢
 rw[if_neg (by decide)] at H ⊢
 obtain⟨t,et,G,_⟩:=Em H
 exact⟨t,et,G⟩
theorem Wg{d:Dc}(h:Wgt d)(H:yw d=true):(qu d).Nodup/\(qu d).length<=d.notes.length:=by
 obtain⟨t,et,G⟩:=Xl H
 unfold qu yc
 rw[et,List.length_map]
 refine⟨?_,UZ h G⟩
 have F:=(Eh h G).map (·.id)
 refine F.nodup_iff.2 ?_
 unfold yf
 have:=(h.inc.sublist (List.filter_sublist (l:=d.notes) (p:=λn=>decide (n.tier=((t:Int).toNat:Int)))))
 rw[List.nodup_iff_pairwise_ne,List.pairwise_map]
 exact this.imp λhab e=>by omega
def xX(g:Lang):List Sym:=[.d (zP g.inv),.d (.str g.orth.name),.d (zS g.orth.units),.d (wj g.orth.letters),.d (xo g.rules),.d (int g.net.states),.d (stepsD g.net.steps),.d (ints g.net.final),.d (zj g.lex)]
def jV(d:Dc):List Sym:=[.d (int (zw d.tiers 2)),.d (int (zw d.tiers 3)),.d (int (zw d.tiers 4))]
theorem MM{g:Lang}(H:LightF g)(d:Dc){l:List Dec}(G:∀ x∈l,x.pick.length<=4)(w:Int):(yn d g l w).pick.length<2^20:=
 Nat.lt_of_le_of_lt (zfn H (Nat.le_refl 4) G) (by omega)
theorem MN{d:Dc}(h:Rgt d)(C:Fw d)(I:d.tiers.length<2^62)(g:Lang)(N:LightF g)(P:LangC g)(l:List Dec)(V:l.length<2^40)(S:∀ x∈l,x.pick.length<=4):
  zl Tryz.prog 30 [zv d,g.d,zE l] (ints (Wc d g l)):=by
 have X:=h.few
 have Y:=Y3 d I
 have Z:=Y2 d I
 refine zp mixed Tryz.func30 rfl c_30 ?_
 unfold Wc
 simp+decide[Tryz.f30,zv,Dc.row,int,Lang.d,zq,zE]
 refine zh Y ?_
 cases W:yw d with
 |false=>simp+decide[ints]
 |true=>
  obtain⟨t,et,A⟩:=Xl W;have hO:=Ej h.w C t A;rw[show yc (v7 d t)=qu d by unfold qu;rw[et];rfl,<-et] at hO
  obtain⟨Q,B⟩:=Wg h.w W;simp+decide[int];refine zh Z ?_
  simp+decide[wZ,int];refine zh hO ?_
  generalize qu d=ws at Q B ⊢;simp+decide[int,ints];refine xn mixed (λk:Nat=>{n:=59,next:=5,slots:=[(2,.d (zE l)),(3,.bp 0 0),(4,.bp 1 0),(7,.bp 3 0),(8,.ar 4),(20,.d (ints ws)),(21,.d (int ws.length)),(22,.d (int k))],own:=[(0,.box 53 (ya d)),(1,.box 36 (xX g)),(3,.box 112 (jV d)),(4,.arr 3 1 (X1 ((ws.take k).filter (ve d g l))))],moved:=[4]})
   (λk=>k<=ws.length) (λk=>ws.length-k) 0 (Nat.zero_le _) ?_ ?_
  .simp+decide[int,ints,ya,xX,jV,zE]
  intro k hk;refine zL mixed ?_
  by_cases E:k<ws.length
  case neg=>
   have:k=ws.length:=by omega
   subst this;rw[List.take_length];have T:=List.length_filter_le (ve d g l) ws;have hN:=EG (ws.filter (ve d g l)) (by omega) (Q.sublist List.filter_sublist)
   generalize ws.filter (ve d g l)=F at hN ⊢;simp+decide[int,ints];refine zG.Qf (by rfl) hN ?_
   simp+decide[int,ints]
  have M:(k:Int)<ws.length:=by omega
  obtain⟨w,ew⟩:∃ w,ws[k]=w:=⟨_,rfl⟩;have e1:ws[k]?=some w:=by rw[List.getElem?_eq_getElem E,ew]
  have hS:=ML h g N P l V S w;have hK:=ZZ d w (zw d.tiers 3) C;have L:=MK d w C I g N P (yn d g l w).pick (MM N d S w);rw[show yc (yk d w (zw d.tiers 3))=zN d w 3 from rfl] at hK
  have H:=W9 (p:=ve d g l) E;rw[ew] at H;have T:=zfh (ve d g l) ws k;have hb:ve d g l w=(decide (0<(zN d w 3).length) && !(decide ((yn d g l w).kind=4)&&ki d g w (yn d g l w).pick)):=rfl
  rw[hb] at H;clear hb;generalize (ws.take k).filter (ve d g l)=F at H T;generalize hF:(ws.take (k+1)).filter (ve d g l)=F' at H;generalize ki d g w (yn d g l w).pick=sb at L H;generalize yn d g l w=st at hS L H;obtain⟨r,kd,q⟩:=st;generalize zN d w 3=K at hK H;simp only at L H
  simp+decide[int,ints,ya,xX,jV,zE,E,M,ew,e1,I64];refine zh hS ?_
  simp+decide[int,ints,Stt.d];refine zG.Qf (by rfl) hK ?_
  by_cases J:0<K.length
  case neg=>
   have G:K.length=0:=by omega
   simp[J] at H;subst H;simp+decide[int,ints,J,G,I64];exact⟨by omega,k+1,E,by omega,by omega,by rw[hF]⟩
  have G:¬K.length=0:=by omega
  by_cases O:kd=4
  case neg=>
   simp[J,O] at H;subst H;simp+decide[int,ints,J,G,O,I64];exact⟨by omega,by unfold maxLen;omega,by omega,k+1,E,by omega,by omega,by rw[hF];simp[int]⟩
  subst O;simp+decide[int,ints,J,G,I64];refine zh L ?_
  cases sb with
  |true=>
   simp[J] at H;subst H;simp+decide[int,ints,I64];exact⟨by omega,k+1,E,by omega,by omega,by rw[hF]⟩
  |false=>
   simp[J] at H;subst H;simp+decide[int,ints,I64];exact⟨by omega,by unfold maxLen;omega,by omega,k+1,E,by omega,by omega,by rw[hF];simp[int]⟩
def Fb(d:Dc)(g:Lang)(l:List Dec)(n:Nt):Bool:=yy d n.id&&ve d g l n.id
def Wh(d:Dc)(g:Lang)(l:List Dec):List Int:=if yw d=true then (d.notes.filter (Fb d g l)).map (·.id) else []
theorem MO:∀ {a b:List Int},a.Pairwise (· < ·)->b.Pairwise (· < ·)->(∀ x,x∈a↔x∈b)->a=b
 | [],[],_,_,_=>rfl
 | [],y::b,_,_,h=>by have:=(h y).2 List.mem_cons_self;cases this
 |x::a,[],_,_,h=>by have:=(h x).1 List.mem_cons_self;cases this
 |x::a,y::b,E,K,h=>by
  have H:=List.pairwise_cons.1 E;have G:=List.pairwise_cons.1 K;have F:x=y:=by
   rcases List.mem_cons.1 ((h x).1 List.mem_cons_self) with e | e
   .exact e
   .rcases List.mem_cons.1 ((h y).2 List.mem_cons_self) with e2 | e2
    .exact e2.symm
    .have:=G.1 x e;have:=H.1 y e2;omega
  subst F;rw[MO H.2 G.2 λz=>?_]
  constructor
  .intro J
   rcases List.mem_cons.1 ((h z).1 (List.mem_cons_of_mem _ J)) with e | e
   .have:=H.1 z J;omega
   .exact e
  .intro J
   rcases List.mem_cons.1 ((h z).2 (List.mem_cons_of_mem _ J)) with e | e
   .have:=G.1 z J;omega
   .exact e
theorem zh2{l:List Int}(H:l.Nodup):(qp l).Pairwise (· < ·):=by
 have hs:(qp l).Pairwise λa b=>decide (a<=b)=true:=List.pairwise_mergeSort (λa b c G F=>by simp only[decide_eq_true_eq] at *;omega) (λa b=>by simp only[Bool.or_eq_true,decide_eq_true_eq];omega) l
 have E:(qp l).Nodup:=(QR l).nodup_iff.2 H
 rw[List.nodup_iff_pairwise_ne] at E
 exact(hs.and E).imp λh=>by have:=of_decide_eq_true h.1;have:=h.2;omega
theorem MP{d:Dc}(h:Rgt d)(g:Lang)(l:List Dec):Wc d g l=Wh d g l:=by
 unfold Wc Wh
 cases G:yw d with
 |false=>rfl
 |true=>
  rw[if_pos rfl,if_pos rfl];obtain⟨t,et,F⟩:=Xl G;obtain⟨H,_⟩:=Wg h.w G;refine MO (zh2 (H.sublist List.filter_sublist)) ?_ λx=>?_
  .rw[List.pairwise_map]
   exact h.w.inc.sublist List.filter_sublist
  .rw[(QR _).mem_iff,List.mem_filter,List.mem_map]
   unfold qu yc;rw[et,List.mem_map];constructor
   .rintro⟨⟨n,E,rfl⟩,K⟩
    have J:=(Ze h.w t F n).1 E;refine⟨n,List.mem_filter.2 ⟨J.1,?_⟩,rfl⟩
    unfold Fb;rw[K,Bool.and_true];unfold yy;rw[kK h J.1];simp[et,J.2]
   .rintro⟨n,E,rfl⟩
    obtain⟨E,K⟩:=List.mem_filter.1 E;unfold Fb at K;rw[Bool.and_eq_true] at K;refine⟨⟨n,(Ze h.w t F n).2 ⟨E,?_⟩,rfl⟩,K.2⟩
    have:=K.1
    unfold yy at this;rw[kK h E] at this;simpa[et] using this
theorem znq(d:Dc)(hs:∀ t∈d.tiers,t.name.size<=9223372036854775807)(F:∀ n∈d.notes,n.text.size<=9223372036854775807)(g:Lang)(E:LangC g)(l:List Dec)(K:l.length<2^40)(J:W8 l):
  xU Tryz.prog 25 [zv d,g.d,zE l] (λv=>∃ b,v = .bool b/\(b=true->wE d=true/\LightF g/\l.length<=8/\wL l=0)):=by
 have L:=AE d hs F
 have M:=ze0 g E
 have O:=Go.V.UL l (by omega) J
 refine qV mixed Tryz.func25 rfl c_25 ?_
 by_cases Q:l.length<=8
 case neg=>
  have H:¬(l.length:Int)<=8:=by omega
  simp+decide[Tryz.f25,int,zv,Dc.row,Lang.d,zE,Q,H]
 have H:(l.length:Int)<=8:=by omega
 simp+decide[Tryz.f25,int,zv,Dc.row,Lang.d,zE,Q,H]
 refine zh L ?_
 cases G:wE d with
 |false=>simp+decide
 |true=>
  simp+decide
  refine zG.some (by rfl) M ?_
  rintro r ⟨b,rfl,T⟩
  cases b with
  |false=>simp+decide
  |true=>
   have T:=T rfl;simp+decide
   refine zh O ?_
   by_cases X:wL l=0
   .simp+decide[int,X]
    exact T
   .simp+decide[int,X]
end Go.V.Doc

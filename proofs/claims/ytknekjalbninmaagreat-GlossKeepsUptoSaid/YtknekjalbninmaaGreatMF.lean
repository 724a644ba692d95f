/- Contracts and plain laws of this seat: part MF. It needs no conditions. -/
import Derived.Test.YtknekjalbninmaaGreatS3
import Derived.Test.YtknekjalbninmaaGreatSw
import Derived.Test.YtknekjalbninmaaGreatMD
import Derived.Test.YtknekjalbninmaaGreatME
import Derived.Test.YtknekjalbninmaaGreatMA
import Derived.Test.YtknekjalbninmaaGreatMC
import Derived.Test.YtknekjalbninmaaGreatMB
import Derived.Test.YtknekjalbninmaaGreatW1
set_option maxHeartbeats 32000000
set_option linter.unusedVariables false
set_option linter.unusedSimpArgs false
set_option linter.unusedSectionVars false
set_option maxRecDepth 100000
namespace Go.V
open Go Go.Proofs
theorem zis(a b:List Int)(E:b.length<2^62):zj Tryz.prog 158 [ints a,ints b] (.bool (decide (a=b))):=by
 refine zn mixed Tryz.func158 rfl c_158 ?_
 simp[Tryz.f158,ints]
 refine⟨λh e=>h (by rw[e]),λh=>?_⟩
 refine zm mixed (λk:Nat=>{n:=26,next:=0,slots:=[(0,.d (ints a)),(1,.d (ints b)),(12,.d (.int .i64 a.length)),(13,.d (.int .i64 k))],own:=[]})
  (λk=>k<=a.length/\a.take k=b.take k) (λk=>a.length-k) 0 (by simp) (by simp[ints]) ?_
 intro k ⟨K,J⟩
 have h:a.length=b.length:=by omega
 by_cases G:k<a.length
 .have e1:a[k]?=some a[k]:=List.getElem?_eq_getElem G
  have e2:b[k]?=some (b[k]'(by omega)):=List.getElem?_eq_getElem (by omega)
  have H:k<b.length:=by omega
  simp+decide[ints,int,e1,e2,G,H,I64];refine⟨λF e=>by subst e;simp at F,λhe=>⟨by omega,k+1,⟨G,?_⟩,by omega,by omega⟩⟩
  rw[yr G,yr H,J,he]
 .have:k=a.length:=by omega
  subst this;simp+decide[ints];rw[List.take_length,h,List.take_length] at J;exact J
def wW(w s:List Int):Bool:=decide (s.length<=w.length)&&decide (s=w.take s.length)
def vu(us:List Grap)(w:List Int):Nat->Option Nat
 |0=>none
 |k+1=>match us[k]? with
  |none=>vu us w k
  |some u=>if wW w u.segs=true then (match vu us w k with
    |none=>some k
    |some b=>if ((us[b]?.map λv=>v.segs.length).getD 0)<u.segs.length then some k else some b)
   else vu us w k
theorem Zf{us:List Grap}{w:List Int}:∀ {k b:Nat},vu us w k=some b->∃ v,us[b]?=some v/\wW w v.segs=true
 |0,b,h=>by cases h
 |k+1,b,h=>by
  unfold vu at h;split at h
  .exact Zf h
  .rename_i u H
   split at h
   .rename_i G
    split at h
    .obtain rfl:=Option.some.inj h;exact⟨u,H,G⟩
    .rename_i b' hb'
     split at h
     .obtain rfl:=Option.some.inj h;exact⟨u,H,G⟩
     .obtain rfl:=Option.some.inj h
      exact Zf hb'
   .exact Zf h
theorem zep(o:Orth)(V:OrthC o)(w:List Int)(X:w.length<2^40):zj Tryz.prog 99 [.agg o.cells,ints w] (int (uT (vu o.units w o.units.length))):=by
 have O:=V.few.1
 refine zn mixed Tryz.func99 rfl c_99 ?_
 simp+decide[Tryz.f99,int,ints,zG,Orth.cells]
 refine x9 mixed (λk:Nat=>{n:=51,next:=1,slots:=[(1,.d (ints w)),(2,.bp 0 0),(5,.d (int (uT (vu o.units w k)))),(9,.d (zG o.units)),(10,.d (int o.units.length)),(11,.d (int k))],own:=[(0,.box 28 (o.cells.map .d))]})
  (λk=>k<=o.units.length) (λk=>o.units.length-k) 0 (Nat.zero_le _) ?_ ?_
 .simp+decide[int,ints,zG,Orth.cells,vu,uT]
 intro k Y
 refine ya mixed ?_
 by_cases G:k<o.units.length
 case neg=>
  have:k=o.units.length:=by omega
  subst this;simp+decide[int,ints,zG,Orth.cells]
 have F:(k:Int)<o.units.length:=by omega
 obtain⟨u,eu⟩:∃ u,o.units[k]=u:=⟨_,rfl⟩
 have eu1:o.units[k]?=some u:=by rw[List.getElem?_eq_getElem G,eu]
 have Q:=(V.units o.units[k] (List.getElem_mem G)).2
 rw[eu] at Q
 have H:vu o.units w (k+1)=if wW w u.segs=true then (match vu o.units w k with
    |none=>some k
    |some b=>if ((o.units[b]?.map λv=>v.segs.length).getD 0)<u.segs.length then some k else some b)
   else vu o.units w k:=by rw[vu,eu1]
 by_cases c1:w.length<u.segs.length
 .have c1':(w.length:Int)<u.segs.length:=by omega
  have Z:wW w u.segs=false:=by unfold wW;rw[decide_eq_false (by omega)];rfl
  rw[Z,if_neg (by decide)] at H
  simp+decide[int,ints,zG,Orth.cells,G,F,eu,eu1,Grap.row,I64,c1,c1'];exact⟨by omega,k+1,G,by omega,by rw[H],by omega⟩
 have c1':¬(w.length:Int)<u.segs.length:=by omega
 have A:=zis u.segs (w.take u.segs.length) (by rw[List.length_take];omega)
 have T:wW w u.segs=decide (u.segs=w.take u.segs.length):=by unfold wW;rw[decide_eq_true (by omega)];rfl
 have c2:u.segs.length<=w.length:=by omega
 have c2':(u.segs.length:Int)<=w.length:=by omega
 rw[<-T] at A
 simp only[ints,List.map_take] at A
 simp+decide[int,ints,zG,Orth.cells,G,F,eu,eu1,Grap.row,I64,c1,c1',c2,c2']
 refine scp A ?_
 cases Z:wW w u.segs with
 |false=>
  rw[Z,if_neg (by decide)] at H
  simp+decide[int,ints,zG,Orth.cells,G,F,eu,eu1,Grap.row,I64];exact⟨by omega,k+1,G,by omega,by rw[H],by omega⟩
 |true=>
  rw[Z,if_pos rfl] at H;cases K:vu o.units w k with
  |none=>
   rw[K] at H;simp only at H
   simp+decide[int,ints,zG,Orth.cells,G,F,eu,eu1,Grap.row,I64,uT];exact⟨by omega,k+1,G,by omega,by rw[H],by omega⟩
  |some b=>
   obtain⟨v,ev1,_⟩:=Zf K;obtain⟨L,ev⟩:=List.getElem?_eq_some_iff.1 ev1;have E:(b:Int)<o.units.length:=by omega
   rw[K] at H;simp only at H
   rw[ev1] at H;simp only[Option.map_some,Option.getD_some] at H;have M:¬(b:Int)<0:=by omega
   by_cases B:v.segs.length<u.segs.length
   .have J:(v.segs.length:Int)<u.segs.length:=by omega
    rw[if_pos B] at H;simp+decide[int,ints,zG,Orth.cells,G,F,eu,eu1,Grap.row,I64,uT,L,E,ev,ev1,B,J,M];exact⟨by omega,k+1,G,by omega,by rw[H],by omega⟩
   .have J:¬(v.segs.length:Int)<u.segs.length:=by omega
    rw[if_neg B] at H;simp+decide[int,ints,zG,Orth.cells,G,F,eu,eu1,Grap.row,I64,uT,L,E,ev,ev1,B,J,M];exact⟨by omega,k+1,G,by omega,by rw[H],by omega⟩
theorem zeq(s:ByteArray)(hs:s.size<2^40):
  zA Tryz.prog 100 [.bp 0 0,.d (.str s)] [(0,.box 166 [.d (.val (.pointer none)),.nils])] 1 (.tup [.d (int s.size),.d (.val .nilIface)]) 2 [(1,.arr 5 1 (y8 s)),(0,.box 166 [.bp 0 0,.ar 1])] [1]:=by
 have H:zA Tryz.prog 159 [.bp 0 0] [(0,.box 166 [.d (.val (.pointer none)),.nils])] 1 (.d (.tup [])) 1 [(0,.box 166 [.bp 0 0,.nils])] []:=U2 (by rfl) KD
 refine xA mixed Tryz.func100 rfl c_100 (by simp[Sym.los,Sym.lo]) ?_
 simp+decide[Tryz.f100,int]
 refine zC.mut [0] [.bp 0 0] [(0,.box 166 [.d (.val (.pointer none)),.nils])] (by rfl) (by simp) (by simp) (by simp) H ?_
 simp+decide[int,maxLen]
 exact⟨by omega,by omega⟩
theorem zer(s:ByteArray)(rows:List (List D))(hs:rows.length+s.size<2^40):
  zA Tryz.prog 100 [.bp 0 0,.d (.str s)] [(0,.box 166 [.bp 0 0,.ar 1]),(1,.arr 5 1 rows)] 2 (.tup [.d (int s.size),.d (.val .nilIface)]) 2 [(0,.box 166 [.bp 0 0,.ar 1]),(1,.arr 5 1 (rows++y8 s))] [1]:=by
 have H:zA Tryz.prog 159 [.bp 0 0] [(0,.box 166 [.bp 0 0,.ar 1]),(1,.arr 5 1 rows)] 2 (.d (.tup [])) 2 [(0,.box 166 [.bp 0 0,.ar 1]),(1,.arr 5 1 rows)] []:=U3 (by rfl) KC _ _ _
 refine xA mixed Tryz.func100 rfl c_100 (by simp[Sym.los,Sym.lo]) ?_
 simp+decide[Tryz.f100,int]
 refine zC.mut [0,1] [.bp 0 0] [(0,.box 166 [.bp 0 0,.ar 1]),(1,.arr 5 1 rows)] (by rfl) (by simp) (by simp) (by simp;rfl) H ?_
 simp+decide[int,maxLen]
 exact⟨by omega,by omega⟩
theorem zhn(s:ByteArray)(hs:s.size≠0):
  zA Tryz.prog 101 [.bp 0 0] [(0,.box 166 [.bp 0 0,.ar 1]),(1,.arr 5 1 (y8 s))] 2 (.d (.str s)) 2 [] []:=ET Tryz.EW BA (by rfl) s hs
theorem zcd(a b:ByteArray):y8 (a++b)=y8 a++y8 b:=by
 unfold y8
 simp[ByteArray.data_append]
def wX(us:List Grap)(w:List Int):Nat->Nat->ByteArray->ByteArray×Int×Int
 |0,_,_=>(.empty,0,0)
 |f+1,at_,acc=>if at_<w.length then (match vu us (w.drop at_) us.length with
   |none=>(.empty,at_,20)
   |some b=>wX us w f (at_+((us[b]?.map λv=>v.segs.length).getD 0)) (acc++((us[b]?.map λv=>v.graph).getD .empty)))
  else (acc,0,0)
def xZ(us:List Grap)(w:List Int):ByteArray×Int×Int:=
 if w.length=0 then (.empty,0,4) else if 24<w.length then (.empty,0,5) else wX us w (w.length+1) 0 .empty
theorem E5{us:List Grap}(G:∀ u∈us,UnitF u){w:List Int}:∀ {f at_:Nat} {acc:ByteArray},acc.size<=32*at_->at_<=w.length->(wX us w f at_ acc).1.size<=32*w.length
 |0,_,_,_,_=>by simp[wX]
 |f+1,at_,acc,h,hat=>by
  unfold wX;split
  .split
   .simp
   .rename_i b F
    obtain⟨v,E,H⟩:=Zf F;have K:=G v (List.mem_of_getElem? E);have J:v.segs.length<=(w.drop at_).length:=by
     unfold wW at H;rw[Bool.and_eq_true,decide_eq_true_eq] at H;exact H.1
    rw[List.length_drop] at J;rw[E];refine E5 G ?_ ?_
    .have:=K.size;have:=K.segs
     rw[ByteArray.size_append];simp only[Option.map_some,Option.getD_some];omega
    .simp only[Option.map_some,Option.getD_some]
     omega
  .have:acc.size<=32*w.length:=by omega
   exact this
theorem zce{us:List Grap}(H:∀ u∈us,UnitF u)(w:List Int):(xZ us w).1.size<=768:=by
 unfold xZ
 split
 .simp
 .split
  .simp
  .have:=E5 H (w:=w) (f:=w.length+1) (at_:=0) (acc:=.empty) (by simp) (by omega)
   omega
theorem zgg(o:Orth)(P:OrthC o)(S:∀ u∈o.units,UnitF u)(w:List Int)(W:w.length<2^40):
  zj Tryz.prog 43 [.agg o.cells,ints w] (.tup [.str (xZ o.units w).1,int (xZ o.units w).2.1,int (xZ o.units w).2.2]):=by
 refine zn mixed Tryz.func43 rfl c_43 ?_
 by_cases c0:w.length=0
 .have:w=[]:=List.eq_nil_of_length_eq_zero c0
  subst this;simp+decide[Tryz.f43,int,ints,Orth.cells,xZ]
 have c0':¬(w.length:Int)=0:=by omega
 by_cases c1:24<w.length
 .have c1':(24:Int)<w.length:=by omega
  have T:xZ o.units w=(.empty,0,5):=by unfold xZ;rw[if_neg c0,if_pos c1]
  rw[T];simp+decide[Tryz.f43,int,ints,Orth.cells,c0,c0',c1,c1']
 have c1':¬(24:Int)<w.length:=by omega
 have T:xZ o.units w=wX o.units w (w.length+1) 0 .empty:=by unfold xZ;rw[if_neg c0,if_neg c1]
 simp+decide[Tryz.f43,int,ints,Orth.cells,c0,c0',c1,c1']
 refine x9 mixed (λx:Bool×Nat×Nat×ByteArray=>if x.1=true
   then {n:=45,next:=2,slots:=[(1,.d (ints w)),(2,.bp 0 0),(7,.bp 1 0),(8,.d (int x.2.2.1))],own:=[(0,.box 28 (o.cells.map .d)),(1,.box 166 [.d (.val (.pointer none)),.nils])]}
   else {n:=45,next:=3,slots:=[(1,.d (ints w)),(2,.bp 0 0),(7,.bp 1 0),(8,.d (int x.2.2.1))],own:=[(0,.box 28 (o.cells.map .d)),(1,.box 166 [.bp 1 0,.ar 2]),(2,.arr 5 1 (y8 x.2.2.2))],moved:=[2]})
  (λx=>x.2.2.1<=w.length/\w.length<x.2.2.1+x.2.1/\wX o.units w x.2.1 x.2.2.1 x.2.2.2=xZ o.units w/\x.2.2.2.size<=32*x.2.2.1/\(x.1=true->x.2.2.1=0/\x.2.2.2 = .empty)/\(x.1=false->x.2.2.2.size≠0)) (λx=>w.length-x.2.2.1)
  (true,w.length+1,0,.empty) ⟨by simp,by simp,T.symm,by simp,by simp,by simp⟩ ?_ ?_
 .simp+decide[int,ints,Orth.cells]
 rintro⟨fr,f,at_,acc⟩ ⟨J,hf,F,A,V,Y⟩
 simp only at J hf F A V Y
 refine ya mixed ?_
 obtain⟨f,rfl⟩:∃ f',f=f'+1:=⟨f-1,by omega⟩
 unfold wX at F
 by_cases G:at_<w.length
 case neg=>
  have H:¬(at_:Int)<w.length:=by omega
  rw[if_neg G] at F;cases fr with
  |true=>have:=(V rfl).1;omega
  |false=>
   rw[<-F];simp+decide[int,ints,G,H,Orth.cells];refine zC.mut [1,2] [.bp 0 0] [(0,.box 166 [.bp 0 0,.ar 1]),(1,.arr 5 1 (y8 acc))] (by rfl) (by simp) (by simp) (by simp;rfl) (zhn acc (Y rfl)) ?_
   simp+decide[int]
 rw[if_pos G] at F
 have H:(at_:Int)<w.length:=by omega
 have hU:=zep o P (w.drop at_) (by rw[List.length_drop];omega)
 simp only[ints,List.map_drop] at hU
 have M:List.take w.length (w.map λn=>[D.int .i64 n])=w.map λn=>[D.int .i64 n]:=List.take_of_length_le (by simp)
 cases hb:vu o.units (w.drop at_) o.units.length with
 |none=>
  rw[hb] at F hU;simp only at F
  simp only[uT] at hU;rw[<-F];cases fr with
  |true=>
   simp+decide[int,ints,G,H,J,M,Orth.cells];refine scp hU ?_
   simp+decide[int,ints,G,H,Orth.cells]
  |false=>
   simp+decide[int,ints,G,H,J,M,Orth.cells];refine scp hU ?_
   simp+decide[int,ints,G,H,Orth.cells]
 |some b=>
  obtain⟨v,ev1,K⟩:=Zf hb;obtain⟨O,ev⟩:=List.getElem?_eq_some_iff.1 ev1;have E:(b:Int)<o.units.length:=by omega
  have Q:¬(b:Int)<0:=by omega
  have hF:=S v (List.mem_of_getElem? ev1);have B:=hF.size;have C:=hF.pos;have I:=hF.segs;have N:v.segs.length<=w.length-at_:=by
   unfold wW at K;rw[Bool.and_eq_true,decide_eq_true_eq,List.length_drop] at K;exact K.1
  rw[hb] at F hU;simp only[ev1,Option.map_some,Option.getD_some] at F;simp only[uT] at hU;have L:(acc++v.graph).size<=32*(at_+v.segs.length):=by rw[ByteArray.size_append];omega
  have Z:(acc++v.graph).size≠0:=by rw[ByteArray.size_append];omega
  cases fr with
  |true=>
   obtain⟨h0,X⟩:=V rfl;subst X;simp+decide[int,ints,G,H,J,M,Orth.cells];refine scp hU ?_
   simp+decide[int,ints,G,H,Orth.cells,zG,Grap.row,O,E,ev,ev1,Q];refine zC.mut [1] [.bp 0 0,.d (.str v.graph)] [(0,.box 166 [.d (.val (.pointer none)),.nils])] (by rfl) (by simp) (by simp) (by simp) (zeq v.graph (by omega)) ?_
   simp+decide[int,ints,G,H,Orth.cells,zG,Grap.row,O,E,ev,ev1,Q,I64];exact⟨⟨by omega,by omega⟩,f,at_+v.segs.length,ByteArray.empty++v.graph,⟨by omega,by omega,F,L,λe=>Z (by rw[e];rfl)⟩,by omega,by omega,by simp⟩
  |false=>
   simp+decide[int,ints,G,H,J,M,Orth.cells];refine scp hU ?_
   simp+decide[int,ints,G,H,Orth.cells,zG,Grap.row,O,E,ev,ev1,Q];refine zC.mut [1,2] [.bp 0 0,.d (.str v.graph)] [(0,.box 166 [.bp 0 0,.ar 1]),(1,.arr 5 1 (y8 acc))] (by rfl) (by simp) (by simp) (by simp;rfl) (zer v.graph (y8 acc) (by rw[Jd];omega)) ?_
   simp+decide[int,ints,G,H,Orth.cells,zG,Grap.row,O,E,ev,ev1,Q,I64];exact⟨⟨by omega,by omega⟩,f,at_+v.segs.length,acc++v.graph,⟨by omega,by omega,F,L,λe=>Z (by rw[e];rfl)⟩,by omega,by omega,(zcd _ _).symm⟩
def xH(l:List ByteArray):D:=.sl (l.map λs=>[.str s])
def vT(l:List Ent)(p:Prt):List Int:=((zL l p.entry).1.forms[p.alt.toNat]?).getD []
def uV(l:List Ent)(p:Prt):ByteArray:=((jB l p.entry)[p.sense.toNat]?.map λs=>s.gloss).getD .empty
def qg(g:Lang):List Prt->List ByteArray->List ByteArray->List ByteArray×List ByteArray×Int
 | [],x,y=>(x,y,0)
 |p::ps,x,y=>if (xZ g.orth.units (vT g.lex p)).2.2≠0 then ([],[],(xZ g.orth.units (vT g.lex p)).2.2)
   else qg g ps (x++[(xZ g.orth.units (vT g.lex p)).1]) (y++[uV g.lex p])
def yc(g:Lang)(ps:List Prt):List ByteArray×List ByteArray×Int:=
 if vN g ps≠0 then ([],[],vN g ps) else qg g ps [] []
theorem E6:∀ {l:List Ent} {ps:List Prt},jC l ps=0->∀ p∈ps,kH l p=0
 |l,[],_,p,H=>by cases H
 |l,q::ps,h,p,H=>by
  unfold jC at h;split at h
  .rename_i hq
   rcases List.mem_cons.1 H with rfl | H
   .exact hq
   .exact E6 h p H
  .rename_i hq;exact absurd h hq
theorem zit{g:Lang}{ps:List Prt}(h:vN g ps=0):ps.length<=4/\∀ p∈ps,kH g.lex p=0:=by
 unfold vN at h
 split at h
 .cases h
 .split at h
  .cases h
  .split at h
   .rename_i H;exact absurd h H
   .rename_i h2 H
    exact⟨by omega,E6 (by simpa using H)⟩
theorem zjk{l:List Ent}{p:Prt}(h:kH l p=0):(zL l p.entry).2=true/\0<=p.alt/\p.alt<(zL l p.entry).1.forms.length/\0<=p.sense/\p.sense<(jB l p.entry).length:=by
 unfold kH at h
 split at h
 .cases h
 .rename_i H
  split at h
  .cases h
  .rename_i h2
   split at h
   .cases h
   .rename_i h3
    unfold qH at h2;split at h2
    .rename_i h4
     exact⟨by simpa using H,h4.2.1,h4.2.2,by omega,by omega⟩
    .simp at h2
theorem zbl{g:Lang}{ps:List Prt}{k:Nat}{x y:List ByteArray}(h:k<ps.length):qg g (ps.drop k) x y=if (xZ g.orth.units (vT g.lex ps[k])).2.2≠0 then ([],[],(xZ g.orth.units (vT g.lex ps[k])).2.2)
   else qg g (ps.drop (k+1)) (x++[(xZ g.orth.units (vT g.lex ps[k])).1]) (y++[uV g.lex ps[k]]):=by
 rw[List.drop_eq_getElem_cons h];rfl
def strRow(l:List ByteArray):List (List D):=l.map λs=>[.str s]
theorem zgh(g:Lang)(B:LightF g)(C:LangC g)(ps:List Prt)(I:ps.length<2^20):
  zj Tryz.prog 14 [g.d,yI ps] (.tup [xH (yc g ps).1,xH (yc g ps).2.1,int (yc g ps).2.2]):=by
 have N:=B.BL C
 have P:=N.toLangOk
 have O:=D5 g P ps I
 refine zn mixed Tryz.func14 rfl c_14 ?_
 unfold yc
 simp+decide[Tryz.f14,int,Lang.d,yI,yi]
 refine zg O ?_
 by_cases S:vN g ps=0
 case neg=>simp+decide[int,S,xH]
 obtain⟨h4,Q⟩:=zit S
 obtain⟨E,hE⟩:∃ E,qg g ps [] []=E:=⟨_,rfl⟩
 simp+decide[int,S,hE,y9]
 refine x9 mixed (λx:Nat×List ByteArray×List ByteArray=>{n:=74,next:=6,slots:=[(2,.bp 0 0),(3,.bp 1 0),(8,.ar 4),(9,.ar 5),(24,.d (y9 ps)),(25,.d (int ps.length)),(26,.d (int x.1))],own:=[(0,.box 36 (yi g.d)),(1,.box 39 [.d (y9 ps)]),(4,.arr 9 1 (strRow x.2.1)),(5,.arr 9 1 (strRow x.2.2))],moved:=[4,5]})
  (λx=>x.1<=ps.length/\x.2.1.length=x.1/\x.2.2.length=x.1/\qg g (ps.drop x.1) x.2.1 x.2.2=E) (λx=>ps.length-x.1) (0,[],[]) ⟨Nat.zero_le _,rfl,rfl,by rw[List.drop_zero];exact hE⟩ ?_ ?_
 .simp+decide[int,y9,yi,Lang.d,strRow]
 rintro⟨k,x,y⟩ ⟨hk,hx,hy,H⟩
 simp only at hk hx hy H
 refine ya mixed ?_
 by_cases F:k<ps.length
 case neg=>
  have:k=ps.length:=by omega
  rw[this,List.drop_length] at H;subst H;have G:¬(k:Int)<ps.length:=by omega
  simp+decide[int,F,G,qg,xH,strRow]
 have G:(k:Int)<ps.length:=by omega
 rw[zbl F] at H
 obtain⟨p,ep⟩:∃ p,ps[k]=p:=⟨_,rfl⟩
 have e1:ps[k]?=some p:=by rw[List.getElem?_eq_getElem F,ep]
 have L:=Q ps[k] (List.getElem_mem F)
 rw[ep] at H L
 obtain⟨q1,q2,q3,q4,q5⟩:=zjk L
 have hG:=QX g.lex p.entry P.lex.len
 have hA:=FR P.lex p.entry
 have hF:=FT (zL g.lex p.entry).1 (by omega)
 have T:(vT g.lex p).length<2^20:=by
  unfold vT;have hj:p.alt.toNat<(zL g.lex p.entry).1.forms.length:=by omega
  rw[List.getElem?_eq_getElem hj];exact P.lex.form _ (QY q1) _ (List.getElem_mem hj)
 have hS:=zgg g.orth C.orth B.units1 (vT g.lex p) (by omega)
 have M:=FQ g.lex p.entry P.lex.len P.lex.senses
 have J:=zce B.units1 (vT g.lex p)
 have K:(zL g.lex p.entry).1.forms[p.alt.toNat]?=some (vT g.lex p):=by
  unfold vT;have hj:p.alt.toNat<(zL g.lex p.entry).1.forms.length:=by omega
  rw[List.getElem?_eq_getElem hj];rfl
 obtain⟨sn,hsn,V⟩:∃ sn,(jB g.lex p.entry)[p.sense.toNat]?=some sn/\uV g.lex p=sn.gloss:=by
  have hj:p.sense.toNat<(jB g.lex p.entry).length:=by omega
  exact⟨_,List.getElem?_eq_getElem hj,by unfold uV;rw[List.getElem?_eq_getElem hj];rfl⟩
 rw[V] at H
 generalize vT g.lex p=W at K hS H J T
 generalize xZ g.orth.units W=z at hS H J
 generalize jB g.lex p.entry=ss at M hsn q5
 generalize zL g.lex p.entry=r at hG hF K q3 q1 hA
 obtain⟨e,ok⟩:=r
 obtain⟨s,pos,err⟩:=z
 simp only at hG hF K q3 q1 hS H J hA
 subst q1
 have hj:p.alt.toNat<e.forms.length:=by omega
 have X:e.forms[p.alt.toNat]=W:=Option.some.inj (by rw[<-List.getElem?_eq_getElem hj];exact K)
 have hk:p.sense.toNat<ss.length:=by omega
 have Y:ss[p.sense.toNat]=sn:=Option.some.inj (by rw[<-List.getElem?_eq_getElem hk];exact hsn)
 simp+decide[int,y9,yi,Lang.d,Prt.row,F,G,ep,e1,I64]
 refine zg hG ?_
 simp+decide[int,y9,yi,Lang.d,Prt.row,Ent.row,I64]
 refine scp hF ?_
 simp+decide[int,y9,yi,Lang.d,Prt.row,Ent.row,I64,xq,q2,q3,hj,X]
 refine scp hS ?_
 by_cases he:err=0
 case neg=>
  rw[if_pos he] at H;subst H;simp+decide[int,y9,yi,Lang.d,Prt.row,Ent.row,I64,he,xH]
 subst he
 rw[if_neg (by decide)] at H
 simp+decide[int,y9,yi,Lang.d,Prt.row,Ent.row,I64,maxLen]
 have Z:(strRow x).length=k:=by simp[strRow,hx]
 have A:(strRow y).length=k:=by simp[strRow,hy]
 refine⟨by omega,by omega,?_⟩
 refine G4 mixed 12 (by rfl) (by rfl) (by rfl) (by rfl) (by simp) ?_
 simp+decide[int,y9,yi,Lang.d,Prt.row,Ent.row,I64,maxLen]
 refine scp M ?_
 simp+decide[int,y9,yi,Lang.d,Prt.row,Ent.row,I64,maxLen,zV,Sens.row,q4,q5,hk,Y]
 exact⟨by omega,by omega,⟨by omega,by omega⟩,k+1,x++[s],y++[sn.gloss],⟨F,by simp[hx],by simp[hy],H⟩,by omega,by omega,by simp[strRow],by simp[strRow]⟩
theorem E7{g:Lang}:∀ {ps:List Prt} {x y:List ByteArray},(qg g ps x y).1.length<=x.length+ps.length/\(qg g ps x y).2.1.length<=y.length+ps.length
 | [],x,y=>by simp[qg]
 |p::ps,x,y=>by
  unfold qg;split
  .simp
  .have:=E7 (g:=g) (ps:=ps) (x:=x++[(xZ g.orth.units (vT g.lex p)).1]) (y:=y++[uV g.lex p])
   simp only[List.length_append,List.length_cons,List.length_nil] at this ⊢;omega
theorem zdb(g:Lang)(ps:List Prt):(yc g ps).1.length<=ps.length/\(yc g ps).2.1.length<=ps.length:=by
 unfold yc
 split
 .simp
 .have:=E7 (g:=g) (ps:=ps) (x:=[]) (y:=[])
  simpa using this
def XH(g:Lang)(s:ByteArray)(ps:List Prt):Bool:=decide ((qM g.orth.units s).2.2=0)&&X1 g (qM g.orth.units s).1 ps
theorem za2(g:Lang)(G:LightF g)(F:LangC g)(s:ByteArray)(hs:s.size<=1024)(ps:List Prt)(E:ps.length<2^20):zj Tryz.prog 64 [g.d,.str s,yI ps] (.bool (XH g s ps)):=by
 have K:=G.BL F
 have J:=zen g.orth F.orth G.graphs s hs
 have H:=zeo g.orth.units s
 have h2:=OM g K.toLangOk (qM g.orth.units s).1 (by omega) ps E
 unfold XH X1
 generalize qM g.orth.units s=z at *
 obtain⟨w,pos,e⟩:=z
 simp only at J h2 H ⊢
 refine zn mixed Tryz.func64 rfl c_64 ?_
 simp+decide[Tryz.f64,int,Lang.d,yI,yi]
 refine zg J ?_
 by_cases L:e=0
 .simp+decide[int,ints,L]
  refine zg h2 ?_
  simp+decide[int,ints]
 .simp+decide[int,ints,L]
end Go.V
namespace Go.V.Doc
open Go Go.Proofs
def newG(d:Dc)(w nx:Int)(F G:List ByteArray)(i:Nat):List Nt:=
 [⟨nx+2*i,zy d.tiers 3,w,0,0,i,(F[i]?).getD .empty⟩,⟨nx+2*i+1,zy d.tiers 4,nx+2*i,0,0,0,(G[i]?).getD .empty⟩]
def yL(d:Dc)(w nx:Int)(F G:List ByteArray)(k:Nat):List Nt:=(List.range k).flatMap (newG d w nx F G)
theorem Vz(d:Dc)(w nx:Int)(F G:List ByteArray)(k:Nat):yL d w nx F G (k+1)=yL d w nx F G k++newG d w nx F G k:=by
 unfold yL;rw[List.range_succ,List.flatMap_append];simp
theorem Y0(d:Dc)(w nx:Int)(F G:List ByteArray):∀ k,(yL d w nx F G k).length=2*k
 |0=>rfl
 |k+1=>by rw[Vz,List.length_append,Y0 d w nx F G k];simp[newG];omega
def xI(l:List Nt)(nx:Int)(k:Nat):Bool:=(List.range k).any λi=>(zi l (nx+i)).2
theorem E8(l:List Nt)(nx:Int)(k:Nat):xI l nx (k+1)=(xI l nx k || (zi l (nx+k)).2):=by
 unfold xI;rw[List.range_succ,List.any_append];simp
def Y1(F:List ByteArray):Bool:=F.any λs=>decide (200<s.size)
def zP(d:Dc)(w nx:Int)(F G:List ByteArray):Dc:={d with notes:=qX (zE d w++yL d w nx F G F.length)}
def qw(d:Dc)(g:Lang)(w:Int)(ps:List Prt)(nx:Int):Dc×Int:=
 if (vQ d w).2≠0 then (jZ,(vQ d w).2)
 else if XH g (zi d.notes w).1.text ps=false then (jZ,23)
 else if (yc g ps).2.2≠0 then (jZ,(yc g ps).2.2)
 else if Y1 (yc g ps).1=true then (jZ,5)
 else if nx<1\/1099511627768<nx then (jZ,2)
 else if xI (zE d w) nx (2*(yc g ps).1.length)=true then (jZ,8)
 else if 300<(zE d w).length+2*(yc g ps).1.length then (jZ,11)
 else (zP d w nx (yc g ps).1 (yc g ps).2.1,0)
theorem KP{d:Dc}(h:Rgt d){w:Int}(F:yT d w=true):zi (zE d w) w=zi d.notes w:=by
 unfold yT at F
 rw[Bool.and_eq_true] at F
 obtain⟨E,K⟩:=jH F.1
 obtain⟨n,J⟩:∃ n,(zi d.notes w).1=n:=⟨_,rfl⟩
 rw[J] at E K
 have L:Xz d w n=false:=by
  unfold Xz;rw[decide_eq_false_iff_not];intro M;obtain⟨c,M,_,q⟩:=(uS h E).1 M;have O:=Xv h E M;have:=kQ h E (Vk h E M) (by rw[q,K])
  omega
 have H:=wP h E
 rw[K] at H
 rw[H]
 unfold zE
 unfold zi at H ⊢
 rw[List.find?_filter]
 have key:∀ l:List Nt,l.Pairwise (λa b=>a.id<b.id)->n∈l->List.find? (λa=>decide ((!Xz d w a)=true/\decide (a.id=w)=true)) l=some n:=by
  intro l Q G;rw[List.find?_eq_some_iff_append];obtain⟨l1,l2,rfl⟩:=List.append_of_mem G;refine⟨by simp[L,K],l1,l2,rfl,λa T=>?_⟩
  have:=(List.pairwise_append.1 Q).2.2 a T n List.mem_cons_self
  have:¬a.id=w:=by omega
  simp[this]
 rw[key _ h.inc E]
theorem note_text{d:Dc}(h:Rgt d)(id:Int):(zi d.notes id).1.text.size<=1024:=by
 cases H:(zi d.notes id).2 with
 |true=>
  have G:=(jH H).1;have F:=(h.nok _ G).e;rw[ZO] at F;split at F
  .rename_i ht
   unfold textE at ht;split at ht
   .cases ht
   .omega
  .rename_i ht;exact absurd F ht
 |false=>
  unfold zi at H ⊢;split at H
  .cases H
  .exact Nat.zero_le _
theorem zdc{d:Dc}(h:Rgt d)(g:Lang)(w:Int)(H:Fw d)(ps:List Prt)(nx:Int)(G:(vQ d w).2≠0):zj Tryz.prog 26 [zq d,g.d,int w,yI ps,int nx] (.tup [zq (qw d g w ps nx).1,int (qw d g w ps nx).2]):=by
 have F:=TU h w H
 unfold qw
 rw[if_pos G]
 generalize vQ d w=z at *
 obtain⟨x,e⟩:=z
 simp only at F G ⊢
 refine zn mixed Tryz.func26 rfl c_26 ?_
 simp+decide[Tryz.f26,zq,Dc.row,int,Lang.d,yI,yi]
 refine zg F ?_
 simp+decide[zq,Dc.row,int,G]
 exact⟨rfl,rfl,rfl⟩
def qY(d:Dc)(g:Lang)(ps:List Prt)(N:List Nt):List (Nat×Obj'):=
 [(0,.box 53 (zW d)),(1,.box 36 (yi g.d)),(2,.box 39 [.d (y9 ps)]),(3,.box 53 zeroCells),(8,.arr 72 7 (N.map Nt.row)),
  (10,.box 53 [.d (int d.id),.d (.str d.name),.d (int d.len),.d (int d.day),.d (ints d.spk),.d (zw d.tiers),.ar 8])]
def qZ(w nx:Int)(F G:List ByteArray):List (Nat×Sym):=
 [(2,.d (int w)),(4,.d (int nx)),(5,.bp 0 0),(6,.bp 1 0),(8,.bp 2 0),(10,.bp 3 0),(12,.bp 10 0),(16,.d (xH F)),(17,.d (xH G))]
theorem E9{g:Lang}:∀ {ps:List Prt} {x y:List ByteArray},y.length=x.length->(qg g ps x y).2.1.length=(qg g ps x y).1.length
 | [],x,y,h=>h
 |p::ps,x,y,h=>by
  unfold qg;split
  .rfl
  .exact E9 (by simp[h])
theorem KQ(g:Lang)(ps:List Prt):(yc g ps).2.1.length=(yc g ps).1.length:=by
 unfold yc
 split
 .rfl
 .exact E9 rfl
theorem XI(g:Lang){m:Nat}:Sym.los m (yi g.d):=by simp[yi,Lang.d,Sym.los,Sym.lo]
theorem zgi{d:Dc}(h:Rgt d)(g:Lang)(hL:LightF g)(hg:LangC g)(w:Int)(hC:zA Tryz.prog 22 [.d (zq d),.d (int w)] [] 0 (.tup [.agg [.d (int d.id),.d (.str d.name),.d (int d.len),.d (int d.day),.d (ints d.spk),.d (zw d.tiers),.ar 4],.d (int 0)]) 6 [(4,.arr 72 7 ((zE d w).map Nt.row))] [3,4])(ps:List Prt)(hp:ps.length<2^20)(nx:Int)(hr:xh d=true)(hw:yT d w=true):
  zj Tryz.prog 26 [zq d,g.d,int w,yI ps,int nx] (.tup [zq (qw d g w ps nx).1,int (qw d g w ps nx).2]):=by
 have S:=h.few
 have W:=Za h
 have H0:(vQ d w).2=0:=by unfold vQ;rw[if_neg (by rw[hr];decide),if_neg (by rw[hw];decide)]
 have Ga:(zE d w).length<=d.notes.length:=List.length_filter_le _ _
 have C:=ZM (jj d w) w (by simp only[jj];omega)
 have V:=za2 g hL hg (zi d.notes w).1.text (note_text h w) ps hp
 have H1:=zgh g hL hg ps hp
 have H2:=zdb g ps
 have Hb:=KQ g ps
 have Hc:=Xo d (by omega)
 rw[show(jj d w).notes=zE d w from rfl,KP h hw] at C
 obtain⟨E,hE⟩:∃ E,qw d g w ps nx=E:=⟨_,rfl⟩
 rw[hE]
 unfold qw at hE
 rw[if_neg (by simp[H0])] at hE
 refine gA mixed Tryz.func26 rfl c_26 [8] ?_
 simp+decide[Tryz.f26,zq,Dc.row,int,Lang.d,yI,yi]
 refine zC.mut [] [.d (zq d),.d (int w)] [] (by rfl) (by simp[zq,Dc.row,int]) (by simp) (by simp) hC ?_
 simp+decide[int]
 refine zg C ?_
 simp+decide[getD',Nt.row,int]
 refine zg V ?_
 cases J:XH g (zi d.notes w).1.text ps with
 |false=>
  rw[if_pos J] at hE;subst hE;simp+decide[int];exact⟨rfl,rfl,rfl⟩
 |true=>
 rw[if_neg (by rw[J];decide)] at hE
 simp+decide[int]
 refine zg H1 ?_
 generalize yc g ps=z at *
 obtain⟨F,G,e⟩:=z
 simp only at hE H2 Hb
 by_cases he:e=0
 case neg=>
  rw[if_pos he] at hE;subst hE;simp+decide[int,he];exact⟨rfl,rfl,rfl⟩
 subst he
 rw[if_neg (by decide)] at hE
 simp+decide[int,xH]
 refine x9 mixed (λk:Nat=>{n:=145,next:=12,slots:=(60,.d (xH F))::(61,.d (int F.length))::(62,.d (int k))::qZ w nx F G,own:=qY d g ps (zE d w),moved:=[7,8]})
  (λk=>k<=F.length/\Y1 (F.take k)=false) (λk=>F.length-k) 0 ⟨Nat.zero_le _,rfl⟩ ?_ ?_
 .simp+decide[int,qZ,qY,xH,yi,Lang.d]
 rintro k ⟨hk,T⟩
 refine ya mixed ?_
 by_cases O:k<F.length
 case pos=>
  have H:(k:Int)<F.length:=by omega
  obtain⟨s,es⟩:∃ s,F[k]=s:=⟨_,rfl⟩;have e1:F[k]?=some s:=by rw[List.getElem?_eq_getElem O,es]
  by_cases hs:200<s.size
  .have X:(200:Int)<s.size:=by omega
   have Hd:Y1 F=true:=List.any_eq_true.2 ⟨s,by rw[<-es];exact List.getElem_mem O,by simpa using hs⟩
   rw[if_pos Hd] at hE;subst hE;simp+decide[int,qZ,qY,xH,O,H,es,e1,hs,X,I64];exact⟨rfl,rfl,rfl⟩
  .have X:¬(200:Int)<s.size:=by omega
   simp+decide[int,qZ,qY,xH,O,H,es,e1,hs,X,I64];refine⟨⟨by omega,by omega⟩,k+1,⟨O,?_⟩,by omega,by omega,XI g⟩
   unfold Y1 at T ⊢;rw[List.take_succ_eq_append_getElem O,List.any_append,T,es];simp[hs]
 have Hh:k=F.length:=by omega
 rw[Hh,List.take_length] at T
 have H:¬(k:Int)<F.length:=by omega
 rw[if_neg (by rw[T];decide)] at hE
 by_cases h1:nx<1
 .rw[if_pos (.inl h1)] at hE
  subst hE;simp+decide[int,qZ,qY,xH,H,h1,I64];exact⟨rfl,rfl,rfl⟩
 by_cases h2:1099511627768<nx
 .rw[if_pos (.inr h2)] at hE
  subst hE;simp+decide[int,qZ,qY,xH,H,h1,h2,I64];exact⟨rfl,rfl,rfl⟩
 rw[if_neg (λe=>e.elim h1 h2)] at hE
 simp+decide[int,qZ,qY,xH,H,h1,h2,I64]
 refine⟨⟨by omega,by omega⟩,?_⟩
 refine x9 mixed (λk:Nat=>{n:=145,next:=12,slots:=(80,.d (int (2*F.length)))::(81,.d (int k))::qZ w nx F G,own:=qY d g ps (zE d w),moved:=[7,8]})
  (λk=>k<=2*F.length/\xI (zE d w) nx k=false) (λk=>2*F.length-k) 0 ⟨Nat.zero_le _,rfl⟩ ?_ ?_
 .simp+decide[int,qZ,qY,xH]
  exact XI g
 rintro q ⟨hq,Y⟩
 refine ya mixed ?_
 by_cases I:q<2*F.length
 case pos=>
  have K:(q:Int)<2*F.length:=by omega
  have N:=ZM (jj d w) (nx+q) (by simp only[jj];omega)
  rw[show(jj d w).notes=zE d w from rfl] at N
  have Z:=E8 (zE d w) nx q;generalize zi (zE d w) (nx+q)=r at *;obtain⟨n,ok⟩:=r;simp only[Y,Bool.false_or] at Z;simp+decide[int,qZ,qY,xH,I,K,I64];refine⟨⟨by omega,by omega⟩,?_⟩
  refine zg N ?_
  cases ok with
  |true=>
   have Hi:xI (zE d w) nx (2*F.length)=true:=by
    have:∀ m,xI (zE d w) nx (q+1+m)=true:=by
     intro m;induction m with
     |zero=>exact Z
     |succ m ih=>rw[<-Nat.add_assoc,E8,ih];rfl
    have h:=this (2*F.length-(q+1));rwa [show q+1+(2*F.length-(q+1))=2*F.length by omega] at h
   rw[if_pos Hi] at hE;subst hE;simp+decide[getD',Nt.row,int];exact⟨rfl,rfl,rfl⟩
  |false=>
   simp+decide[getD',Nt.row,int,I64];exact⟨⟨by omega,by omega⟩,q+1,⟨I,Z⟩,by omega,by omega,XI g⟩
 have Hp:q=2*F.length:=by omega
 rw[Hp] at Y
 have K:¬(q:Int)<2*F.length:=by omega
 rw[if_neg (by rw[Y];decide)] at hE
 by_cases h3:300<(zE d w).length+2*F.length
 .have A:(300:Int)<(zE d w).length+2*F.length:=by omega
  rw[if_pos h3] at hE;subst hE;simp+decide[int,qZ,qY,xH,K,h3,A,I64];exact⟨⟨by omega,by omega⟩,⟨by omega,by omega⟩,rfl,rfl,rfl⟩
 have A:¬(300:Int)<(zE d w).length+2*F.length:=by omega
 rw[if_neg h3] at hE
 simp+decide[int,qZ,qY,xH,K,h3,A,I64]
 refine⟨⟨by omega,by omega⟩,⟨by omega,by omega⟩,?_⟩
 refine zg Hc ?_
 simp+decide[wQ,int]
 refine x9 mixed (λk:Nat=>{n:=145,next:=13,slots:=(23,.bp 12 0)::(107,.d (int F.length))::(108,.d (int k))::qZ w nx F G,own:=(12,.box 112 [.d (int (zy d.tiers 2)),.d (int (zy d.tiers 3)),.d (int (zy d.tiers 4))])::qY d g ps (zE d w++yL d w nx F G k),moved:=[7,8]})
  (λk=>k<=F.length) (λk=>F.length-k) 0 (Nat.zero_le _) ?_ ?_
 .simp+decide[int,qZ,qY,xH,yL]
  exact XI g
 intro i hi
 refine ya mixed ?_
 by_cases J:i<F.length
 case neg=>
  have:i=F.length:=by omega
  subst this;have L:¬(F.length:Int)<F.length:=by omega
  have Hs:zE d w++yL d w nx F G F.length≠[]:=by
   intro e0;have P:=KP h hw;have:zE d w=[]:=(List.append_eq_nil_iff.1 e0).1
   rw[this] at P;unfold yT at hw;rw[<-P] at hw;simp[zi] at hw
  have hS:=A0 (zE d w++yL d w nx F G F.length) Hs (by rw[List.length_append,Y0];omega)
  simp+decide[int,qZ,qY,xH];simp only[<-List.map_append];refine zC.mut [8] [.ar 0,.fn 66 []] [(0,.arr 72 7 ((zE d w++yL d w nx F G F.length).map Nt.row))] (by rfl) (by simp[int]) (by simp[Sym.los,Sym.lo]) (by simp) hS ?_
  subst hE;simp+decide[int,zP];exact rfl
 have L:(i:Int)<F.length:=by omega
 obtain⟨s,es⟩:∃ s,F[i]=s:=⟨_,rfl⟩
 have e1:F[i]?=some s:=by rw[List.getElem?_eq_getElem J,es]
 have B:i<G.length:=by omega
 have Q:(i:Int)<G.length:=by omega
 obtain⟨u,eu⟩:∃ u,G[i]=u:=⟨_,rfl⟩
 have e2:G[i]?=some u:=by rw[List.getElem?_eq_getElem B,eu]
 have hsn:=Vz d w nx F G i
 have Hx:=Y0 d w nx F G i
 unfold newG at hsn
 rw[e1,e2] at hsn
 generalize yL d w nx F G i=M at hsn Hx
 simp+decide[int,qZ,qY,xH,J,L,B,Q,es,e1,eu,e2,I64]
 refine⟨⟨by omega,by omega⟩,⟨by omega,by omega⟩,?_⟩
 refine G4 mixed 23 (by rfl) (by rfl) (by rfl) (by rfl) (by simp) ?_
 simp+decide[int,xH,J,L,B,Q,es,e1,eu,e2,I64,maxLen]
 exact⟨⟨by omega,by omega⟩,by omega,by omega,⟨by omega,by omega⟩,i+1,J,by omega,by omega,by simp[yi,Lang.d,yk,zo],XI g,by rw[hsn];simp[Nt.row,int]⟩
theorem ziu{d:Dc}(h:Rgt d)(g:Lang)(H:LightF g)(G:LangC g)(w:Int)(F:Fw d)(ps:List Prt)(E:ps.length<2^20)(nx:Int):
  zj Tryz.prog 26 [zq d,g.d,int w,yI ps,int nx] (.tup [zq (qw d g w ps nx).1,int (qw d g w ps nx).2]):=by
 by_cases K:(vQ d w).2=0
 .unfold vQ at K
  cases J:xh d with
  |false=>rw[if_pos J] at K;cases K
  |true=>
   rw[if_neg (by rw[J];decide)] at K
   cases L:yT d w with
   |false=>rw[if_pos L] at K;cases K
   |true=>exact zgi h g H G w (Bo h w J L F) ps E nx J L
 .exact zdc h g w F ps nx K
abbrev jo(l:List Nt):Prop:=l.Pairwise λa b=>a.id<b.id
theorem zdd{l:List Nt}(h:(l.map (·.id)).Nodup):jo (qX l):=by
 have G:=TY l
 have h2:((qX l).map (·.id)).Nodup:=((Vs l).map _).nodup_iff.2 h
 rw[List.nodup_iff_pairwise_ne,List.pairwise_map] at h2
 exact(List.pairwise_and_iff.2 ⟨G,h2⟩).imp λ{a b} H=>by have:=H.1;have:=H.2;omega
theorem KR{d:Dc}{w nx:Int}{F G:List ByteArray}:∀ (k:Nat),jo (yL d w nx F G k)/\∀ n∈yL d w nx F G k,∃ j:Nat,j<2*k/\n.id=nx+j
 |0=>⟨by simp[yL,jo],by simp[yL]⟩
 |k+1=>by
  obtain⟨H,h2⟩:=KR (d:=d) (w:=w) (nx:=nx) (F:=F) (G:=G) k;rw[Vz];refine⟨List.pairwise_append.2 ⟨H,by simp[newG];omega,λa E b K=>?_⟩,λn J=>?_⟩
  .obtain⟨j,L,e⟩:=h2 a E
   simp only[newG,List.mem_cons,List.not_mem_nil,or_false] at K;rcases K with rfl | rfl <;> simp only <;> omega
  .rcases List.mem_append.1 J with J | J
   .obtain⟨j,L,e⟩:=h2 n J
    exact⟨j,by omega,e⟩
   .simp only[newG,List.mem_cons,List.not_mem_nil,or_false] at J
    rcases J with rfl | rfl
    .exact⟨2*k,by omega,by simp only;omega⟩
    .exact⟨2*k+1,by omega,by simp only;omega⟩
theorem Ea{l:List Nt}{x:Nt}(h:x∈l):(zi l x.id).2=true:=by
 unfold zi
 cases H:l.find? λm=>decide (m.id=x.id) with
 |none=>rw[List.find?_eq_none] at H;exact absurd (H x h) (by simp)
 |some m=>rfl
theorem Eb{l:List Nt}{nx:Int}{k:Nat}(h:xI l nx k=false){x:Nt}(H:x∈l){j:Nat}(G:j<k):x.id≠nx+j:=by
 intro e
 unfold xI at h
 have:=List.any_eq_false.1 h j (List.mem_range.2 G)
 rw[<-e,Ea H] at this
 exact this rfl
theorem VA{d:Dc}(h:Rgt d)(w:Int):jo (zE d w):=h.inc.sublist List.filter_sublist
theorem zde{d:Dc}{w nx:Int}{F G:List ByteArray}{k:Nat}(h:xI (zE d w) nx (2*k)=false):∀ n∈yL d w nx F G k,∀ x∈zE d w,x.id≠n.id:=by
 intro n H x E e
 obtain⟨j,K,e2⟩:=(KR k).2 n H
 exact Eb h E K (by rw[e,e2])
theorem zgj{d:Dc}(h:Rgt d){w nx:Int}{F G:List ByteArray}{k:Nat}(H:xI (zE d w) nx (2*k)=false):((zE d w++yL d w nx F G k).map (·.id)).Nodup:=by
 rw[List.nodup_iff_pairwise_ne,List.pairwise_map,List.pairwise_append]
 exact⟨(VA h w).imp λ{a b} e=>by omega,(KR k).1.imp λ{a b} e=>by omega,λa E b K=>zde H b K a E⟩
end Go.V.Doc
namespace Go.V.Doc
open Go Go.Proofs
theorem kU{l:List Nt}(h:jo l){n:Nt}(H:n∈l):zi l n.id=(n,true):=by
 have h2:=Ea H
 obtain⟨G,F⟩:=jH h2
 refine Prod.ext ?_ h2
 obtain⟨i,hi,e1⟩:=List.mem_iff_getElem.1 G
 obtain⟨j,E,e2⟩:=List.mem_iff_getElem.1 H
 have K:=List.pairwise_iff_getElem.1 h
 rw[<-e1,<-e2] at F
 rcases Nat.lt_trichotomy i j with q | q | q
 .have:=K i j hi E q;omega
 .subst q;rw[<-e1,e2]
 .have:=K j i E hi q;omega
theorem KT{a b:List Nt}(G:jo a)(F:jo b)(h:∀ m,m∈a↔m∈b):a=b:=by
 have nd:∀ {l:List Nt},jo l->l.Nodup:=λ{l} E=>E.imp λ{x y} H e=>by rw[e] at H;omega
 exact List.Perm.eq_of_pairwise (le:=λa b=>a.id<b.id) (λa b _ _ r1 r2=>by omega) G F ((List.perm_ext_iff_of_nodup (nd G) (nd F)).2 h)
theorem zdf{d x:Dc}(H:x.tiers=d.tiers)(G:x.len=d.len){n:Nt}(F:(zx d n.tier).kind≠0->zi x.notes n.par=zi d.notes n.par):jc x n=jc d n:=by
 have e:∀ i,zx x i=zx d i:=λi=>by unfold zx;rw[H]
 unfold jc vo
 simp only[e,H,G]
 by_cases E:(zx d n.tier).kind=0
 .simp only[E,if_true]
 .rw[F E]
theorem Ec{d:Dc}{n:Nt}(H:(zx d n.tier).kind≠0)(h2:(zi d.notes n.par).2=true/\(zi d.notes n.par).1.tier=(zx d n.tier).par)
  (G:vo d n (zi d.notes n.par).1=true) (F:0<=n.rank/\(n.rank=0\/(zx d n.tier).kind=3)):jc d n=0:=by
 unfold jc
 rw[if_pos (by rw[if_neg H];simp[h2]),if_pos G,if_neg (by omega)]
theorem Rgt.grow{d x:Dc}(h:Rgt d)(E:x.tiers=d.tiers)(K:x.len=d.len)(J:x.notes.length<=300)(hi:jo x.notes)
  (L:∀ n∈x.notes,(n∈d.notes/\((zx d n.tier).kind≠0->zi x.notes n.par=zi d.notes n.par)/\∀ m,m.tier=n.tier->m.par=n.par->(m∈x.notes↔m∈d.notes)) \/
   (Nok x n/\((zx d n.tier).kind=3/\je (yf x.notes n.tier n.par)=true\/(zx d n.tier).kind=4/\(yf x.notes n.tier n.par).length<=1))):Rgt x:=by
 have e:∀ i,zx x i=zx d i:=λi=>by unfold zx;rw[E]
 have hs:∀ n:Nt,(∀ m,m.tier=n.tier->m.par=n.par->(m∈x.notes↔m∈d.notes))->yf x.notes n.tier n.par=yf d.notes n.tier n.par:=λn M=>by
  unfold yf;refine KT (hi.sublist List.filter_sublist) (h.inc.sublist List.filter_sublist) λm=>?_
  simp only[List.mem_filter,Bool.and_eq_true,decide_eq_true_eq];exact⟨λq=>⟨(M m q.2.1 q.2.2).1 q.1,q.2⟩,λq=>⟨(M m q.2.1 q.2.2).2 q.1,q.2⟩⟩
 refine⟨by rw[E];exact h.tiers,by rw[K];exact h.len,J,λn O=>?_,hi,λt F=>?_⟩
 .rcases L n O with⟨Q,h2,_⟩ | ⟨Q,_⟩
  .have o:=h.nok n Q
   refine⟨o.lo,o.hi,o.t0,by rw[E];exact o.t1,?_⟩
   have T:=o.e;rw[ZO] at T ⊢;rw[zdf E K h2];exact T
  .exact Q
 .have G:=CJ.1 (h.ter t (by rw[<-E];exact F))
  rw[CJ,e];refine⟨λn V=>?_,λn V=>?_⟩ <;> obtain⟨O,et⟩:=Kp.1 V <;> rcases L n O with⟨Q,h2,M⟩ | ⟨_,M⟩
  .have H:=hs n M
   have X:=G.1 n (Kp.2 ⟨Q,et⟩);rw[et] at H;unfold jG at X ⊢;rw[H];exact X
  .rw[et] at M
   unfold jG;rcases M with⟨k,_⟩ | ⟨k,_⟩ <;> rw[k] <;> rfl
  .have H:=hs n M
   have X:=G.2 n (Kp.2 ⟨Q,et⟩);rw[et] at H h2;unfold badR at X ⊢;rw[H];by_cases k1:(zx d t).kind=1
   .rw[h2 (by rw[k1];decide)];exact X
   .simp only[k1,decide_false,Bool.false_and] at X ⊢;exact X
  .rw[et] at M
   unfold badR;rcases M with⟨k,q⟩ | ⟨k,q⟩
   .rw[k,q];rfl
   .rw[k,decide_eq_false (show ¬1<(yf x.notes t n.par).length by omega)];rfl
section
variable {d:Dc} {w:Int}
theorem zgk(h:Rgt d){m n:Nt}(H:m∈d.notes)(G:n∈d.notes)(F:m.tier=n.tier)(E:m.par=n.par):m.id∈ZW d w↔n.id∈ZW d w:=by
 rw[uS h H,uS h G,(yA h H).1,(yA h G).1,E]
 simp only[List.mem_cons,or_and_right,exists_or,exists_eq_left,F,E]
theorem w9{n:Nt}:n∈zE d w↔n∈d.notes/\n.id∉ZW d w:=by
 unfold zE Xz
 simp only[List.mem_filter,Bool.not_eq_true',decide_eq_false_iff_not]
theorem KU(h:Rgt d){n:Nt}(G:n∈zE d w)(F:(zx d n.tier).kind≠0):∃ p∈zE d w,zi d.notes n.par=(p,true)/\p.id=n.par:=by
 obtain⟨E,h2⟩:=w9.1 G
 obtain⟨t,H,et⟩:=h.Ku E
 rw[et] at F
 obtain⟨p1,p2⟩:=h.parent ⟨E,et⟩ H F
 have K:=wP h p1.1
 rw[p2] at K
 refine⟨_,w9.2 ⟨p1.1,λJ=>h2 ?_⟩,K,p2⟩
 obtain⟨c,q1,q2,q3⟩:=(uS h p1.1).1 J
 refine(uS h E).2 ⟨c,?_,q2,q3⟩
 rw[(yA h E).1,K]
 unfold chainE
 rw[if_pos rfl]
 exact List.mem_cons_of_mem _ q1
theorem zes(h:Rgt d):Rgt (jj d w):=by
 refine h.grow rfl rfl (Nat.le_trans (List.length_filter_le _ _) h.few) (VA h w) λn H=>.inl ?_
 have H:n∈zE d w:=H
 obtain⟨G,h2⟩:=w9.1 H
 refine⟨G,λF=>?_,λm a b=>⟨λE=>(w9.1 E).1,λE=>w9.2 ⟨E,λK=>h2 ((zgk h E G a b).1 K)⟩⟩⟩
 obtain⟨p,J,L,e⟩:=KU h H F
 rw[L,<-e]
 exact kU (VA h w) J
end
theorem KV{l:List Tir}{t:Tir}(h:qe l t=0):(t.role=0\/wK l t.role=false)/\((t.role=3->t.kind=3/\0<=t.par/\t.par<l.length/\(l[t.par.toNat]?.getD default).role=2)/\(t.role=4->t.kind=4/\0<=t.par/\t.par<l.length/\(l[t.par.toNat]?.getD default).role=3)):=by
 unfold qe at h
 split at h
 .cases h
 split at h
 .cases h
 split at h
 .cases h
 split at h
 .cases h
 split at h
 .cases h
 rename_i H
 refine⟨.inr (by simpa using H),?_⟩
 split at h
 .rename_i k0
  split at h
  .unfold uH at h
   constructor <;> intro r <;> rw[r,k0] at h <;> simp at h
  .cases h
 split at h
 .cases h
 rename_i k0 G
 split at h
 .cases h
 unfold uH at h
 constructor <;> intro r <;> rw[r] at h <;> simp at h
 .split at h
  .split at h
   .exact⟨by assumption,by omega,by omega,by assumption⟩
   .cases h
  .cases h
 .split at h
  .split at h
   .exact⟨by assumption,by omega,by omega,by assumption⟩
   .cases h
  .cases h
theorem zho{d:Dc}(h:Rgt d){t:Nat}(H:t<d.tiers.length){r:Int}(G:r≠0)(F:(d.tiers[t]).role=r):zy d.tiers r=t:=by
 have E:=(KV (h.good.tiers t H)).1
 rw[F] at E
 unfold zy Z9
 rw[if_neg G,CN H (λe K=>?_) (by simp[F])]
 rcases E with E | E
 .exact absurd E G
 .unfold wK at E
  rw[decide_eq_false G,Bool.not_false,Bool.true_and,List.any_eq_false] at E;exact Bool.eq_false_iff.2 (E e K)
theorem Ed{d:Dc}{r:Int}(H:r≠0)(h:0<=zy d.tiers r):∃ t:Nat,zy d.tiers r=t/\∃ G:t<d.tiers.length,(d.tiers[t]).role=r:=by
 unfold zy at h ⊢
 rw[if_neg H] at h ⊢
 obtain⟨t,et,G,F⟩:=Sr h
 exact⟨t,et,G,of_decide_eq_true F⟩
theorem Ee{d:Dc}(h:Rgt d){t:Nat}(H:t<d.tiers.length){r:Int}(G:r≠0)(F:0<=(d.tiers[t]).par)(h2:(d.tiers[t]).par<(d.tiers.take t).length)(E:((d.tiers.take t)[(d.tiers[t]).par.toNat]?.getD default).role=r):(zx d t).par=zy d.tiers r:=by
 rw[Vh d H]
 rw[List.length_take] at h2
 have K:(d.tiers[t]).par.toNat<d.tiers.length:=by omega
 rw[List.getElem?_take,if_pos (by omega),List.getElem?_eq_getElem K,Option.getD_some] at E
 rw[zho h K G E];omega
structure Tiered(d:Dc):Prop where
 m:(zx d (zy d.tiers 3)).kind=3/\(zx d (zy d.tiers 3)).par=zy d.tiers 2/\0<=zy d.tiers 3/\zy d.tiers 3<d.tiers.length
 g:(zx d (zy d.tiers 4)).kind=4/\(zx d (zy d.tiers 4)).par=zy d.tiers 3/\0<=zy d.tiers 4/\zy d.tiers 4<d.tiers.length
theorem XJ{d:Dc}(h:Rgt d)(H:xh d=true):Tiered d:=by
 unfold xh at H
 simp only[Bool.and_eq_true,decide_eq_true_eq] at H
 obtain⟨t3,e3,l3,r3⟩:=Ed (by decide) H.2.1
 obtain⟨t4,e4,l4,r4⟩:=Ed (by decide) H.2.2
 obtain⟨k3,a1,a2,a3⟩:=(KV (h.good.tiers t3 l3)).2.1 r3
 obtain⟨k4,b1,b2,b3⟩:=(KV (h.good.tiers t4 l4)).2.2 r4
 refine⟨?_,?_⟩
 .rw[e3,Ee h l3 (by decide) a1 a2 a3,Vh d l3]
  exact⟨k3,rfl,by omega,by omega⟩
 .rw[e4,Ee h l4 (by decide) b1 b2 b3,Vh d l4]
  exact⟨k4,rfl,by omega,by omega⟩
section
variable {d:Dc} {w nx:Int} {F G:List ByteArray}
abbrev wY(d:Dc)(w nx:Int)(F:List ByteArray)(i:Nat):Nt:=⟨nx+2*i,zy d.tiers 3,w,0,0,i,(F[i]?).getD .empty⟩
abbrev Y2(d:Dc)(nx:Int)(G:List ByteArray)(i:Nat):Nt:=⟨nx+2*i+1,zy d.tiers 4,nx+2*i,0,0,0,(G[i]?).getD .empty⟩
theorem vU{k:Nat}{n:Nt}:n∈yL d w nx F G k↔∃ i,i<k/\(n=wY d w nx F i\/n=Y2 d nx G i):=by
 unfold yL newG
 simp only[List.mem_flatMap,List.mem_range,List.mem_cons,List.not_mem_nil,or_false]
theorem vv{n:Nt}:n∈(zP d w nx F G).notes↔n∈zE d w\/n∈yL d w nx F G F.length:=(Vs _).mem_iff.trans List.mem_append
theorem uW(h:Rgt d)(H:xI (zE d w) nx (2*F.length)=false):jo (zP d w nx F G).notes:=zdd (zgj h H)
theorem zet{l:List Nt}(h:jo l):l.Nodup:=h.imp λ{x y} H e=>by rw[e] at H;omega
theorem zeu(h:Rgt d)(H:yT d w=true)(E:xI (zE d w) nx (2*F.length)=false):∃ n∈zE d w,n.id=w/\n.tier=zy d.tiers 2/\zi (zP d w nx F G).notes w=(n,true)/\zi d.notes w=(n,true):=by
 have e:=KP h H
 unfold yT at H
 rw[Bool.and_eq_true,decide_eq_true_eq] at H
 have K:=jH (l:=zE d w) (id:=w) (by rw[e];exact H.1)
 rw[e] at K
 have h2:=kU (uW (G:=G) h E) (vv.2 (.inl K.1))
 rw[K.2] at h2
 exact⟨_,K.1,K.2,H.2,h2,Prod.ext rfl H.1⟩
theorem Ef(H:zy d.tiers 4≠zy d.tiers 3):∀ k,((yL d w nx F G k).filter λn=>decide (n.tier=zy d.tiers 3)&&decide (n.par=w)).length<=k
 |0=>by simp[yL]
 |k+1=>by
  have:=Ef H k
  rw[Vz,List.filter_append,List.length_append];have:((newG d w nx F G k).filter λn=>decide (n.tier=zy d.tiers 3)&&decide (n.par=w)).length<=1:=by simp[newG,H]
  omega
theorem VB(h:Rgt d){n:Nt}(H:n∈zE d w)(G:n.tier=zy d.tiers 3)(h2:n.par=w):False:=
 (w9.1 H).2 ((uS h (w9.1 H).1).2 ⟨n,ZS h (w9.1 H).1,G,h2⟩)
theorem VC(h:Rgt d)(H:Tiered d)(G:xI (zE d w) nx (2*F.length)=false){i:Nat}(hi:i<F.length){n:Nt}(E:n∈zE d w)(K:n.tier=zy d.tiers 4)(h2:n.par=nx+2*i):False:=by
 obtain⟨p,J,_,e⟩:=KU h E (by rw[K,H.g.1];decide)
 exact Eb G J (j:=2*i) (by omega) (by rw[e,h2];omega)
theorem zgl(h:Rgt d)(Q:xh d=true)(T:yT d w=true)(V:∀ s∈F,textE s=0)(X:∀ s∈G,textE s=0)(Y:G.length=F.length)(Z:1<=nx)(h2:nx+2*F.length<=1099511627777)
  (A:xI (zE d w) nx (2*F.length)=false) (B:(zE d w).length+2*F.length<=300):Rgt (zP d w nx F G):=by
 have C:=XJ h Q
 have J:zy d.tiers 4≠zy d.tiers 3:=λe=>by have:=C.g.1;rw[e,C.m.1] at this;cases this
 have E:=uW (G:=G) h A
 have K:∀ {L:List ByteArray} {i:Nat},(∀ s∈L,textE s=0)->i<L.length->textE ((L[i]?).getD .empty)=0:=λ{L i} I hi=>by
  rw[List.getElem?_eq_getElem hi];exact I _ (List.getElem_mem hi)
 have H:∀ i,zx (zP d w nx F G) i=zx d i:=λ_=>rfl
 refine(zes h (w:=w)).grow rfl rfl ?_ E λn N=>?_
 .show(qX _).length<=300
  rw[Vr,List.length_append,Y0];exact B
 rcases vv.1 N with P | P
 .left
  refine⟨P,λhk=>?_,λm a b=>⟨λS=>?_,λS=>vv.2 (.inl S)⟩⟩
  .obtain⟨p,W,_,e⟩:=KU h P hk
   have e2:zi (jj d w).notes n.par=(p,true):=by rw[<-e];exact kU (VA h w) W
   rw[e2,<-e];exact kU E (vv.2 (.inl W))
  .rcases vv.1 S with S | S
   .exact S
   .obtain⟨i,hi,rfl | rfl⟩:=vU.1 S
    .exact(VB h P a.symm b.symm).elim
    .exact(VC h C A hi P a.symm b.symm).elim
 .right
  obtain⟨i,hi,e⟩:=vU.1 P;rcases e with rfl | rfl
  .obtain⟨p,W,_,pt,hg,_⟩:=zeu (G:=G) h T A
   refine⟨⟨by simp only;omega,by simp only;omega,C.m.2.2.1,C.m.2.2.2,?_⟩,.inl ⟨C.m.1,?_⟩⟩
   .rw[ZO,if_pos (K V hi)]
    refine Ec (by rw[H,C.m.1];decide) (by rw[H,hg];exact⟨rfl,by rw[C.m.2.1];exact pt⟩) ?_ ⟨by simp only;omega,.inr (by rw[H];exact C.m.1)⟩
    unfold vo;rw[if_neg]
    .simp
    .rw[Xj (d:=zP d w nx F G) C.m.2.2.1 C.m.2.2.2,H,C.m.1];decide
   .rw[Xd]
    intro j hj;have M:(yf (zP d w nx F G).notes (zy d.tiers 3) w).length<=F.length:=by
     unfold yf;show((qX (zE d w++yL d w nx F G F.length)).filter _).length<=F.length
     rw[((Vs (zE d w++yL d w nx F G F.length)).filter _).length_eq,List.filter_append,List.length_append];have e0:(zE d w).filter (λn=>decide (n.tier=zy d.tiers 3)&&decide (n.par=w))=[]:=by
      rw[List.filter_eq_nil_iff];intro m S e;rw[Bool.and_eq_true,decide_eq_true_eq,decide_eq_true_eq] at e;exact VB h S e.1 e.2
     rw[e0];have:=Ef (w:=w) (nx:=nx) (F:=F) (G:=G) J F.length
     simp only[List.length_nil,Nat.zero_add];exact this
    have O:j<F.length:=Nat.lt_of_lt_of_le hj M
    rw[List.any_eq_true];exact⟨wY d w nx F j,List.mem_filter.2 ⟨vv.2 (.inr (vU.2 ⟨j,O,.inl rfl⟩)),by simp⟩,by simp⟩
  .have hg:=kU E (vv.2 (.inr (vU.2 ⟨i,hi,.inl rfl⟩)))
   refine⟨⟨by simp only;omega,by simp only;omega,C.g.2.2.1,C.g.2.2.2,?_⟩,.inr ⟨C.g.1,?_⟩⟩
   .rw[ZO,if_pos (K X (by omega))]
    refine Ec (by rw[H,C.g.1];decide) (by rw[H];simp only at hg ⊢;rw[hg];exact⟨rfl,by rw[C.g.2.1]⟩) ?_ ⟨by simp only;omega,.inl rfl⟩
    unfold vo;rw[if_neg]
    .simp
    .rw[Xj (d:=zP d w nx F G) C.g.2.2.1 C.g.2.2.2,H,C.g.1];decide
   .refine Ss ((zet E).sublist List.filter_sublist) λa ha b hb=>?_
    have key:∀ m,m∈yf (zP d w nx F G).notes (zy d.tiers 4) (nx+2*i)->m=Y2 d nx G i:=λm S=>by
     unfold yf at S;rw[List.mem_filter,Bool.and_eq_true,decide_eq_true_eq,decide_eq_true_eq] at S;obtain⟨q1,q2,q3⟩:=S;rcases vv.1 q1 with q | q
     .exact(VC h C A hi q q2 q3).elim
     .obtain⟨j,hj,rfl | rfl⟩:=vU.1 q
      .exact absurd q2.symm J
      .obtain rfl:j=i:=by simp only at q3;omega
       rfl
    rw[key a ha,key b hb]
end
end Go.V.Doc
namespace Go.V.Doc
open Go Go.Proofs Go.Lib
theorem decodeN_more(n m b0 b1 b2 b3 c1 c2 c3:Nat)(H:n<=m)(G:1<n->c1=b1)(h2:2<n->c2=b2)(F:3<n->c3=b3)(E:¬((decodeN n b0 b1 b2 b3).1=65533/\(decodeN n b0 b1 b2 b3).2=1))(K:1<=n):
  decodeN m b0 c1 c2 c3=decodeN n b0 b1 b2 b3/\(decodeN n b0 b1 b2 b3).2<=n/\1<=(decodeN n b0 b1 b2 b3).2:=by
 by_cases n1:1<n
 .have:=G n1;subst this
  by_cases n2:2<n
  .have:=h2 n2;subst this
   by_cases n3:3<n
   .have:=F n3;subst this
    have m1:1<m:=by omega
    have m2:2<m:=by omega
    have m3:3<m:=by omega
    revert E
    unfold decodeN;simp only[n1,n2,n3,m1,m2,m3,true_and];intro E;constructor <;> (repeat' split) <;> (simp only;omega)
   .revert E
    unfold decodeN;have m1:1<m:=by omega
    have m2:2<m:=by omega
    simp only[n1,n2,n3,m1,m2,true_and,false_and,and_false,if_false];repeat' split
    all_goals intro E
    all_goals first | exact absurd ⟨rfl,rfl⟩ E | (refine⟨rfl,?_⟩;simp only;omega) | (exfalso;omega)
  .revert E
   unfold decodeN;have m1:1<m:=by omega
   simp only[n1,n2,m1,true_and,false_and,and_false,if_false];repeat' split
   all_goals intro E
   all_goals first | exact absurd ⟨rfl,rfl⟩ E | (refine⟨rfl,?_⟩;simp only;omega) | (exfalso;omega)
 .revert E
  unfold decodeN;simp only[n1,false_and,and_false,if_false];repeat' split
  all_goals intro E
  all_goals first | exact absurd ⟨rfl,rfl⟩ E | (refine⟨rfl,?_⟩;simp only;omega) | (exfalso;omega)
theorem Eg:∀ (k:Nat) (a b:List UInt8),a.length<=k->validD a=true->validD (a++b)=validD b
 |0,a,b,G,_=>by
  obtain rfl:a=[]:=List.eq_nil_of_length_eq_zero (by omega)
  rfl
 |k+1,a,b,G,h=>by
  by_cases e:a=[]
  .subst e;rfl
  have H:0<a.length:=List.length_pos_iff.2 e
  rw[validD_step a e] at h;split at h
  .cases h
  rename_i F;rw[decodeL_N] at F;have E:∀ i,i<a.length->(a++b).getD i 0=a.getD i 0:=λi hi=>by
   simp only[List.getD_eq_getElem?_getD];rw[List.getElem?_append_left hi]
  have K:=decodeN_more a.length (a++b).length (a.getD 0 0).toNat (a.getD 1 0).toNat (a.getD 2 0).toNat (a.getD 3 0).toNat ((a++b).getD 1 0).toNat ((a++b).getD 2 0).toNat ((a++b).getD 3 0).toNat (by simp) (λq=>by rw[E 1 q]) (λq=>by rw[E 2 q]) (λq=>by rw[E 3 q]) F H
  obtain⟨d1,d2,d3⟩:=K;have e2:decodeL (a++b)=decodeL a:=by rw[decodeL_N,decodeL_N,E 0 H,d1]
  rw[validD_step (a++b) (by simp[e]),e2,if_neg (by rw[decodeL_N];exact F)]
  rw[<-decodeL_N] at d2;rw[List.drop_append_of_le_length d2];exact Eg k _ b (by rw[List.length_drop];rw[<-decodeL_N] at d3;omega) h
def v7(s:ByteArray):Prop:=validD s.data.toList=true/\∀ b∈s.data.toList,badByte b.toNat=false
theorem zhp{a b:ByteArray}(H:v7 a)(G:v7 b):v7 (a++b):=by
 unfold v7 at *
 rw[ByteArray.data_append,Array.toList_append]
 refine⟨by rw[Eg _ _ _ (Nat.le_refl _) H.1];exact G.1,λx F=>?_⟩
 rcases List.mem_append.1 F with F | F
 .exact H.2 x F
 .exact G.2 x F
theorem Y3:v7 .empty:=⟨rfl,λb H=>by cases H⟩
theorem zev{s:ByteArray}{b:UInt8}(H:b∈s.data.toList):∃ k,k<s.size/\zp s k=b.toNat:=by
 obtain⟨k,G,rfl⟩:=List.mem_iff_getElem.1 H
 refine⟨k,by simpa using G,?_⟩
 unfold zp
 rw[List.getD_eq_getElem?_getD,List.getElem?_eq_getElem G];rfl
theorem Eh{s:ByteArray}(h:yR s=true):v7 s:=by
 unfold yR at h
 rw[Bool.and_eq_true,Bool.and_eq_true,Bool.and_eq_true] at h
 obtain⟨H,⟨h2,_⟩,_⟩:=h
 have G:=(WH s s.size 0 (by omega) (by omega)).1
 rw[List.drop_zero,h2] at G
 refine⟨G,λb F=>?_⟩
 obtain⟨k,E,e⟩:=zev F
 unfold kL at H
 have:=List.all_eq_true.1 H k (List.mem_range.2 E)
 rw[e] at this
 unfold uL at this
 unfold badByte
 rw[Bool.and_eq_true,decide_eq_true_eq,decide_eq_true_eq] at this
 rw[decide_eq_false this.1,decide_eq_false this.2];rfl
theorem text_of{s:ByteArray}(h:v7 s)(G:s.size<=200):textE s=0:=by
 unfold textE
 rw[if_neg (by omega),if_pos (show Wv s=true from h.1),if_neg]
 unfold V5
 rw[Bool.not_eq_true,List.any_eq_false]
 intro k F
 have F:=List.mem_range.1 F
 have H:k<s.data.toList.length:=by simpa using F
 have:=h.2 (s.data.toList[k]) (List.getElem_mem H)
 unfold zp
 rw[List.getD_eq_getElem?_getD,List.getElem?_eq_getElem H]
 simp only[Option.getD_some];rw[this];decide
theorem Ei{us:List Grap}(H:∀ u∈us,UnitF u){w:List Int}:∀ {f at_:Nat} {acc:ByteArray},v7 acc->v7 (wX us w f at_ acc).1
 |0,_,_,_=>Y3
 |f+1,at_,acc,h=>by
  unfold wX;split
  .split
   .exact Y3
   .rename_i b G
    obtain⟨v,F,_⟩:=Zf G;rw[F];exact Ei H (zhp h (Eh (H v (List.mem_of_getElem? F)).lab))
  .exact h
theorem zew{us:List Grap}(H:∀ u∈us,UnitF u)(w:List Int):v7 (xZ us w).1:=by
 unfold xZ
 split
 .exact Y3
 .split
  .exact Y3
  .exact Ei H Y3
theorem Ej{l:List Ent}(H:∀ e∈l,∀ s∈e.senses,yR s.gloss=true):∀ {f:Nat} {id:Int} {ss:List Sens},jU l f id=some ss->∀ s∈ss,yR s.gloss=true
 |0,_,_,h=>by cases h
 |f+1,id,ss,h=>by
  unfold jU at h;split at h
  .rename_i G
   split at h
   .cases h;exact H _ (QY G)
   .split at h
    .cases h
    .exact Ej H h
  .cases h
theorem zex{l:List Ent}(H:∀ e∈l,∀ s∈e.senses,yR s.gloss=true)(p:Prt):v7 (uV l p)/\(uV l p).size<=200:=by
 unfold uV
 cases hs:(jB l p.entry)[p.sense.toNat]? with
 |none=>exact⟨Y3,Nat.zero_le _⟩
 |some s=>
  have G:=List.mem_of_getElem? hs;have F:yR s.gloss=true:=by
   unfold jB at G;cases E:jU l (l.length+1) p.entry with
   |none=>rw[E] at G;cases G
   |some ss=>rw[E] at G;exact Ej H E s G
  have:=(KI F).2
  exact⟨Eh F,by simp only[Option.map_some,Option.getD_some];omega⟩
theorem Ek{g:Lang}(H:LightF g):∀ {ps:List Prt} {x y:List ByteArray},(∀ s∈x,v7 s)->(∀ s∈y,v7 s/\s.size<=200)->(∀ s∈(qg g ps x y).1,v7 s)/\∀ s∈(qg g ps x y).2.1,v7 s/\s.size<=200
 | [],x,y,G,F=>⟨G,F⟩
 |p::ps,x,y,G,F=>by
  unfold qg;split
  .exact⟨λs h=>(by cases h),λs h=>(by cases h)⟩
  .refine Ek H (λs h=>?_) (λs h=>?_) <;> rcases List.mem_append.1 h with h | h
   .exact G s h
   .rw[List.mem_singleton] at h;rw[h];exact zew H.units1 _
   .exact F s h
   .rw[List.mem_singleton] at h;rw[h];exact zex (λe E=>(H.lex.each e E).gl) p
theorem zdg{g:Lang}(H:LightF g)(ps:List Prt):(∀ s∈(yc g ps).1,v7 s)/\∀ s∈(yc g ps).2.1,textE s=0:=by
 unfold yc
 split
 .exact⟨λs h=>(by cases h),λs h=>(by cases h)⟩
 .have h:=Ek H (ps:=ps) (x:=[]) (y:=[]) (λs h=>(by cases h)) (λs h=>(by cases h))
  exact⟨h.1,λs hs=>text_of (h.2 s hs).1 (h.2 s hs).2⟩
theorem Em{g:Lang}:∀ {ps:List Prt} {x y:List ByteArray},(qg g ps x y).2.2=0->(qg g ps x y).1.length=x.length+ps.length
 | [],x,y,_=>rfl
 |p::ps,x,y,h=>by
  unfold qg at h ⊢;split at h
  .rename_i H;exact absurd h H
  .rename_i H
   rw[if_neg H,Em h];simp only[List.length_append,List.length_cons,List.length_nil];omega
theorem En{g:Lang}{ps:List Prt}(h:(yc g ps).2.2=0):(yc g ps).1.length=ps.length/\ps.length<=4:=by
 unfold yc at h ⊢
 split at h
 .rename_i H;exact absurd h H
 .rename_i H
  rw[if_neg H,Em h];refine⟨by simp,?_⟩
  rw[ne_eq,Classical.not_not] at H;unfold vN at H;split at H
  .cases H
  .split at H
   .cases H
   .omega
end Go.V.Doc
namespace Go.V.Doc
open Go Go.Proofs
section
variable {d:Dc} {w nx:Int} {F G:List ByteArray}
theorem Eo(h:Fw d):Fw (jj d w) where
 n:=Nat.lt_of_le_of_lt (List.length_filter_le _ _) h.n
 k:=λid t=>Nat.lt_of_le_of_lt (List.Sublist.length_le (List.filter_sublist.filter _)) (h.k id t)
theorem zhq(h:Rgt d)(E:xh d=true)(K:Fw d)(J:xI (zE d w) nx (2*F.length)=false)(L:F.length<=4):Fw (zP d w nx F G) where
 n:=by
  show(qX _).length<2^40
  have:=(Eo (w:=w) K).n
  have:(zE d w).length<=d.notes.length:=List.length_filter_le _ _
  have:=h.few
  rw[Vr,List.length_append,Y0];omega
 k:=λid t=>by
  have M:=XJ h E;show((qX (zE d w++yL d w nx F G F.length)).filter (ym d id t)).length<20
  rw[((Vs (zE d w++yL d w nx F G F.length)).filter _).length_eq,List.filter_append,List.length_append];have O:=(Eo (w:=w) K).k id t;have O:((zE d w).filter (ym d id t)).length<20:=O
  have Q:((yL d w nx F G F.length).filter (ym d id t)).length<=8:=Nat.le_trans (List.length_filter_le _ _) (by rw[Y0];omega)
  cases T:(yL d w nx F G F.length).filter (ym d id t) with
  |nil=>simpa using O
  |cons n l=>
   rw[<-T];obtain⟨m1,m2⟩:=List.mem_filter.1 (show n∈(yL d w nx F G F.length).filter (ym d id t) by rw[T];exact List.mem_cons_self)
   have e0:(zE d w).filter (ym d id t)=[]:=by
    rw[List.filter_eq_nil_iff];intro m H V;unfold ym at V m2;simp only[Bool.and_eq_true,decide_eq_true_eq] at V m2;obtain⟨i,hi,rfl | rfl⟩:=vU.1 m1
    .exact VB h H (V.1.1.1.trans m2.1.1.1.symm) (V.1.1.2.trans m2.1.1.2.symm)
    .exact VC h M J hi H (V.1.1.1.trans m2.1.1.1.symm) (V.1.1.2.trans m2.1.1.2.symm)
   rw[e0];simp only[List.length_nil];omega
end
structure Mid(d:Dc):Prop where
 r:Rgt d
 y:xh d=true
 w:Fw d
theorem Ep{d:Dc}{g:Lang}{w:Int}{ps:List Prt}{nx:Int}(H:(qw d g w ps nx).2=0):
  (vQ d w).2=0/\XH g (zi d.notes w).1.text ps=true/\(yc g ps).2.2=0/\Y1 (yc g ps).1=false/\(1<=nx/\nx<=1099511627768)/\xI (zE d w) nx (2*(yc g ps).1.length)=false/\(zE d w).length+2*(yc g ps).1.length<=300 /\
   (qw d g w ps nx).1=zP d w nx (yc g ps).1 (yc g ps).2.1:=by
 unfold qw at H ⊢
 split at H
 .rename_i h;exact absurd H h
 rename_i G
 rw[if_neg G]
 split at H
 .cases H
 rename_i h2
 rw[if_neg h2]
 split at H
 .rename_i h;exact absurd H h
 rename_i F
 rw[if_neg F]
 split at H
 .cases H
 rename_i E
 rw[if_neg E]
 split at H
 .cases H
 rename_i K
 rw[if_neg K]
 split at H
 .cases H
 rename_i J
 rw[if_neg J]
 split at H
 .cases H
 rename_i L
 rw[if_neg L]
 exact⟨Classical.not_not.1 G,by simpa using h2,Classical.not_not.1 F,by simpa using E,⟨by omega,by omega⟩,by simpa using J,by omega,rfl⟩
theorem Es{d:Dc}{w:Int}(h:(vQ d w).2=0):xh d=true/\yT d w=true:=by
 unfold vQ at h
 split at h
 .cases h
 .split at h
  .cases h
  .rename_i H h2
   exact⟨by simpa using H,by simpa using h2⟩
theorem Mid.fill{d:Dc}(h:Mid d){g:Lang}(H:LightF g){w:Int}{ps:List Prt}{nx:Int}(G:(qw d g w ps nx).2=0):Mid (qw d g w ps nx).1:=by
 obtain⟨c1,c2,c3,c4,c5,c6,c7,c8⟩:=Ep G
 obtain⟨_,F⟩:=Es c1
 obtain⟨l1,l2⟩:=En c3
 obtain⟨t1,t2⟩:=zdg H ps
 have hs:=KQ g ps
 rw[c8]
 refine⟨zgl h.r h.y F (λs hs=>text_of (t1 s hs) ?_) t2 hs c5.1 (by omega) c6 c7,h.y,zhq h.r h.y h.w c6 (by omega)⟩
 unfold Y1 at c4
 have:=List.any_eq_false.1 c4 s hs
 simpa using this
end Go.V.Doc
namespace Go.V
open Go Go.Proofs
def Et(d x:Dec):Bool:=d.yes&&(x.yes&&decide (d.ref=x.ref))
def KW(a b:Dec):Bool:=if a.ref.rcd=b.ref.rcd then (if a.ref.note=b.ref.note then YZ a.pick b.pick else decide (a.ref.note<b.ref.note)) else decide (a.ref.rcd<b.ref.rcd)
def Dec.fit(d:Dec):Prop:=d.pick.length<2^62
def cmpD(a b:Dec):Int:=if Dk a.ref b.ref=0 then (if YZ a.pick b.pick=true then -1 else if YZ b.pick a.pick=true then 1 else 0) else Dk a.ref b.ref
def isId(n:Int):Bool:=decide (1<=n)&&decide (n<=1099511627776)
def zhr(l:List Dec)(k:Nat):Option Int:=match l[k]? with
 |none=>none
 |some d=>if isId d.ref.rcd=true then (if isId d.ref.note=true then (if d.pick.length=0 then some 4 else if d.pick.length>4 then some 11
   else if (decide (0<k)&&match l[k-1]? with | some c=>!KW c d | none=>false)=true then some 10
   else if (l.take k).any (Et d)=true then some 8 else none) else some 2) else some 2
def ziv(l:List Dec):Int:=((List.range l.length).findSome? (zhr l)).getD 0
@[simp] theorem zir(d:Dec):d.row.length=4:=rfl
def VD(l:List Dec)(r:Rf):List Prt×Bool:=match l.find? (λd=>decide (d.ref=r)&&d.yes) with
 |some d=>(d.pick,true)
 |none=>([],false)
def Eu(d x:Dec):Bool:=decide (cmpD x d=0) || Et d x
def zjl(d:Dec)(l:List Dec):List Dec:=l.filter λx=>!Eu d x&&KW x d
def zjm(d:Dec)(l:List Dec):List Dec:=l.filter λx=>!Eu d x && !KW x d
def Bw(l:List Dec)(d:Dec):List Dec:=if ziv [d]=0 then zjl d l++d::zjm d l else l
def rejD(r:Rf)(q:List Prt)(d:Dec):Bool:=decide (d.ref=r)&&(!d.yes&&decide (d.pick=q))
def rejL(l:List Dec)(r:Rf)(q:List Prt):Bool:=l.any (rejD r q)
def VE(g:Lang)(r:Rf)(s:ByteArray)(l:List Dec):List (List Prt)×Int:=if (KO g s).2≠0 then ([],(KO g s).2) else ((KO g s).1.filter λq=>!rejL l r q,0)
structure Stt where
 ref:Rf
 kind:Int
 pick:List Prt
 deriving DecidableEq
def Stt.d(x:Stt):D:=.agg [int x.ref.rcd,int x.ref.note,int x.kind,y9 x.pick]
def Ew(g:Lang)(r:Rf)(s:ByteArray)(l:List Dec):Stt:=
 if (VD l r).2=true then
  (if (qM g.orth.units s).2.2=0/\X1 g (qM g.orth.units s).1 (VD l r).1=true then ⟨r,4,(VD l r).1⟩ else ⟨r,5,(VD l r).1⟩)
 else if (VE g r s l).2=11\/1<(VE g r s l).1.length then ⟨r,3,[]⟩
 else if (VE g r s l).2≠0 then ⟨r,0,[]⟩
 else match (VE g r s l).1 with
  | []=>⟨r,1,[]⟩
  |q::_=>⟨r,2,q⟩
structure Wrd where
 g:Lang
 ref:Rf
 s:ByteArray
 l:List Dec
def Wrd.cells(x:Wrd):List D:=(match x.g.d with | .agg cs=>cs | _=>[])++[int x.ref.rcd,int x.ref.note,.str x.s,P6 x.l]
def Wrd.d(x:Wrd):D:=.agg x.cells
end Go.V
namespace Go.V.Doc
open Go Go.Proofs
def Zg(d:Dc)(w:Int):List ByteArray×List ByteArray:=if Xp d w=true then ((yJ d w 3).map (vP d),(yJ d w 3).map λm=>uQ d (yJ d m 4)) else ([],[])
theorem zhs(d:Dc)(w:Int)(H:Fw d)(G:d.tiers.length<2^62):
  zj Tryz.prog 18 [zq d,int w] (.tup [wR (Zg d w).1,wR (Zg d w).2]):=by
 have h:=Sl d w H G
 unfold Zg
 split at h <;> rename_i c
 .rw[if_pos c];exact h
 .rw[if_neg c];exact h
def ziw(d:Dc)(g:Lang)(w:Int)(q:List Prt):Bool:=decide ((yc g q).2.2=0/\(yc g q).1=(Zg d w).1/\(yc g q).2.1=(Zg d w).2)
def Y4(d:Dc)(g:Lang)(l:List Dec)(w:Int):Stt:=Ew g ⟨d.id,w⟩ (vP d w) l
def zix(d:Dc):List Int:=yj (CM d (zy d.tiers 2).toNat)
def Ey(g:Lang):List Sym:=[.d (zF g.inv),.d (.str g.orth.name),.d (zG g.orth.units),.d (j3 g.orth.letters),.d (xC g.rules),.d (int g.net.states),.d (stepsD g.net.steps),.d (ints g.net.final),.d (zh g.lex)]
theorem zbm:zj Tryz.prog 63 [.sl []] (int 0):=by
 refine zn mixed Tryz.func63 rfl c_63 ?_
 simp[Tryz.f63]
 refine zm mixed (λk:Nat=>{n:=74,next:=0,slots:=[(0,.d (.sl [])),(6,.d (.sl [])),(7,.d (.int .i64 0)),(8,.d (.int .i64 k))],own:=[]})
  (λk=>k=0) (λk=>k) 0 (by simp) (by simp) ?_
 intro k H
 subst H
 simp+decide[int]
theorem zht(d:Dc)(hs:∀ t∈d.tiers,t.name.size<=9223372036854775807)(G:∀ n∈d.notes,n.text.size<=9223372036854775807)(g:Lang)(F:LangC g):
  xy Tryz.prog 25 [zq d,g.d,.sl []] (λv=>∃ b,v = .bool b/\(b=true->wO d=true/\LightF g)):=by
 refine qb mixed Tryz.func25 rfl c_25 ?_
 simp+decide[Tryz.f25,int,zq,Dc.row,Lang.d]
 refine zg (RG d hs G) ?_
 cases H:wO d with
 |false=>simp+decide
 |true=>
  simp+decide
  refine zC.some (by rfl) (Ao g F) ?_
  rintro r ⟨b,rfl,E⟩
  cases b with
  |false=>simp+decide
  |true=>
   simp+decide
   refine zg zbm ?_
   simp+decide[int];exact E rfl
end Go.V.Doc

/- Contracts and plain laws of this seat: part MF. It needs no conditions. -/
import Derived.Test.YtknekjalbninmaaGreatS3
import Derived.Test.YtknekjalbninmaaGreatSw
import Derived.Test.YtknekjalbninmaaGreatMD
import Derived.Test.YtknekjalbninmaaGreatME
import Derived.Test.YtknekjalbninmaaGreatMA
import Derived.Test.YtknekjalbninmaaGreatMC
import Derived.Test.YtknekjalbninmaaGreatMB
import Derived.Test.YtknekjalbninmaaGreatW1
set_option maxHeartbeats 32000000
set_option linter.unusedVariables false
set_option linter.unusedSimpArgs false
set_option linter.unusedSectionVars false
set_option maxRecDepth 100000
namespace Go.V
open Go Go.Proofs
theorem zj9(a b:List Int)(E:b.length<2^62):zj Tryz.prog 158 [ints a,ints b] (.bool (decide (a=b))):=by
 refine zn mixed Tryz.func158 rfl c_158 ?_
 simp[Tryz.f158,ints]
 refine⟨λh e=>h (by rw[e]),λh=>?_⟩
 refine zr mixed (λk:Nat=>{n:=26,next:=0,slots:=[(0,.d (ints a)),(1,.d (ints b)),(12,.d (.int .i64 a.length)),(13,.d (.int .i64 k))],own:=[]})
  (λk=>k<=a.length/\a.take k=b.take k) (λk=>a.length-k) 0 (by simp) (by simp[ints]) ?_
 intro k ⟨K,J⟩
 have h:a.length=b.length:=by omega
 by_cases G:k<a.length
 .have e1:a[k]?=some a[k]:=List.getElem?_eq_getElem G
  have e2:b[k]?=some (b[k]'(by omega)):=List.getElem?_eq_getElem (by omega)
  have H:k<b.length:=by omega
  simp+decide[ints,int,e1,e2,G,H,I64];refine⟨λF e=>by subst e;simp at F,λhe=>⟨by omega,k+1,⟨G,?_⟩,by omega,by omega⟩⟩
  rw[yu G,yu H,J,he]
 .have:k=a.length:=by omega
  subst this;simp+decide[ints];rw[List.take_length,h,List.take_length] at J;exact J
def uo(w s:List Int):Bool:=decide (s.length<=w.length)&&decide (s=w.take s.length)
def jy(us:List Grap)(w:List Int):Nat->Option Nat
 |0=>none
 |k+1=>match us[k]? with
  |none=>jy us w k
  |some u=>if uo w u.segs=true then (match jy us w k with
    |none=>some k
    |some b=>if ((us[b]?.map λv=>v.segs.length).getD 0)<u.segs.length then some k else some b)
   else jy us w k
theorem Y3{us:List Grap}{w:List Int}:∀ {k b:Nat},jy us w k=some b->∃ v,us[b]?=some v/\uo w v.segs=true
 |0,b,h=>by cases h
 |k+1,b,h=>by
  unfold jy at h;split at h
  .exact Y3 h
  .rename_i u H
   split at h
   .rename_i G
    split at h
    .obtain rfl:=Option.some.inj h;exact⟨u,H,G⟩
    .rename_i b' hb'
     split at h
     .obtain rfl:=Option.some.inj h;exact⟨u,H,G⟩
     .obtain rfl:=Option.some.inj h
      exact Y3 hb'
   .exact Y3 h
theorem zfi(o:Orth)(V:OrthC o)(w:List Int)(X:w.length<2^40):zj Tryz.prog 99 [.agg o.cells,ints w] (int (jb (jy o.units w o.units.length))):=by
 have O:=V.few.1
 refine zn mixed Tryz.func99 rfl c_99 ?_
 simp+decide[Tryz.f99,int,ints,zN,Orth.cells]
 refine yU mixed (λk:Nat=>{n:=51,next:=1,slots:=[(1,.d (ints w)),(2,.bp 0 0),(5,.d (int (jb (jy o.units w k)))),(9,.d (zN o.units)),(10,.d (int o.units.length)),(11,.d (int k))],own:=[(0,.box 28 (o.cells.map .d))]})
  (λk=>k<=o.units.length) (λk=>o.units.length-k) 0 (Nat.zero_le _) ?_ ?_
 .simp+decide[int,ints,zN,Orth.cells,jy,jb]
 intro k Y
 refine zL mixed ?_
 by_cases G:k<o.units.length
 case neg=>
  have:k=o.units.length:=by omega
  subst this;simp+decide[int,ints,zN,Orth.cells]
 have F:(k:Int)<o.units.length:=by omega
 obtain⟨u,eu⟩:∃ u,o.units[k]=u:=⟨_,rfl⟩
 have eu1:o.units[k]?=some u:=by rw[List.getElem?_eq_getElem G,eu]
 have Q:=(V.units o.units[k] (List.getElem_mem G)).2
 rw[eu] at Q
 have H:jy o.units w (k+1)=if uo w u.segs=true then (match jy o.units w k with
    |none=>some k
    |some b=>if ((o.units[b]?.map λv=>v.segs.length).getD 0)<u.segs.length then some k else some b)
   else jy o.units w k:=by rw[jy,eu1]
 by_cases c1:w.length<u.segs.length
 .have c1':(w.length:Int)<u.segs.length:=by omega
  have Z:uo w u.segs=false:=by unfold uo;rw[decide_eq_false (by omega)];rfl
  rw[Z,if_neg (by decide)] at H
  simp+decide[int,ints,zN,Orth.cells,G,F,eu,eu1,Grap.row,I64,c1,c1'];exact⟨by omega,k+1,G,by omega,by rw[H],by omega⟩
 have c1':¬(w.length:Int)<u.segs.length:=by omega
 have A:=zj9 u.segs (w.take u.segs.length) (by rw[List.length_take];omega)
 have T:uo w u.segs=decide (u.segs=w.take u.segs.length):=by unfold uo;rw[decide_eq_true (by omega)];rfl
 have c2:u.segs.length<=w.length:=by omega
 have c2':(u.segs.length:Int)<=w.length:=by omega
 rw[<-T] at A
 simp only[ints,List.map_take] at A
 simp+decide[int,ints,zN,Orth.cells,G,F,eu,eu1,Grap.row,I64,c1,c1',c2,c2']
 refine scp A ?_
 cases Z:uo w u.segs with
 |false=>
  rw[Z,if_neg (by decide)] at H
  simp+decide[int,ints,zN,Orth.cells,G,F,eu,eu1,Grap.row,I64];exact⟨by omega,k+1,G,by omega,by rw[H],by omega⟩
 |true=>
  rw[Z,if_pos rfl] at H;cases K:jy o.units w k with
  |none=>
   rw[K] at H;simp only at H
   simp+decide[int,ints,zN,Orth.cells,G,F,eu,eu1,Grap.row,I64,jb];exact⟨by omega,k+1,G,by omega,by rw[H],by omega⟩
  |some b=>
   obtain⟨v,ev1,_⟩:=Y3 K;obtain⟨L,ev⟩:=List.getElem?_eq_some_iff.1 ev1;have E:(b:Int)<o.units.length:=by omega
   rw[K] at H;simp only at H
   rw[ev1] at H;simp only[Option.map_some,Option.getD_some] at H;have M:¬(b:Int)<0:=by omega
   by_cases B:v.segs.length<u.segs.length
   .have J:(v.segs.length:Int)<u.segs.length:=by omega
    rw[if_pos B] at H;simp+decide[int,ints,zN,Orth.cells,G,F,eu,eu1,Grap.row,I64,jb,L,E,ev,ev1,B,J,M];exact⟨by omega,k+1,G,by omega,by rw[H],by omega⟩
   .have J:¬(v.segs.length:Int)<u.segs.length:=by omega
    rw[if_neg B] at H;simp+decide[int,ints,zN,Orth.cells,G,F,eu,eu1,Grap.row,I64,jb,L,E,ev,ev1,B,J,M];exact⟨by omega,k+1,G,by omega,by rw[H],by omega⟩
theorem zfj(s:ByteArray)(hs:s.size<2^40):
  zJ Tryz.prog 100 [.bp 0 0,.d (.str s)] [(0,.box 166 [.d (.val (.pointer none)),.nils])] 1 (.tup [.d (int s.size),.d (.val .nilIface)]) 2 [(1,.arr 5 1 (yE s)),(0,.box 166 [.bp 0 0,.ar 1])] [1]:=by
 have H:zJ Tryz.prog 159 [.bp 0 0] [(0,.box 166 [.d (.val (.pointer none)),.nils])] 1 (.d (.tup [])) 1 [(0,.box 166 [.bp 0 0,.nils])] []:=zgb (by rfl) TF
 refine xW mixed Tryz.func100 rfl c_100 (by simp[Sym.los,Sym.lo]) ?_
 simp+decide[Tryz.f100,int]
 refine zF.mut [0] [.bp 0 0] [(0,.box 166 [.d (.val (.pointer none)),.nils])] (by rfl) (by simp) (by simp) (by simp) H ?_
 simp+decide[int,maxLen]
 exact⟨by omega,by omega⟩
theorem zfk(s:ByteArray)(rows:List (List D))(hs:rows.length+s.size<2^40):
  zJ Tryz.prog 100 [.bp 0 0,.d (.str s)] [(0,.box 166 [.bp 0 0,.ar 1]),(1,.arr 5 1 rows)] 2 (.tup [.d (int s.size),.d (.val .nilIface)]) 2 [(0,.box 166 [.bp 0 0,.ar 1]),(1,.arr 5 1 (rows++yE s))] [1]:=by
 have H:zJ Tryz.prog 159 [.bp 0 0] [(0,.box 166 [.bp 0 0,.ar 1]),(1,.arr 5 1 rows)] 2 (.d (.tup [])) 2 [(0,.box 166 [.bp 0 0,.ar 1]),(1,.arr 5 1 rows)] []:=zhz (by rfl) TE _ _ _
 refine xW mixed Tryz.func100 rfl c_100 (by simp[Sym.los,Sym.lo]) ?_
 simp+decide[Tryz.f100,int]
 refine zF.mut [0,1] [.bp 0 0] [(0,.box 166 [.bp 0 0,.ar 1]),(1,.arr 5 1 rows)] (by rfl) (by simp) (by simp) (by simp;rfl) H ?_
 simp+decide[int,maxLen]
 exact⟨by omega,by omega⟩
theorem zi6(s:ByteArray)(hs:s.size≠0):
  zJ Tryz.prog 101 [.bp 0 0] [(0,.box 166 [.bp 0 0,.ar 1]),(1,.arr 5 1 (yE s))] 2 (.d (.str s)) 2 [] []:=zei Tryz.zkh TJ (by rfl) s hs
theorem zcs(a b:ByteArray):yE (a++b)=yE a++yE b:=by
 unfold yE
 simp[ByteArray.data_append]
def uq(us:List Grap)(w:List Int):Nat->Nat->ByteArray->ByteArray×Int×Int
 |0,_,_=>(.empty,0,0)
 |f+1,at_,acc=>if at_<w.length then (match jy us (w.drop at_) us.length with
   |none=>(.empty,at_,20)
   |some b=>uq us w f (at_+((us[b]?.map λv=>v.segs.length).getD 0)) (acc++((us[b]?.map λv=>v.graph).getD .empty)))
  else (acc,0,0)
def qS(us:List Grap)(w:List Int):ByteArray×Int×Int:=
 if w.length=0 then (.empty,0,4) else if 24<w.length then (.empty,0,5) else uq us w (w.length+1) 0 .empty
theorem Hw{us:List Grap}(G:∀ u∈us,UnitF u){w:List Int}:∀ {f at_:Nat} {acc:ByteArray},acc.size<=32*at_->at_<=w.length->(uq us w f at_ acc).1.size<=32*w.length
 |0,_,_,_,_=>by simp[uq]
 |f+1,at_,acc,h,hat=>by
  unfold uq;split
  .split
   .simp
   .rename_i b F
    obtain⟨v,E,H⟩:=Y3 F;have K:=G v (List.mem_of_getElem? E);have J:v.segs.length<=(w.drop at_).length:=by
     unfold uo at H;rw[Bool.and_eq_true,decide_eq_true_eq] at H;exact H.1
    rw[List.length_drop] at J;rw[E];refine Hw G ?_ ?_
    .have:=K.size;have:=K.segs
     rw[ByteArray.size_append];simp only[Option.map_some,Option.getD_some];omega
    .simp only[Option.map_some,Option.getD_some]
     omega
  .have:acc.size<=32*w.length:=by omega
   exact this
theorem zct{us:List Grap}(H:∀ u∈us,UnitF u)(w:List Int):(qS us w).1.size<=768:=by
 unfold qS
 split
 .simp
 .split
  .simp
  .have:=Hw H (w:=w) (f:=w.length+1) (at_:=0) (acc:=.empty) (by simp) (by omega)
   omega
theorem zhl(o:Orth)(P:OrthC o)(S:∀ u∈o.units,UnitF u)(w:List Int)(W:w.length<2^40):
  zj Tryz.prog 43 [.agg o.cells,ints w] (.tup [.str (qS o.units w).1,int (qS o.units w).2.1,int (qS o.units w).2.2]):=by
 refine zn mixed Tryz.func43 rfl c_43 ?_
 by_cases c0:w.length=0
 .have:w=[]:=List.eq_nil_of_length_eq_zero c0
  subst this;simp+decide[Tryz.f43,int,ints,Orth.cells,qS]
 have c0':¬(w.length:Int)=0:=by omega
 by_cases c1:24<w.length
 .have c1':(24:Int)<w.length:=by omega
  have T:qS o.units w=(.empty,0,5):=by unfold qS;rw[if_neg c0,if_pos c1]
  rw[T];simp+decide[Tryz.f43,int,ints,Orth.cells,c0,c0',c1,c1']
 have c1':¬(24:Int)<w.length:=by omega
 have T:qS o.units w=uq o.units w (w.length+1) 0 .empty:=by unfold qS;rw[if_neg c0,if_neg c1]
 simp+decide[Tryz.f43,int,ints,Orth.cells,c0,c0',c1,c1']
 refine yU mixed (λx:Bool×Nat×Nat×ByteArray=>if x.1=true
   then {n:=45,next:=2,slots:=[(1,.d (ints w)),(2,.bp 0 0),(7,.bp 1 0),(8,.d (int x.2.2.1))],own:=[(0,.box 28 (o.cells.map .d)),(1,.box 166 [.d (.val (.pointer none)),.nils])]}
   else {n:=45,next:=3,slots:=[(1,.d (ints w)),(2,.bp 0 0),(7,.bp 1 0),(8,.d (int x.2.2.1))],own:=[(0,.box 28 (o.cells.map .d)),(1,.box 166 [.bp 1 0,.ar 2]),(2,.arr 5 1 (yE x.2.2.2))],moved:=[2]})
  (λx=>x.2.2.1<=w.length/\w.length<x.2.2.1+x.2.1/\uq o.units w x.2.1 x.2.2.1 x.2.2.2=qS o.units w/\x.2.2.2.size<=32*x.2.2.1/\(x.1=true->x.2.2.1=0/\x.2.2.2 = .empty)/\(x.1=false->x.2.2.2.size≠0)) (λx=>w.length-x.2.2.1)
  (true,w.length+1,0,.empty) ⟨by simp,by simp,T.symm,by simp,by simp,by simp⟩ ?_ ?_
 .simp+decide[int,ints,Orth.cells]
 rintro⟨fr,f,at_,acc⟩ ⟨J,hf,F,A,V,Y⟩
 simp only at J hf F A V Y
 refine zL mixed ?_
 obtain⟨f,rfl⟩:∃ f',f=f'+1:=⟨f-1,by omega⟩
 unfold uq at F
 by_cases G:at_<w.length
 case neg=>
  have H:¬(at_:Int)<w.length:=by omega
  rw[if_neg G] at F;cases fr with
  |true=>have:=(V rfl).1;omega
  |false=>
   rw[<-F];simp+decide[int,ints,G,H,Orth.cells];refine zF.mut [1,2] [.bp 0 0] [(0,.box 166 [.bp 0 0,.ar 1]),(1,.arr 5 1 (yE acc))] (by rfl) (by simp) (by simp) (by simp;rfl) (zi6 acc (Y rfl)) ?_
   simp+decide[int]
 rw[if_pos G] at F
 have H:(at_:Int)<w.length:=by omega
 have hU:=zfi o P (w.drop at_) (by rw[List.length_drop];omega)
 simp only[ints,List.map_drop] at hU
 have M:List.take w.length (w.map λn=>[D.int .i64 n])=w.map λn=>[D.int .i64 n]:=List.take_of_length_le (by simp)
 cases hb:jy o.units (w.drop at_) o.units.length with
 |none=>
  rw[hb] at F hU;simp only at F
  simp only[jb] at hU;rw[<-F];cases fr with
  |true=>
   simp+decide[int,ints,G,H,J,M,Orth.cells];refine scp hU ?_
   simp+decide[int,ints,G,H,Orth.cells]
  |false=>
   simp+decide[int,ints,G,H,J,M,Orth.cells];refine scp hU ?_
   simp+decide[int,ints,G,H,Orth.cells]
 |some b=>
  obtain⟨v,ev1,K⟩:=Y3 hb;obtain⟨O,ev⟩:=List.getElem?_eq_some_iff.1 ev1;have E:(b:Int)<o.units.length:=by omega
  have Q:¬(b:Int)<0:=by omega
  have hF:=S v (List.mem_of_getElem? ev1);have B:=hF.size;have C:=hF.pos;have I:=hF.segs;have N:v.segs.length<=w.length-at_:=by
   unfold uo at K;rw[Bool.and_eq_true,decide_eq_true_eq,List.length_drop] at K;exact K.1
  rw[hb] at F hU;simp only[ev1,Option.map_some,Option.getD_some] at F;simp only[jb] at hU;have L:(acc++v.graph).size<=32*(at_+v.segs.length):=by rw[ByteArray.size_append];omega
  have Z:(acc++v.graph).size≠0:=by rw[ByteArray.size_append];omega
  cases fr with
  |true=>
   obtain⟨h0,X⟩:=V rfl;subst X;simp+decide[int,ints,G,H,J,M,Orth.cells];refine scp hU ?_
   simp+decide[int,ints,G,H,Orth.cells,zN,Grap.row,O,E,ev,ev1,Q];refine zF.mut [1] [.bp 0 0,.d (.str v.graph)] [(0,.box 166 [.d (.val (.pointer none)),.nils])] (by rfl) (by simp) (by simp) (by simp) (zfj v.graph (by omega)) ?_
   simp+decide[int,ints,G,H,Orth.cells,zN,Grap.row,O,E,ev,ev1,Q,I64];exact⟨⟨by omega,by omega⟩,f,at_+v.segs.length,ByteArray.empty++v.graph,⟨by omega,by omega,F,L,λe=>Z (by rw[e];rfl)⟩,by omega,by omega,by simp⟩
  |false=>
   simp+decide[int,ints,G,H,J,M,Orth.cells];refine scp hU ?_
   simp+decide[int,ints,G,H,Orth.cells,zN,Grap.row,O,E,ev,ev1,Q];refine zF.mut [1,2] [.bp 0 0,.d (.str v.graph)] [(0,.box 166 [.bp 0 0,.ar 1]),(1,.arr 5 1 (yE acc))] (by rfl) (by simp) (by simp) (by simp;rfl) (zfk v.graph (yE acc) (by rw[WT];omega)) ?_
   simp+decide[int,ints,G,H,Orth.cells,zN,Grap.row,O,E,ev,ev1,Q,I64];exact⟨⟨by omega,by omega⟩,f,at_+v.segs.length,acc++v.graph,⟨by omega,by omega,F,L,λe=>Z (by rw[e];rfl)⟩,by omega,by omega,(zcs _ _).symm⟩
def xY(l:List ByteArray):D:=.sl (l.map λs=>[.str s])
def jU(l:List Ent)(p:Prt):List Int:=((zG l p.entry).1.forms[p.alt.toNat]?).getD []
def Zh(l:List Ent)(p:Prt):ByteArray:=((xM l p.entry)[p.sense.toNat]?.map λs=>s.gloss).getD .empty
def v8(g:Lang):List Prt->List ByteArray->List ByteArray->List ByteArray×List ByteArray×Int
 | [],x,y=>(x,y,0)
 |p::ps,x,y=>if (qS g.orth.units (jU g.lex p)).2.2≠0 then ([],[],(qS g.orth.units (jU g.lex p)).2.2)
   else v8 g ps (x++[(qS g.orth.units (jU g.lex p)).1]) (y++[Zh g.lex p])
def yz(g:Lang)(ps:List Prt):List ByteArray×List ByteArray×Int:=
 if ql g ps≠0 then ([],[],ql g ps) else v8 g ps [] []
theorem Hx:∀ {l:List Ent} {ps:List Prt},vF l ps=0->∀ p∈ps,qH l p=0
 |l,[],_,p,H=>by cases H
 |l,q::ps,h,p,H=>by
  unfold vF at h;split at h
  .rename_i hq
   rcases List.mem_cons.1 H with rfl | H
   .exact hq
   .exact Hx h p H
  .rename_i hq;exact absurd h hq
theorem zka{g:Lang}{ps:List Prt}(h:ql g ps=0):ps.length<=4/\∀ p∈ps,qH g.lex p=0:=by
 unfold ql at h
 split at h
 .cases h
 .split at h
  .cases h
  .split at h
   .rename_i H;exact absurd h H
   .rename_i G H
    exact⟨by omega,Hx (by simpa using H)⟩
theorem zk6{l:List Ent}{p:Prt}(h:qH l p=0):(zG l p.entry).2=true/\0<=p.alt/\p.alt<(zG l p.entry).1.forms.length/\0<=p.sense/\p.sense<(xM l p.entry).length:=by
 unfold qH at h
 split at h
 .cases h
 .rename_i H
  split at h
  .cases h
  .rename_i h2
   split at h
   .cases h
   .rename_i h3
    unfold qd at h2;split at h2
    .rename_i h4
     exact⟨by simpa using H,h4.2.1,h4.2.2,by omega,by omega⟩
    .simp at h2
theorem zbk{g:Lang}{ps:List Prt}{k:Nat}{x y:List ByteArray}(h:k<ps.length):v8 g (ps.drop k) x y=if (qS g.orth.units (jU g.lex ps[k])).2.2≠0 then ([],[],(qS g.orth.units (jU g.lex ps[k])).2.2)
   else v8 g (ps.drop (k+1)) (x++[(qS g.orth.units (jU g.lex ps[k])).1]) (y++[Zh g.lex ps[k]]):=by
 rw[List.drop_eq_getElem_cons h];rfl
def strRow(l:List ByteArray):List (List D):=l.map λs=>[.str s]
theorem Gk(g:Lang)(B:LightF g)(C:LangC g)(ps:List Prt)(I:ps.length<2^20):
  zj Tryz.prog 14 [g.d,zM ps] (.tup [xY (yz g ps).1,xY (yz g ps).2.1,int (yz g ps).2.2]):=by
 have N:=B.Z9 C
 have P:=N.toLangOk
 have O:=DL g P ps I
 refine zn mixed Tryz.func14 rfl c_14 ?_
 unfold yz
 simp+decide[Tryz.f14,int,Lang.d,zM,zq]
 refine zg O ?_
 by_cases S:ql g ps=0
 case neg=>simp+decide[int,S,xY]
 obtain⟨h4,Q⟩:=zka S
 obtain⟨E,hE⟩:∃ E,v8 g ps [] []=E:=⟨_,rfl⟩
 simp+decide[int,S,hE,zl]
 refine yU mixed (λx:Nat×List ByteArray×List ByteArray=>{n:=74,next:=6,slots:=[(2,.bp 0 0),(3,.bp 1 0),(8,.ar 4),(9,.ar 5),(24,.d (zl ps)),(25,.d (int ps.length)),(26,.d (int x.1))],own:=[(0,.box 36 (zq g.d)),(1,.box 39 [.d (zl ps)]),(4,.arr 9 1 (strRow x.2.1)),(5,.arr 9 1 (strRow x.2.2))],moved:=[4,5]})
  (λx=>x.1<=ps.length/\x.2.1.length=x.1/\x.2.2.length=x.1/\v8 g (ps.drop x.1) x.2.1 x.2.2=E) (λx=>ps.length-x.1) (0,[],[]) ⟨Nat.zero_le _,rfl,rfl,by rw[List.drop_zero];exact hE⟩ ?_ ?_
 .simp+decide[int,zl,zq,Lang.d,strRow]
 rintro⟨k,x,y⟩ ⟨hk,hx,hy,H⟩
 simp only at hk hx hy H
 refine zL mixed ?_
 by_cases F:k<ps.length
 case neg=>
  have:k=ps.length:=by omega
  rw[this,List.drop_length] at H;subst H;have G:¬(k:Int)<ps.length:=by omega
  simp+decide[int,F,G,v8,xY,strRow]
 have G:(k:Int)<ps.length:=by omega
 rw[zbk F] at H
 obtain⟨p,ep⟩:∃ p,ps[k]=p:=⟨_,rfl⟩
 have e1:ps[k]?=some p:=by rw[List.getElem?_eq_getElem F,ep]
 have L:=Q ps[k] (List.getElem_mem F)
 rw[ep] at H L
 obtain⟨q1,q2,q3,q4,q5⟩:=zk6 L
 have hG:=J6 g.lex p.entry P.lex.len
 have hA:=Qc P.lex p.entry
 have hF:=KJ (zG g.lex p.entry).1 (by omega)
 have T:(jU g.lex p).length<2^20:=by
  unfold jU;have hj:p.alt.toNat<(zG g.lex p.entry).1.forms.length:=by omega
  rw[List.getElem?_eq_getElem hj];exact P.lex.form _ (Yz q1) _ (List.getElem_mem hj)
 have hS:=zhl g.orth C.orth B.units1 (jU g.lex p) (by omega)
 have M:=J7 g.lex p.entry P.lex.len P.lex.senses
 have J:=zct B.units1 (jU g.lex p)
 have K:(zG g.lex p.entry).1.forms[p.alt.toNat]?=some (jU g.lex p):=by
  unfold jU;have hj:p.alt.toNat<(zG g.lex p.entry).1.forms.length:=by omega
  rw[List.getElem?_eq_getElem hj];rfl
 obtain⟨sn,hsn,V⟩:∃ sn,(xM g.lex p.entry)[p.sense.toNat]?=some sn/\Zh g.lex p=sn.gloss:=by
  have hj:p.sense.toNat<(xM g.lex p.entry).length:=by omega
  exact⟨_,List.getElem?_eq_getElem hj,by unfold Zh;rw[List.getElem?_eq_getElem hj];rfl⟩
 rw[V] at H
 generalize jU g.lex p=W at K hS H J T
 generalize qS g.orth.units W=z at hS H J
 generalize xM g.lex p.entry=ss at M hsn q5
 generalize zG g.lex p.entry=r at hG hF K q3 q1 hA
 obtain⟨e,ok⟩:=r
 obtain⟨s,pos,err⟩:=z
 simp only at hG hF K q3 q1 hS H J hA
 subst q1
 have hj:p.alt.toNat<e.forms.length:=by omega
 have X:e.forms[p.alt.toNat]=W:=Option.some.inj (by rw[<-List.getElem?_eq_getElem hj];exact K)
 have hk:p.sense.toNat<ss.length:=by omega
 have Y:ss[p.sense.toNat]=sn:=Option.some.inj (by rw[<-List.getElem?_eq_getElem hk];exact hsn)
 simp+decide[int,zl,zq,Lang.d,Prt.row,F,G,ep,e1,I64]
 refine zg hG ?_
 simp+decide[int,zl,zq,Lang.d,Prt.row,Ent.row,I64]
 refine scp hF ?_
 simp+decide[int,zl,zq,Lang.d,Prt.row,Ent.row,I64,yl,q2,q3,hj,X]
 refine scp hS ?_
 by_cases he:err=0
 case neg=>
  rw[if_pos he] at H;subst H;simp+decide[int,zl,zq,Lang.d,Prt.row,Ent.row,I64,he,xY]
 subst he
 rw[if_neg (by decide)] at H
 simp+decide[int,zl,zq,Lang.d,Prt.row,Ent.row,I64,maxLen]
 have Z:(strRow x).length=k:=by simp[strRow,hx]
 have A:(strRow y).length=k:=by simp[strRow,hy]
 refine⟨by omega,by omega,?_⟩
 refine Yr mixed 12 (by rfl) (by rfl) (by rfl) (by rfl) (by simp) ?_
 simp+decide[int,zl,zq,Lang.d,Prt.row,Ent.row,I64,maxLen]
 refine scp M ?_
 simp+decide[int,zl,zq,Lang.d,Prt.row,Ent.row,I64,maxLen,zZ,Sens.row,q4,q5,hk,Y]
 exact⟨by omega,by omega,⟨by omega,by omega⟩,k+1,x++[s],y++[sn.gloss],⟨F,by simp[hx],by simp[hy],H⟩,by omega,by omega,by simp[strRow],by simp[strRow]⟩
theorem Hy{g:Lang}:∀ {ps:List Prt} {x y:List ByteArray},(v8 g ps x y).1.length<=x.length+ps.length/\(v8 g ps x y).2.1.length<=y.length+ps.length
 | [],x,y=>by simp[v8]
 |p::ps,x,y=>by
  unfold v8;split
  .simp
  .have:=Hy (g:=g) (ps:=ps) (x:=x++[(qS g.orth.units (jU g.lex p)).1]) (y:=y++[Zh g.lex p])
   simp only[List.length_append,List.length_cons,List.length_nil] at this ⊢;omega
theorem zd0(g:Lang)(ps:List Prt):(yz g ps).1.length<=ps.length/\(yz g ps).2.1.length<=ps.length:=by
 unfold yz
 split
 .simp
 .have:=Hy (g:=g) (ps:=ps) (x:=[]) (y:=[])
  simpa using this
def QU(g:Lang)(s:ByteArray)(ps:List Prt):Bool:=decide ((yY g.orth.units s).2.2=0)&&jq g (yY g.orth.units s).1 ps
theorem za0(g:Lang)(G:LightF g)(F:LangC g)(s:ByteArray)(hs:s.size<=1024)(ps:List Prt)(E:ps.length<2^20):zj Tryz.prog 64 [g.d,.str s,zM ps] (.bool (QU g s ps)):=by
 have K:=G.Z9 F
 have J:=Gj g.orth F.orth G.graphs s hs
 have H:=JU g.orth.units s
 have L:=DN g K.toLangOk (yY g.orth.units s).1 (by omega) ps E
 unfold QU jq
 generalize yY g.orth.units s=z at *
 obtain⟨w,pos,e⟩:=z
 simp only at J L H ⊢
 refine zn mixed Tryz.func64 rfl c_64 ?_
 simp+decide[Tryz.f64,int,Lang.d,zM,zq]
 refine zg J ?_
 by_cases M:e=0
 .simp+decide[int,ints,M]
  refine zg L ?_
  simp+decide[int,ints]
 .simp+decide[int,ints,M]
end Go.V
namespace Go.V.Doc
open Go Go.Proofs
def newG(d:Dc)(w nx:Int)(F G:List ByteArray)(i:Nat):List Nt:=
 [⟨nx+2*i,zv d.tiers 3,w,0,0,i,(F[i]?).getD .empty⟩,⟨nx+2*i+1,zv d.tiers 4,nx+2*i,0,0,0,(G[i]?).getD .empty⟩]
def xg(d:Dc)(w nx:Int)(F G:List ByteArray)(k:Nat):List Nt:=(List.range k).flatMap (newG d w nx F G)
theorem JV(d:Dc)(w nx:Int)(F G:List ByteArray)(k:Nat):xg d w nx F G (k+1)=xg d w nx F G k++newG d w nx F G k:=by
 unfold xg;rw[List.range_succ,List.flatMap_append];simp
theorem YZ(d:Dc)(w nx:Int)(F G:List ByteArray):∀ k,(xg d w nx F G k).length=2*k
 |0=>rfl
 |k+1=>by rw[JV,List.length_append,YZ d w nx F G k];simp[newG];omega
def qE(l:List Nt)(nx:Int)(k:Nat):Bool:=(List.range k).any λi=>(zp l (nx+i)).2
theorem Hz(l:List Nt)(nx:Int)(k:Nat):qE l nx (k+1)=(qE l nx k || (zp l (nx+k)).2):=by
 unfold qE;rw[List.range_succ,List.any_append];simp
def X0(F:List ByteArray):Bool:=F.any λs=>decide (200<s.size)
def yQ(d:Dc)(w nx:Int)(F G:List ByteArray):Dc:={d with notes:=j8 (zQ d w++xg d w nx F G F.length)}
def xq(d:Dc)(g:Lang)(w:Int)(ps:List Prt)(nx:Int):Dc×Int:=
 if (j7 d w).2≠0 then (kG,(j7 d w).2)
 else if QU g (zp d.notes w).1.text ps=false then (kG,23)
 else if (yz g ps).2.2≠0 then (kG,(yz g ps).2.2)
 else if X0 (yz g ps).1=true then (kG,5)
 else if nx<1\/1099511627768<nx then (kG,2)
 else if qE (zQ d w) nx (2*(yz g ps).1.length)=true then (kG,8)
 else if 300<(zQ d w).length+2*(yz g ps).1.length then (kG,11)
 else (yQ d w nx (yz g ps).1 (yz g ps).2.1,0)
theorem Gl{d:Dc}(h:Rgt d){w:Int}(F:yo d w=true):zp (zQ d w) w=zp d.notes w:=by
 unfold yo at F
 rw[Bool.and_eq_true] at F
 obtain⟨E,K⟩:=uP F.1
 obtain⟨n,J⟩:∃ n,(zp d.notes w).1=n:=⟨_,rfl⟩
 rw[J] at E K
 have L:QE d w n=false:=by
  unfold QE;rw[decide_eq_false_iff_not];intro M;obtain⟨c,M,_,q⟩:=(uU h E).1 M;have O:=Js h E M;have:=Z5 h E (UF h E M) (by rw[q,K])
  omega
 have H:=ju h E
 rw[K] at H
 rw[H]
 unfold zQ
 unfold zp at H ⊢
 rw[List.find?_filter]
 have key:∀ l:List Nt,l.Pairwise (λa b=>a.id<b.id)->n∈l->List.find? (λa=>decide ((!QE d w a)=true/\decide (a.id=w)=true)) l=some n:=by
  intro l Q G;rw[List.find?_eq_some_iff_append];obtain⟨l1,l2,rfl⟩:=List.append_of_mem G;refine⟨by simp[L,K],l1,l2,rfl,λa T=>?_⟩
  have:=(List.pairwise_append.1 Q).2.2 a T n List.mem_cons_self
  have:¬a.id=w:=by omega
  simp[this]
 rw[key _ h.inc E]
theorem note_text{d:Dc}(h:Rgt d)(id:Int):(zp d.notes id).1.text.size<=1024:=by
 cases H:(zp d.notes id).2 with
 |true=>
  have G:=(uP H).1;have F:=(h.nok _ G).e;rw[YE] at F;split at F
  .rename_i ht
   unfold textE at ht;split at ht
   .cases ht
   .omega
  .rename_i ht;exact absurd F ht
 |false=>
  unfold zp at H ⊢;split at H
  .cases H
  .exact Nat.zero_le _
theorem zd1{d:Dc}(h:Rgt d)(g:Lang)(w:Int)(H:Fw d)(ps:List Prt)(nx:Int)(G:(j7 d w).2≠0):zj Tryz.prog 26 [zw d,g.d,int w,zM ps,int nx] (.tup [zw (xq d g w ps nx).1,int (xq d g w ps nx).2]):=by
 have F:=BW h w H
 unfold xq
 rw[if_pos G]
 generalize j7 d w=z at *
 obtain⟨x,e⟩:=z
 simp only at F G ⊢
 refine zn mixed Tryz.func26 rfl c_26 ?_
 simp+decide[Tryz.f26,zw,Dc.row,int,Lang.d,zM,zq]
 refine zg F ?_
 simp+decide[zw,Dc.row,int,G]
 exact⟨rfl,rfl,rfl⟩
def jc(d:Dc)(g:Lang)(ps:List Prt)(N:List Nt):List (Nat×Obj'):=
 [(0,.box 53 (yh d)),(1,.box 36 (zq g.d)),(2,.box 39 [.d (zl ps)]),(3,.box 53 zeroCells),(8,.arr 72 7 (N.map Nt.row)),
  (10,.box 53 [.d (int d.id),.d (.str d.name),.d (int d.len),.d (int d.day),.d (ints d.spk),.d (zK d.tiers),.ar 8])]
def jd(w nx:Int)(F G:List ByteArray):List (Nat×Sym):=
 [(2,.d (int w)),(4,.d (int nx)),(5,.bp 0 0),(6,.bp 1 0),(8,.bp 2 0),(10,.bp 3 0),(12,.bp 10 0),(16,.d (xY F)),(17,.d (xY G))]
theorem HA{g:Lang}:∀ {ps:List Prt} {x y:List ByteArray},y.length=x.length->(v8 g ps x y).2.1.length=(v8 g ps x y).1.length
 | [],x,y,h=>h
 |p::ps,x,y,h=>by
  unfold v8;split
  .rfl
  .exact HA (by simp[h])
theorem Gm(g:Lang)(ps:List Prt):(yz g ps).2.1.length=(yz g ps).1.length:=by
 unfold yz
 split
 .rfl
 .exact HA rfl
theorem QV(g:Lang){m:Nat}:Sym.los m (zq g.d):=by simp[zq,Lang.d,Sym.los,Sym.lo]
theorem zhm{d:Dc}(h:Rgt d)(g:Lang)(hL:LightF g)(hg:LangC g)(w:Int)(hC:zJ Tryz.prog 22 [.d (zw d),.d (int w)] [] 0 (.tup [.agg [.d (int d.id),.d (.str d.name),.d (int d.len),.d (int d.day),.d (ints d.spk),.d (zK d.tiers),.ar 4],.d (int 0)]) 6 [(4,.arr 72 7 ((zQ d w).map Nt.row))] [3,4])(ps:List Prt)(hp:ps.length<2^20)(nx:Int)(hr:yw d=true)(hw:yo d w=true):
  zj Tryz.prog 26 [zw d,g.d,int w,zM ps,int nx] (.tup [zw (xq d g w ps nx).1,int (xq d g w ps nx).2]):=by
 have S:=h.few
 have W:=ZS h
 have H0:(j7 d w).2=0:=by unfold j7;rw[if_neg (by rw[hr];decide),if_neg (by rw[hw];decide)]
 have Fn:(zQ d w).length<=d.notes.length:=List.length_filter_le _ _
 have C:=ZG (xm d w) w (by simp only[xm];omega)
 have V:=za0 g hL hg (zp d.notes w).1.text (note_text h w) ps hp
 have H1:=Gk g hL hg ps hp
 have Hc:=zd0 g ps
 have Hi:=Gm g ps
 have Hs:=ZQ d (by omega)
 rw[show(xm d w).notes=zQ d w from rfl,Gl h hw] at C
 obtain⟨E,hE⟩:∃ E,xq d g w ps nx=E:=⟨_,rfl⟩
 rw[hE]
 unfold xq at hE
 rw[if_neg (by simp[H0])] at hE
 refine Zs mixed Tryz.func26 rfl c_26 [8] ?_
 simp+decide[Tryz.f26,zw,Dc.row,int,Lang.d,zM,zq]
 refine zF.mut [] [.d (zw d),.d (int w)] [] (by rfl) (by simp[zw,Dc.row,int]) (by simp) (by simp) hC ?_
 simp+decide[int]
 refine zg C ?_
 simp+decide[getD',Nt.row,int]
 refine zg V ?_
 cases J:QU g (zp d.notes w).1.text ps with
 |false=>
  rw[if_pos J] at hE;subst hE;simp+decide[int];exact⟨rfl,rfl,rfl⟩
 |true=>
 rw[if_neg (by rw[J];decide)] at hE
 simp+decide[int]
 refine zg H1 ?_
 generalize yz g ps=z at *
 obtain⟨F,G,e⟩:=z
 simp only at hE Hc Hi
 by_cases he:e=0
 case neg=>
  rw[if_pos he] at hE;subst hE;simp+decide[int,he];exact⟨rfl,rfl,rfl⟩
 subst he
 rw[if_neg (by decide)] at hE
 simp+decide[int,xY]
 refine yU mixed (λk:Nat=>{n:=145,next:=12,slots:=(60,.d (xY F))::(61,.d (int F.length))::(62,.d (int k))::jd w nx F G,own:=jc d g ps (zQ d w),moved:=[7,8]})
  (λk=>k<=F.length/\X0 (F.take k)=false) (λk=>F.length-k) 0 ⟨Nat.zero_le _,rfl⟩ ?_ ?_
 .simp+decide[int,jd,jc,xY,zq,Lang.d]
 rintro k ⟨hk,T⟩
 refine zL mixed ?_
 by_cases O:k<F.length
 case pos=>
  have H:(k:Int)<F.length:=by omega
  obtain⟨s,es⟩:∃ s,F[k]=s:=⟨_,rfl⟩;have e1:F[k]?=some s:=by rw[List.getElem?_eq_getElem O,es]
  by_cases hs:200<s.size
  .have X:(200:Int)<s.size:=by omega
   have Go:X0 F=true:=List.any_eq_true.2 ⟨s,by rw[<-es];exact List.getElem_mem O,by simpa using hs⟩
   rw[if_pos Go] at hE;subst hE;simp+decide[int,jd,jc,xY,O,H,es,e1,hs,X,I64];exact⟨rfl,rfl,rfl⟩
  .have X:¬(200:Int)<s.size:=by omega
   simp+decide[int,jd,jc,xY,O,H,es,e1,hs,X,I64];refine⟨⟨by omega,by omega⟩,k+1,⟨O,?_⟩,by omega,by omega,QV g⟩
   unfold X0 at T ⊢;rw[List.take_succ_eq_append_getElem O,List.any_append,T,es];simp[hs]
 have F0:k=F.length:=by omega
 rw[F0,List.take_length] at T
 have H:¬(k:Int)<F.length:=by omega
 rw[if_neg (by rw[T];decide)] at hE
 by_cases h1:nx<1
 .rw[if_pos (.inl h1)] at hE
  subst hE;simp+decide[int,jd,jc,xY,H,h1,I64];exact⟨rfl,rfl,rfl⟩
 by_cases h2:1099511627768<nx
 .rw[if_pos (.inr h2)] at hE
  subst hE;simp+decide[int,jd,jc,xY,H,h1,h2,I64];exact⟨rfl,rfl,rfl⟩
 rw[if_neg (λe=>e.elim h1 h2)] at hE
 simp+decide[int,jd,jc,xY,H,h1,h2,I64]
 refine⟨⟨by omega,by omega⟩,?_⟩
 refine yU mixed (λk:Nat=>{n:=145,next:=12,slots:=(80,.d (int (2*F.length)))::(81,.d (int k))::jd w nx F G,own:=jc d g ps (zQ d w),moved:=[7,8]})
  (λk=>k<=2*F.length/\qE (zQ d w) nx k=false) (λk=>2*F.length-k) 0 ⟨Nat.zero_le _,rfl⟩ ?_ ?_
 .simp+decide[int,jd,jc,xY]
  exact QV g
 rintro q ⟨hq,Y⟩
 refine zL mixed ?_
 by_cases I:q<2*F.length
 case pos=>
  have K:(q:Int)<2*F.length:=by omega
  have N:=ZG (xm d w) (nx+q) (by simp only[xm];omega)
  rw[show(xm d w).notes=zQ d w from rfl] at N
  have Z:=Hz (zQ d w) nx q;generalize zp (zQ d w) (nx+q)=r at *;obtain⟨n,ok⟩:=r;simp only[Y,Bool.false_or] at Z;simp+decide[int,jd,jc,xY,I,K,I64];refine⟨⟨by omega,by omega⟩,?_⟩
  refine zg N ?_
  cases ok with
  |true=>
   have F1:qE (zQ d w) nx (2*F.length)=true:=by
    have:∀ m,qE (zQ d w) nx (q+1+m)=true:=by
     intro m;induction m with
     |zero=>exact Z
     |succ m ih=>rw[<-Nat.add_assoc,Hz,ih];rfl
    have h:=this (2*F.length-(q+1));rwa [show q+1+(2*F.length-(q+1))=2*F.length by omega] at h
   rw[if_pos F1] at hE;subst hE;simp+decide[getD',Nt.row,int];exact⟨rfl,rfl,rfl⟩
  |false=>
   simp+decide[getD',Nt.row,int,I64];exact⟨⟨by omega,by omega⟩,q+1,⟨I,Z⟩,by omega,by omega,QV g⟩
 have Fd:q=2*F.length:=by omega
 rw[Fd] at Y
 have K:¬(q:Int)<2*F.length:=by omega
 rw[if_neg (by rw[Y];decide)] at hE
 by_cases h3:300<(zQ d w).length+2*F.length
 .have A:(300:Int)<(zQ d w).length+2*F.length:=by omega
  rw[if_pos h3] at hE;subst hE;simp+decide[int,jd,jc,xY,K,h3,A,I64];exact⟨⟨by omega,by omega⟩,⟨by omega,by omega⟩,rfl,rfl,rfl⟩
 have A:¬(300:Int)<(zQ d w).length+2*F.length:=by omega
 rw[if_neg h3] at hE
 simp+decide[int,jd,jc,xY,K,h3,A,I64]
 refine⟨⟨by omega,by omega⟩,⟨by omega,by omega⟩,?_⟩
 refine zg Hs ?_
 simp+decide[wV,int]
 refine yU mixed (λk:Nat=>{n:=145,next:=13,slots:=(23,.bp 12 0)::(107,.d (int F.length))::(108,.d (int k))::jd w nx F G,own:=(12,.box 112 [.d (int (zv d.tiers 2)),.d (int (zv d.tiers 3)),.d (int (zv d.tiers 4))])::jc d g ps (zQ d w++xg d w nx F G k),moved:=[7,8]})
  (λk=>k<=F.length) (λk=>F.length-k) 0 (Nat.zero_le _) ?_ ?_
 .simp+decide[int,jd,jc,xY,xg]
  exact QV g
 intro i hi
 refine zL mixed ?_
 by_cases J:i<F.length
 case neg=>
  have:i=F.length:=by omega
  subst this;have L:¬(F.length:Int)<F.length:=by omega
  have Fk:zQ d w++xg d w nx F G F.length≠[]:=by
   intro e0;have P:=Gl h hw;have:zQ d w=[]:=(List.append_eq_nil_iff.1 e0).1
   rw[this] at P;unfold yo at hw;rw[<-P] at hw;simp[zp] at hw
  have hS:=TD (zQ d w++xg d w nx F G F.length) Fk (by rw[List.length_append,YZ];omega)
  simp+decide[int,jd,jc,xY];simp only[<-List.map_append];refine zF.mut [8] [.ar 0,.fn 66 []] [(0,.arr 72 7 ((zQ d w++xg d w nx F G F.length).map Nt.row))] (by rfl) (by simp[int]) (by simp[Sym.los,Sym.lo]) (by simp) hS ?_
  subst hE;simp+decide[int,yQ];exact rfl
 have L:(i:Int)<F.length:=by omega
 obtain⟨s,es⟩:∃ s,F[i]=s:=⟨_,rfl⟩
 have e1:F[i]?=some s:=by rw[List.getElem?_eq_getElem J,es]
 have B:i<G.length:=by omega
 have Q:(i:Int)<G.length:=by omega
 obtain⟨u,eu⟩:∃ u,G[i]=u:=⟨_,rfl⟩
 have e2:G[i]?=some u:=by rw[List.getElem?_eq_getElem B,eu]
 have hsn:=JV d w nx F G i
 have Fm:=YZ d w nx F G i
 unfold newG at hsn
 rw[e1,e2] at hsn
 generalize xg d w nx F G i=M at hsn Fm
 simp+decide[int,jd,jc,xY,J,L,B,Q,es,e1,eu,e2,I64]
 refine⟨⟨by omega,by omega⟩,⟨by omega,by omega⟩,?_⟩
 refine Yr mixed 23 (by rfl) (by rfl) (by rfl) (by rfl) (by simp) ?_
 simp+decide[int,xY,J,L,B,Q,es,e1,eu,e2,I64,maxLen]
 exact⟨⟨by omega,by omega⟩,by omega,by omega,⟨by omega,by omega⟩,i+1,J,by omega,by omega,by simp[zq,Lang.d,yD,zA],QV g,by rw[hsn];simp[Nt.row,int]⟩
theorem zkb{d:Dc}(h:Rgt d)(g:Lang)(H:LightF g)(G:LangC g)(w:Int)(F:Fw d)(ps:List Prt)(E:ps.length<2^20)(nx:Int):
  zj Tryz.prog 26 [zw d,g.d,int w,zM ps,int nx] (.tup [zw (xq d g w ps nx).1,int (xq d g w ps nx).2]):=by
 by_cases K:(j7 d w).2=0
 .unfold j7 at K
  cases J:yw d with
  |false=>rw[if_pos J] at K;cases K
  |true=>
   rw[if_neg (by rw[J];decide)] at K
   cases L:yo d w with
   |false=>rw[if_pos L] at K;cases K
   |true=>exact zhm h g H G w (BV h w J L F) ps E nx J L
 .exact zd1 h g w F ps nx K
abbrev vy(l:List Nt):Prop:=l.Pairwise λa b=>a.id<b.id
theorem zd2{l:List Nt}(h:(l.map (·.id)).Nodup):vy (j8 l):=by
 have G:=TC l
 have F:((j8 l).map (·.id)).Nodup:=((Jz l).map _).nodup_iff.2 h
 rw[List.nodup_iff_pairwise_ne,List.pairwise_map] at F
 exact(List.pairwise_and_iff.2 ⟨G,F⟩).imp λ{a b} H=>by have:=H.1;have:=H.2;omega
theorem Gn{d:Dc}{w nx:Int}{F G:List ByteArray}:∀ (k:Nat),vy (xg d w nx F G k)/\∀ n∈xg d w nx F G k,∃ j:Nat,j<2*k/\n.id=nx+j
 |0=>⟨by simp[xg,vy],by simp[xg]⟩
 |k+1=>by
  obtain⟨H,E⟩:=Gn (d:=d) (w:=w) (nx:=nx) (F:=F) (G:=G) k;rw[JV];refine⟨List.pairwise_append.2 ⟨H,by simp[newG];omega,λa K b J=>?_⟩,λn L=>?_⟩
  .obtain⟨j,hj,e⟩:=E a K
   simp only[newG,List.mem_cons,List.not_mem_nil,or_false] at J;rcases J with rfl | rfl <;> simp only <;> omega
  .rcases List.mem_append.1 L with L | L
   .obtain⟨j,hj,e⟩:=E n L
    exact⟨j,by omega,e⟩
   .simp only[newG,List.mem_cons,List.not_mem_nil,or_false] at L
    rcases L with rfl | rfl
    .exact⟨2*k,by omega,by simp only;omega⟩
    .exact⟨2*k+1,by omega,by simp only;omega⟩
theorem HB{l:List Nt}{x:Nt}(h:x∈l):(zp l x.id).2=true:=by
 unfold zp
 cases H:l.find? λm=>decide (m.id=x.id) with
 |none=>rw[List.find?_eq_none] at H;exact absurd (H x h) (by simp)
 |some m=>rfl
theorem Gp{l:List Nt}{nx:Int}{k:Nat}(h:qE l nx k=false){x:Nt}(H:x∈l){j:Nat}(hj:j<k):x.id≠nx+j:=by
 intro e
 unfold qE at h
 have:=List.any_eq_false.1 h j (List.mem_range.2 hj)
 rw[<-e,HB H] at this
 exact this rfl
theorem X1{d:Dc}(h:Rgt d)(w:Int):vy (zQ d w):=h.inc.sublist List.filter_sublist
theorem zd3{d:Dc}{w nx:Int}{F G:List ByteArray}{k:Nat}(h:qE (zQ d w) nx (2*k)=false):∀ n∈xg d w nx F G k,∀ x∈zQ d w,x.id≠n.id:=by
 intro n H x E e
 obtain⟨j,hj,e2⟩:=(Gn k).2 n H
 exact Gp h E hj (by rw[e,e2])
theorem zhn{d:Dc}(h:Rgt d){w nx:Int}{F G:List ByteArray}{k:Nat}(H:qE (zQ d w) nx (2*k)=false):((zQ d w++xg d w nx F G k).map (·.id)).Nodup:=by
 rw[List.nodup_iff_pairwise_ne,List.pairwise_map,List.pairwise_append]
 exact⟨(X1 h w).imp λ{a b} e=>by omega,(Gn k).1.imp λ{a b} e=>by omega,λa E b K=>zd3 H b K a E⟩
end Go.V.Doc
namespace Go.V.Doc
open Go Go.Proofs
theorem kP{l:List Nt}(h:vy l){n:Nt}(H:n∈l):zp l n.id=(n,true):=by
 have G:=HB H
 obtain⟨F,E⟩:=uP G
 refine Prod.ext ?_ G
 obtain⟨i,hi,e1⟩:=List.mem_iff_getElem.1 F
 obtain⟨j,hj,e2⟩:=List.mem_iff_getElem.1 H
 have K:=List.pairwise_iff_getElem.1 h
 rw[<-e1,<-e2] at E
 rcases Nat.lt_trichotomy i j with q | q | q
 .have:=K i j hi hj q;omega
 .subst q;rw[<-e1,e2]
 .have:=K j i hj hi q;omega
theorem JW{a b:List Nt}(G:vy a)(F:vy b)(h:∀ m,m∈a↔m∈b):a=b:=by
 have nd:∀ {l:List Nt},vy l->l.Nodup:=λ{l} E=>E.imp λ{x y} H e=>by rw[e] at H;omega
 exact List.Perm.eq_of_pairwise (le:=λa b=>a.id<b.id) (λa b _ _ r1 r2=>by omega) G F ((List.perm_ext_iff_of_nodup (nd G) (nd F)).2 h)
theorem zd4{d x:Dc}(H:x.tiers=d.tiers)(G:x.len=d.len){n:Nt}(F:(zu d n.tier).kind≠0->zp x.notes n.par=zp d.notes n.par):wu x n=wu d n:=by
 have e:∀ i,zu x i=zu d i:=λi=>by unfold zu;rw[H]
 unfold wu jr
 simp only[e,H,G]
 by_cases E:(zu d n.tier).kind=0
 .simp only[E,if_true]
 .rw[F E]
theorem HC{d:Dc}{n:Nt}(H:(zu d n.tier).kind≠0)(G:(zp d.notes n.par).2=true/\(zp d.notes n.par).1.tier=(zu d n.tier).par)
  (F:jr d n (zp d.notes n.par).1=true) (E:0<=n.rank/\(n.rank=0\/(zu d n.tier).kind=3)):wu d n=0:=by
 unfold wu
 rw[if_pos (by rw[if_neg H];simp[G]),if_pos F,if_neg (by omega)]
theorem Rgt.grow{d x:Dc}(h:Rgt d)(E:x.tiers=d.tiers)(K:x.len=d.len)(J:x.notes.length<=300)(hi:vy x.notes)
  (L:∀ n∈x.notes,(n∈d.notes/\((zu d n.tier).kind≠0->zp x.notes n.par=zp d.notes n.par)/\∀ m,m.tier=n.tier->m.par=n.par->(m∈x.notes↔m∈d.notes)) \/
   (Nok x n/\((zu d n.tier).kind=3/\jQ (yc x.notes n.tier n.par)=true\/(zu d n.tier).kind=4/\(yc x.notes n.tier n.par).length<=1))):Rgt x:=by
 have e:∀ i,zu x i=zu d i:=λi=>by unfold zu;rw[E]
 have hs:∀ n:Nt,(∀ m,m.tier=n.tier->m.par=n.par->(m∈x.notes↔m∈d.notes))->yc x.notes n.tier n.par=yc d.notes n.tier n.par:=λn M=>by
  unfold yc;refine JW (hi.sublist List.filter_sublist) (h.inc.sublist List.filter_sublist) λm=>?_
  simp only[List.mem_filter,Bool.and_eq_true,decide_eq_true_eq];exact⟨λq=>⟨(M m q.2.1 q.2.2).1 q.1,q.2⟩,λq=>⟨(M m q.2.1 q.2.2).2 q.1,q.2⟩⟩
 refine⟨by rw[E];exact h.tiers,by rw[K];exact h.len,J,λn O=>?_,hi,λt F=>?_⟩
 .rcases L n O with⟨Q,T,_⟩ | ⟨Q,_⟩
  .have o:=h.nok n Q
   refine⟨o.lo,o.hi,o.t0,by rw[E];exact o.t1,?_⟩
   have V:=o.e;rw[YE] at V ⊢;rw[zd4 E K T];exact V
  .exact Q
 .have G:=Uw.1 (h.ter t (by rw[<-E];exact F))
  rw[Uw,e];refine⟨λn X=>?_,λn X=>?_⟩ <;> obtain⟨O,et⟩:=uR.1 X <;> rcases L n O with⟨Q,T,M⟩ | ⟨_,M⟩
  .have H:=hs n M
   have Y:=G.1 n (uR.2 ⟨Q,et⟩);rw[et] at H;unfold wA at Y ⊢;rw[H];exact Y
  .rw[et] at M
   unfold wA;rcases M with⟨k,_⟩ | ⟨k,_⟩ <;> rw[k] <;> rfl
  .have H:=hs n M
   have Y:=G.2 n (uR.2 ⟨Q,et⟩);rw[et] at H T;unfold badR at Y ⊢;rw[H];by_cases k1:(zu d t).kind=1
   .rw[T (by rw[k1];decide)];exact Y
   .simp only[k1,decide_false,Bool.false_and] at Y ⊢;exact Y
  .rw[et] at M
   unfold badR;rcases M with⟨k,q⟩ | ⟨k,q⟩
   .rw[k,q];rfl
   .rw[k,decide_eq_false (show ¬1<(yc x.notes t n.par).length by omega)];rfl
section
variable {d:Dc} {w:Int}
theorem zho(h:Rgt d){m n:Nt}(H:m∈d.notes)(G:n∈d.notes)(F:m.tier=n.tier)(E:m.par=n.par):m.id∈YN d w↔n.id∈YN d w:=by
 rw[uU h H,uU h G,(xd h H).1,(xd h G).1,E]
 simp only[List.mem_cons,or_and_right,exists_or,exists_eq_left,F,E]
theorem vM{n:Nt}:n∈zQ d w↔n∈d.notes/\n.id∉YN d w:=by
 unfold zQ QE
 simp only[List.mem_filter,Bool.not_eq_true',decide_eq_false_iff_not]
theorem Gq(h:Rgt d){n:Nt}(G:n∈zQ d w)(F:(zu d n.tier).kind≠0):∃ p∈zQ d w,zp d.notes n.par=(p,true)/\p.id=n.par:=by
 obtain⟨E,K⟩:=vM.1 G
 obtain⟨t,H,et⟩:=h.UD E
 rw[et] at F
 obtain⟨p1,p2⟩:=h.parent ⟨E,et⟩ H F
 have J:=ju h p1.1
 rw[p2] at J
 refine⟨_,vM.2 ⟨p1.1,λL=>K ?_⟩,J,p2⟩
 obtain⟨c,q1,q2,q3⟩:=(uU h p1.1).1 L
 refine(uU h E).2 ⟨c,?_,q2,q3⟩
 rw[(xd h E).1,J]
 unfold chainE
 rw[if_pos rfl]
 exact List.mem_cons_of_mem _ q1
theorem HD(h:Rgt d):Rgt (xm d w):=by
 refine h.grow rfl rfl (Nat.le_trans (List.length_filter_le _ _) h.few) (X1 h w) λn H=>.inl ?_
 have H:n∈zQ d w:=H
 obtain⟨G,F⟩:=vM.1 H
 refine⟨G,λE=>?_,λm a b=>⟨λK=>(vM.1 K).1,λK=>vM.2 ⟨K,λJ=>F ((zho h K G a b).1 J)⟩⟩⟩
 obtain⟨p,L,M,e⟩:=Gq h H E
 rw[M,<-e]
 exact kP (X1 h w) L
end
theorem Gr{l:List Tir}{t:Tir}(h:qx l t=0):(t.role=0\/uf l t.role=false)/\((t.role=3->t.kind=3/\0<=t.par/\t.par<l.length/\(l[t.par.toNat]?.getD default).role=2)/\(t.role=4->t.kind=4/\0<=t.par/\t.par<l.length/\(l[t.par.toNat]?.getD default).role=3)):=by
 unfold qx at h
 split at h
 .cases h
 split at h
 .cases h
 split at h
 .cases h
 split at h
 .cases h
 split at h
 .cases h
 rename_i H
 refine⟨.inr (by simpa using H),?_⟩
 split at h
 .rename_i k0
  split at h
  .unfold gU at h
   constructor <;> intro r <;> rw[r,k0] at h <;> simp at h
  .cases h
 split at h
 .cases h
 rename_i k0 G
 split at h
 .cases h
 unfold gU at h
 constructor <;> intro r <;> rw[r] at h <;> simp at h
 .split at h
  .split at h
   .exact⟨by assumption,by omega,by omega,by assumption⟩
   .cases h
  .cases h
 .split at h
  .split at h
   .exact⟨by assumption,by omega,by omega,by assumption⟩
   .cases h
  .cases h
theorem HE{d:Dc}(h:Rgt d){t:Nat}(H:t<d.tiers.length){r:Int}(G:r≠0)(F:(d.tiers[t]).role=r):zv d.tiers r=t:=by
 have E:=(Gr (h.good.tiers t H)).1
 rw[F] at E
 unfold zv ZP
 rw[if_neg G,Bn H (λe K=>?_) (by simp[F])]
 rcases E with E | E
 .exact absurd E G
 .unfold uf at E
  rw[decide_eq_false G,Bool.not_false,Bool.true_and,List.any_eq_false] at E;exact Bool.eq_false_iff.2 (E e K)
theorem QW{d:Dc}{r:Int}(H:r≠0)(h:0<=zv d.tiers r):∃ t:Nat,zv d.tiers r=t/\∃ G:t<d.tiers.length,(d.tiers[t]).role=r:=by
 unfold zv at h ⊢
 rw[if_neg H] at h ⊢
 obtain⟨t,et,G,F⟩:=Bo h
 exact⟨t,et,G,of_decide_eq_true F⟩
theorem HF{d:Dc}(h:Rgt d){t:Nat}(H:t<d.tiers.length){r:Int}(G:r≠0)(F:0<=(d.tiers[t]).par)(E:(d.tiers[t]).par<(d.tiers.take t).length)(K:((d.tiers.take t)[(d.tiers[t]).par.toNat]?.getD default).role=r):(zu d t).par=zv d.tiers r:=by
 rw[Z3 d H]
 rw[List.length_take] at E
 have J:(d.tiers[t]).par.toNat<d.tiers.length:=by omega
 rw[List.getElem?_take,if_pos (by omega),List.getElem?_eq_getElem J,Option.getD_some] at K
 rw[HE h J G K];omega
structure Tiered(d:Dc):Prop where
 m:(zu d (zv d.tiers 3)).kind=3/\(zu d (zv d.tiers 3)).par=zv d.tiers 2/\0<=zv d.tiers 3/\zv d.tiers 3<d.tiers.length
 g:(zu d (zv d.tiers 4)).kind=4/\(zu d (zv d.tiers 4)).par=zv d.tiers 3/\0<=zv d.tiers 4/\zv d.tiers 4<d.tiers.length
theorem Zi{d:Dc}(h:Rgt d)(H:yw d=true):Tiered d:=by
 unfold yw at H
 simp only[Bool.and_eq_true,decide_eq_true_eq] at H
 obtain⟨t3,e3,l3,r3⟩:=QW (by decide) H.2.1
 obtain⟨t4,e4,l4,r4⟩:=QW (by decide) H.2.2
 obtain⟨k3,a1,a2,a3⟩:=(Gr (h.good.tiers t3 l3)).2.1 r3
 obtain⟨k4,b1,b2,b3⟩:=(Gr (h.good.tiers t4 l4)).2.2 r4
 refine⟨?_,?_⟩
 .rw[e3,HF h l3 (by decide) a1 a2 a3,Z3 d l3]
  exact⟨k3,rfl,by omega,by omega⟩
 .rw[e4,HF h l4 (by decide) b1 b2 b3,Z3 d l4]
  exact⟨k4,rfl,by omega,by omega⟩
section
variable {d:Dc} {w nx:Int} {F G:List ByteArray}
abbrev Y4(d:Dc)(w nx:Int)(F:List ByteArray)(i:Nat):Nt:=⟨nx+2*i,zv d.tiers 3,w,0,0,i,(F[i]?).getD .empty⟩
abbrev X3(d:Dc)(nx:Int)(G:List ByteArray)(i:Nat):Nt:=⟨nx+2*i+1,zv d.tiers 4,nx+2*i,0,0,0,(G[i]?).getD .empty⟩
theorem jA{k:Nat}{n:Nt}:n∈xg d w nx F G k↔∃ i,i<k/\(n=Y4 d w nx F i\/n=X3 d nx G i):=by
 unfold xg newG
 simp only[List.mem_flatMap,List.mem_range,List.mem_cons,List.not_mem_nil,or_false]
theorem vN{n:Nt}:n∈(yQ d w nx F G).notes↔n∈zQ d w\/n∈xg d w nx F G F.length:=(Jz _).mem_iff.trans List.mem_append
theorem Y5(h:Rgt d)(H:qE (zQ d w) nx (2*F.length)=false):vy (yQ d w nx F G).notes:=zd2 (zhn h H)
theorem zfl{l:List Nt}(h:vy l):l.Nodup:=h.imp λ{x y} H e=>by rw[e] at H;omega
theorem zfm(h:Rgt d)(H:yo d w=true)(E:qE (zQ d w) nx (2*F.length)=false):∃ n∈zQ d w,n.id=w/\n.tier=zv d.tiers 2/\zp (yQ d w nx F G).notes w=(n,true)/\zp d.notes w=(n,true):=by
 have e:=Gl h H
 unfold yo at H
 rw[Bool.and_eq_true,decide_eq_true_eq] at H
 have K:=uP (l:=zQ d w) (id:=w) (by rw[e];exact H.1)
 rw[e] at K
 have J:=kP (Y5 (G:=G) h E) (vN.2 (.inl K.1))
 rw[K.2] at J
 exact⟨_,K.1,K.2,H.2,J,Prod.ext rfl H.1⟩
theorem HG(H:zv d.tiers 4≠zv d.tiers 3):∀ k,((xg d w nx F G k).filter λn=>decide (n.tier=zv d.tiers 3)&&decide (n.par=w)).length<=k
 |0=>by simp[xg]
 |k+1=>by
  have:=HG H k
  rw[JV,List.filter_append,List.length_append];have:((newG d w nx F G k).filter λn=>decide (n.tier=zv d.tiers 3)&&decide (n.par=w)).length<=1:=by simp[newG,H]
  omega
theorem QX(h:Rgt d){n:Nt}(H:n∈zQ d w)(G:n.tier=zv d.tiers 3)(F:n.par=w):False:=
 (vM.1 H).2 ((uU h (vM.1 H).1).2 ⟨n,Qy h (vM.1 H).1,G,F⟩)
theorem JX(h:Rgt d)(H:Tiered d)(G:qE (zQ d w) nx (2*F.length)=false){i:Nat}(hi:i<F.length){n:Nt}(E:n∈zQ d w)(K:n.tier=zv d.tiers 4)(J:n.par=nx+2*i):False:=by
 obtain⟨p,L,_,e⟩:=Gq h E (by rw[K,H.g.1];decide)
 exact Gp G L (j:=2*i) (by omega) (by rw[e,J];omega)
theorem zhp(h:Rgt d)(Q:yw d=true)(T:yo d w=true)(V:∀ s∈F,textE s=0)(X:∀ s∈G,textE s=0)(Y:G.length=F.length)(Z:1<=nx)(A:nx+2*F.length<=1099511627777)
  (B:qE (zQ d w) nx (2*F.length)=false) (C:(zQ d w).length+2*F.length<=300):Rgt (yQ d w nx F G):=by
 have I:=Zi h Q
 have J:zv d.tiers 4≠zv d.tiers 3:=λe=>by have:=I.g.1;rw[e,I.m.1] at this;cases this
 have E:=Y5 (G:=G) h B
 have K:∀ {L:List ByteArray} {i:Nat},(∀ s∈L,textE s=0)->i<L.length->textE ((L[i]?).getD .empty)=0:=λ{L i} N hi=>by
  rw[List.getElem?_eq_getElem hi];exact N _ (List.getElem_mem hi)
 have H:∀ i,zu (yQ d w nx F G) i=zu d i:=λ_=>rfl
 refine(HD h (w:=w)).grow rfl rfl ?_ E λn P=>?_
 .show(j8 _).length<=300
  rw[Jy,List.length_append,YZ];exact C
 rcases vN.1 P with S | S
 .left
  refine⟨S,λhk=>?_,λm a b=>⟨λW=>?_,λW=>vN.2 (.inl W)⟩⟩
  .obtain⟨p,hp,_,e⟩:=Gq h S hk
   have e2:zp (xm d w).notes n.par=(p,true):=by rw[<-e];exact kP (X1 h w) hp
   rw[e2,<-e];exact kP E (vN.2 (.inl hp))
  .rcases vN.1 W with W | W
   .exact W
   .obtain⟨i,hi,rfl | rfl⟩:=jA.1 W
    .exact(QX h S a.symm b.symm).elim
    .exact(JX h I B hi S a.symm b.symm).elim
 .right
  obtain⟨i,hi,e⟩:=jA.1 S;rcases e with rfl | rfl
  .obtain⟨p,hp,_,pt,hg,_⟩:=zfm (G:=G) h T B
   refine⟨⟨by simp only;omega,by simp only;omega,I.m.2.2.1,I.m.2.2.2,?_⟩,.inl ⟨I.m.1,?_⟩⟩
   .rw[YE,if_pos (K V hi)]
    refine HC (by rw[H,I.m.1];decide) (by rw[H,hg];exact⟨rfl,by rw[I.m.2.1];exact pt⟩) ?_ ⟨by simp only;omega,.inr (by rw[H];exact I.m.1)⟩
    unfold jr;rw[if_neg]
    .simp
    .rw[Qr (d:=yQ d w nx F G) I.m.2.2.1 I.m.2.2.2,H,I.m.1];decide
   .rw[Ql]
    intro j hj;have M:(yc (yQ d w nx F G).notes (zv d.tiers 3) w).length<=F.length:=by
     unfold yc;show((j8 (zQ d w++xg d w nx F G F.length)).filter _).length<=F.length
     rw[((Jz (zQ d w++xg d w nx F G F.length)).filter _).length_eq,List.filter_append,List.length_append];have e0:(zQ d w).filter (λn=>decide (n.tier=zv d.tiers 3)&&decide (n.par=w))=[]:=by
      rw[List.filter_eq_nil_iff];intro m W e;rw[Bool.and_eq_true,decide_eq_true_eq,decide_eq_true_eq] at e;exact QX h W e.1 e.2
     rw[e0];have:=HG (w:=w) (nx:=nx) (F:=F) (G:=G) J F.length
     simp only[List.length_nil,Nat.zero_add];exact this
    have O:j<F.length:=Nat.lt_of_lt_of_le hj M
    rw[List.any_eq_true];exact⟨Y4 d w nx F j,List.mem_filter.2 ⟨vN.2 (.inr (jA.2 ⟨j,O,.inl rfl⟩)),by simp⟩,by simp⟩
  .have hg:=kP E (vN.2 (.inr (jA.2 ⟨i,hi,.inl rfl⟩)))
   refine⟨⟨by simp only;omega,by simp only;omega,I.g.2.2.1,I.g.2.2.2,?_⟩,.inr ⟨I.g.1,?_⟩⟩
   .rw[YE,if_pos (K X (by omega))]
    refine HC (by rw[H,I.g.1];decide) (by rw[H];simp only at hg ⊢;rw[hg];exact⟨rfl,by rw[I.g.2.1]⟩) ?_ ⟨by simp only;omega,.inl rfl⟩
    unfold jr;rw[if_neg]
    .simp
    .rw[Qr (d:=yQ d w nx F G) I.g.2.2.1 I.g.2.2.2,H,I.g.1];decide
   .refine Sr ((zfl E).sublist List.filter_sublist) λa ha b hb=>?_
    have key:∀ m,m∈yc (yQ d w nx F G).notes (zv d.tiers 4) (nx+2*i)->m=X3 d nx G i:=λm W=>by
     unfold yc at W;rw[List.mem_filter,Bool.and_eq_true,decide_eq_true_eq,decide_eq_true_eq] at W;obtain⟨q1,q2,q3⟩:=W;rcases vN.1 q1 with q | q
     .exact(JX h I B hi q q2 q3).elim
     .obtain⟨j,hj,rfl | rfl⟩:=jA.1 q
      .exact absurd q2.symm J
      .obtain rfl:j=i:=by simp only at q3;omega
       rfl
    rw[key a ha,key b hb]
end
end Go.V.Doc
namespace Go.V.Doc
open Go Go.Proofs Go.Lib
theorem decodeN_more(n m b0 b1 b2 b3 c1 c2 c3:Nat)(H:n<=m)(G:1<n->c1=b1)(F:2<n->c2=b2)(E:3<n->c3=b3)(K:¬((decodeN n b0 b1 b2 b3).1=65533/\(decodeN n b0 b1 b2 b3).2=1))(J:1<=n):
  decodeN m b0 c1 c2 c3=decodeN n b0 b1 b2 b3/\(decodeN n b0 b1 b2 b3).2<=n/\1<=(decodeN n b0 b1 b2 b3).2:=by
 by_cases n1:1<n
 .have:=G n1;subst this
  by_cases n2:2<n
  .have:=F n2;subst this
   by_cases n3:3<n
   .have:=E n3;subst this
    have m1:1<m:=by omega
    have m2:2<m:=by omega
    have m3:3<m:=by omega
    revert K
    unfold decodeN;simp only[n1,n2,n3,m1,m2,m3,true_and];intro K;constructor <;> (repeat' split) <;> (simp only;omega)
   .revert K
    unfold decodeN;have m1:1<m:=by omega
    have m2:2<m:=by omega
    simp only[n1,n2,n3,m1,m2,true_and,false_and,and_false,if_false];repeat' split
    all_goals intro K
    all_goals first | exact absurd ⟨rfl,rfl⟩ K | (refine⟨rfl,?_⟩;simp only;omega) | (exfalso;omega)
  .revert K
   unfold decodeN;have m1:1<m:=by omega
   simp only[n1,n2,m1,true_and,false_and,and_false,if_false];repeat' split
   all_goals intro K
   all_goals first | exact absurd ⟨rfl,rfl⟩ K | (refine⟨rfl,?_⟩;simp only;omega) | (exfalso;omega)
 .revert K
  unfold decodeN;simp only[n1,false_and,and_false,if_false];repeat' split
  all_goals intro K
  all_goals first | exact absurd ⟨rfl,rfl⟩ K | (refine⟨rfl,?_⟩;simp only;omega) | (exfalso;omega)
theorem HH:∀ (k:Nat) (a b:List UInt8),a.length<=k->validD a=true->validD (a++b)=validD b
 |0,a,b,G,_=>by
  obtain rfl:a=[]:=List.eq_nil_of_length_eq_zero (by omega)
  rfl
 |k+1,a,b,G,h=>by
  by_cases e:a=[]
  .subst e;rfl
  have H:0<a.length:=List.length_pos_iff.2 e
  rw[validD_step a e] at h;split at h
  .cases h
  rename_i F;rw[decodeL_N] at F;have E:∀ i,i<a.length->(a++b).getD i 0=a.getD i 0:=λi hi=>by
   simp only[List.getD_eq_getElem?_getD];rw[List.getElem?_append_left hi]
  have K:=decodeN_more a.length (a++b).length (a.getD 0 0).toNat (a.getD 1 0).toNat (a.getD 2 0).toNat (a.getD 3 0).toNat ((a++b).getD 1 0).toNat ((a++b).getD 2 0).toNat ((a++b).getD 3 0).toNat (by simp) (λq=>by rw[E 1 q]) (λq=>by rw[E 2 q]) (λq=>by rw[E 3 q]) F H
  obtain⟨d1,d2,d3⟩:=K;have e2:decodeL (a++b)=decodeL a:=by rw[decodeL_N,decodeL_N,E 0 H,d1]
  rw[validD_step (a++b) (by simp[e]),e2,if_neg (by rw[decodeL_N];exact F)]
  rw[<-decodeL_N] at d2;rw[List.drop_append_of_le_length d2];exact HH k _ b (by rw[List.length_drop];rw[<-decodeL_N] at d3;omega) h
def je(s:ByteArray):Prop:=validD s.data.toList=true/\∀ b∈s.data.toList,badByte b.toNat=false
theorem zi7{a b:ByteArray}(H:je a)(G:je b):je (a++b):=by
 unfold je at *
 rw[ByteArray.data_append,Array.toList_append]
 refine⟨by rw[HH _ _ _ (Nat.le_refl _) H.1];exact G.1,λx F=>?_⟩
 rcases List.mem_append.1 F with F | F
 .exact H.2 x F
 .exact G.2 x F
theorem X5:je .empty:=⟨rfl,λb H=>by cases H⟩
theorem zfn{s:ByteArray}{b:UInt8}(H:b∈s.data.toList):∃ k,k<s.size/\zD s k=b.toNat:=by
 obtain⟨k,G,rfl⟩:=List.mem_iff_getElem.1 H
 refine⟨k,by simpa using G,?_⟩
 unfold zD
 rw[List.getD_eq_getElem?_getD,List.getElem?_eq_getElem G];rfl
theorem HI{s:ByteArray}(h:xl s=true):je s:=by
 unfold xl at h
 rw[Bool.and_eq_true,Bool.and_eq_true,Bool.and_eq_true] at h
 obtain⟨H,⟨G,_⟩,_⟩:=h
 have F:=(Uc s s.size 0 (by omega) (by omega)).1
 rw[List.drop_zero,G] at F
 refine⟨F,λb E=>?_⟩
 obtain⟨k,K,e⟩:=zfn E
 unfold uJ at H
 have:=List.all_eq_true.1 H k (List.mem_range.2 K)
 rw[e] at this
 unfold gY at this
 unfold badByte
 rw[Bool.and_eq_true,decide_eq_true_eq,decide_eq_true_eq] at this
 rw[decide_eq_false this.1,decide_eq_false this.2];rfl
theorem text_of{s:ByteArray}(h:je s)(G:s.size<=200):textE s=0:=by
 unfold textE
 rw[if_neg (by omega),if_pos (show U0 s=true from h.1),if_neg]
 unfold Jf
 rw[Bool.not_eq_true,List.any_eq_false]
 intro k F
 have F:=List.mem_range.1 F
 have H:k<s.data.toList.length:=by simpa using F
 have:=h.2 (s.data.toList[k]) (List.getElem_mem H)
 unfold zD
 rw[List.getD_eq_getElem?_getD,List.getElem?_eq_getElem H]
 simp only[Option.getD_some];rw[this];decide
theorem HJ{us:List Grap}(H:∀ u∈us,UnitF u){w:List Int}:∀ {f at_:Nat} {acc:ByteArray},je acc->je (uq us w f at_ acc).1
 |0,_,_,_=>X5
 |f+1,at_,acc,h=>by
  unfold uq;split
  .split
   .exact X5
   .rename_i b G
    obtain⟨v,F,_⟩:=Y3 G;rw[F];exact HJ H (zi7 h (HI (H v (List.mem_of_getElem? F)).lab))
  .exact h
theorem zfo{us:List Grap}(H:∀ u∈us,UnitF u)(w:List Int):je (qS us w).1:=by
 unfold qS
 split
 .exact X5
 .split
  .exact X5
  .exact HJ H X5
theorem HK{l:List Ent}(H:∀ e∈l,∀ s∈e.senses,xl s.gloss=true):∀ {f:Nat} {id:Int} {ss:List Sens},wj l f id=some ss->∀ s∈ss,xl s.gloss=true
 |0,_,_,h=>by cases h
 |f+1,id,ss,h=>by
  unfold wj at h;split at h
  .rename_i G
   split at h
   .cases h;exact H _ (Yz G)
   .split at h
    .cases h
    .exact HK H h
  .cases h
theorem zfp{l:List Ent}(H:∀ e∈l,∀ s∈e.senses,xl s.gloss=true)(p:Prt):je (Zh l p)/\(Zh l p).size<=200:=by
 unfold Zh
 cases hs:(xM l p.entry)[p.sense.toNat]? with
 |none=>exact⟨X5,Nat.zero_le _⟩
 |some s=>
  have G:=List.mem_of_getElem? hs;have F:xl s.gloss=true:=by
   unfold xM at G;cases E:wj l (l.length+1) p.entry with
   |none=>rw[E] at G;cases G
   |some ss=>rw[E] at G;exact HK H E s G
  have:=(UU F).2
  exact⟨HI F,by simp only[Option.map_some,Option.getD_some];omega⟩
theorem HL{g:Lang}(H:LightF g):∀ {ps:List Prt} {x y:List ByteArray},(∀ s∈x,je s)->(∀ s∈y,je s/\s.size<=200)->(∀ s∈(v8 g ps x y).1,je s)/\∀ s∈(v8 g ps x y).2.1,je s/\s.size<=200
 | [],x,y,G,F=>⟨G,F⟩
 |p::ps,x,y,G,F=>by
  unfold v8;split
  .exact⟨λs h=>(by cases h),λs h=>(by cases h)⟩
  .refine HL H (λs h=>?_) (λs h=>?_) <;> rcases List.mem_append.1 h with h | h
   .exact G s h
   .rw[List.mem_singleton] at h;rw[h];exact zfo H.units1 _
   .exact F s h
   .rw[List.mem_singleton] at h;rw[h];exact zfp (λe E=>(H.lex.each e E).gl) p
theorem zd5{g:Lang}(H:LightF g)(ps:List Prt):(∀ s∈(yz g ps).1,je s)/\∀ s∈(yz g ps).2.1,textE s=0:=by
 unfold yz
 split
 .exact⟨λs h=>(by cases h),λs h=>(by cases h)⟩
 .have h:=HL H (ps:=ps) (x:=[]) (y:=[]) (λs h=>(by cases h)) (λs h=>(by cases h))
  exact⟨h.1,λs hs=>text_of (h.2 s hs).1 (h.2 s hs).2⟩
theorem HM{g:Lang}:∀ {ps:List Prt} {x y:List ByteArray},(v8 g ps x y).2.2=0->(v8 g ps x y).1.length=x.length+ps.length
 | [],x,y,_=>rfl
 |p::ps,x,y,h=>by
  unfold v8 at h ⊢;split at h
  .rename_i H;exact absurd h H
  .rename_i H
   rw[if_neg H,HM h];simp only[List.length_append,List.length_cons,List.length_nil];omega
theorem zcu{g:Lang}{ps:List Prt}(h:(yz g ps).2.2=0):(yz g ps).1.length=ps.length/\ps.length<=4:=by
 unfold yz at h ⊢
 split at h
 .rename_i H;exact absurd h H
 .rename_i H
  rw[if_neg H,HM h];refine⟨by simp,?_⟩
  rw[ne_eq,Classical.not_not] at H;unfold ql at H;split at H
  .cases H
  .split at H
   .cases H
   .omega
end Go.V.Doc
namespace Go.V.Doc
open Go Go.Proofs
section
variable {d:Dc} {w nx:Int} {F G:List ByteArray}
theorem Gs(h:Fw d):Fw (xm d w) where
 n:=Nat.lt_of_le_of_lt (List.length_filter_le _ _) h.n
 k:=λid t=>Nat.lt_of_le_of_lt (List.Sublist.length_le (List.filter_sublist.filter _)) (h.k id t)
theorem zi8(h:Rgt d)(E:yw d=true)(K:Fw d)(J:qE (zQ d w) nx (2*F.length)=false)(L:F.length<=4):Fw (yQ d w nx F G) where
 n:=by
  show(j8 _).length<2^40
  have:=(Gs (w:=w) K).n
  have:(zQ d w).length<=d.notes.length:=List.length_filter_le _ _
  have:=h.few
  rw[Jy,List.length_append,YZ];omega
 k:=λid t=>by
  have M:=Zi h E;show((j8 (zQ d w++xg d w nx F G F.length)).filter (ym d id t)).length<20
  rw[((Jz (zQ d w++xg d w nx F G F.length)).filter _).length_eq,List.filter_append,List.length_append];have O:=(Gs (w:=w) K).k id t;have O:((zQ d w).filter (ym d id t)).length<20:=O
  have Q:((xg d w nx F G F.length).filter (ym d id t)).length<=8:=Nat.le_trans (List.length_filter_le _ _) (by rw[YZ];omega)
  cases T:(xg d w nx F G F.length).filter (ym d id t) with
  |nil=>simpa using O
  |cons n l=>
   rw[<-T];obtain⟨m1,m2⟩:=List.mem_filter.1 (show n∈(xg d w nx F G F.length).filter (ym d id t) by rw[T];exact List.mem_cons_self)
   have e0:(zQ d w).filter (ym d id t)=[]:=by
    rw[List.filter_eq_nil_iff];intro m H V;unfold ym at V m2;simp only[Bool.and_eq_true,decide_eq_true_eq] at V m2;obtain⟨i,hi,rfl | rfl⟩:=jA.1 m1
    .exact QX h H (V.1.1.1.trans m2.1.1.1.symm) (V.1.1.2.trans m2.1.1.2.symm)
    .exact JX h M J hi H (V.1.1.1.trans m2.1.1.1.symm) (V.1.1.2.trans m2.1.1.2.symm)
   rw[e0];simp only[List.length_nil];omega
end
structure Mid(d:Dc):Prop where
 r:Rgt d
 y:yw d=true
 w:Fw d
theorem Mid.clear{d:Dc}(h:Mid d)(w:Int):Mid (xm d w):=⟨HD h.r,h.y,Gs h.w⟩
theorem QY{d:Dc}{g:Lang}{w:Int}{ps:List Prt}{nx:Int}(H:(xq d g w ps nx).2=0):
  (j7 d w).2=0/\QU g (zp d.notes w).1.text ps=true/\(yz g ps).2.2=0/\X0 (yz g ps).1=false/\(1<=nx/\nx<=1099511627768)/\qE (zQ d w) nx (2*(yz g ps).1.length)=false/\(zQ d w).length+2*(yz g ps).1.length<=300 /\
   (xq d g w ps nx).1=yQ d w nx (yz g ps).1 (yz g ps).2.1:=by
 unfold xq at H ⊢
 split at H
 .rename_i h;exact absurd H h
 rename_i G
 rw[if_neg G]
 split at H
 .cases H
 rename_i F
 rw[if_neg F]
 split at H
 .rename_i h;exact absurd H h
 rename_i E
 rw[if_neg E]
 split at H
 .cases H
 rename_i K
 rw[if_neg K]
 split at H
 .cases H
 rename_i J
 rw[if_neg J]
 split at H
 .cases H
 rename_i L
 rw[if_neg L]
 split at H
 .cases H
 rename_i M
 rw[if_neg M]
 exact⟨Classical.not_not.1 G,by simpa using F,Classical.not_not.1 E,by simpa using K,⟨by omega,by omega⟩,by simpa using L,by omega,rfl⟩
theorem zcv{d:Dc}{w:Int}(h:(j7 d w).2=0):yw d=true/\yo d w=true:=by
 unfold j7 at h
 split at h
 .cases h
 .split at h
  .cases h
  .rename_i H G
   exact⟨by simpa using H,by simpa using G⟩
theorem Mid.fill{d:Dc}(h:Mid d){g:Lang}(H:LightF g){w:Int}{ps:List Prt}{nx:Int}(G:(xq d g w ps nx).2=0):Mid (xq d g w ps nx).1:=by
 obtain⟨c1,c2,c3,c4,c5,c6,c7,c8⟩:=QY G
 obtain⟨_,F⟩:=zcv c1
 obtain⟨l1,l2⟩:=zcu c3
 obtain⟨t1,t2⟩:=zd5 H ps
 have hs:=Gm g ps
 rw[c8]
 refine⟨zhp h.r h.y F (λs hs=>text_of (t1 s hs) ?_) t2 hs c5.1 (by omega) c6 c7,h.y,zi8 h.r h.y h.w c6 (by omega)⟩
 unfold X0 at c4
 have:=List.any_eq_false.1 c4 s hs
 simpa using this
end Go.V.Doc
namespace Go.V
open Go Go.Proofs
def xr(d x:Dec):Bool:=d.yes&&(x.yes&&decide (d.ref=x.ref))
theorem uY{a b:Rf}:a=b↔a.rcd=b.rcd/\a.note=b.note:=by cases a;cases b;simp
def vz(a b:Dec):Bool:=if a.ref.rcd=b.ref.rcd then (if a.ref.note=b.ref.note then ya a.pick b.pick else decide (a.ref.note<b.ref.note)) else decide (a.ref.rcd<b.ref.rcd)
def Dec.fit(d:Dec):Prop:=d.pick.length<2^62
theorem zfq(a b:Dec)(H:a.fit)(G:b.fit):zj Tryz.prog 118 [.agg a.row,.agg b.row] (.bool (vz a b)):=by
 refine zn mixed Tryz.func118 rfl c_118 ?_
 simp+decide[Tryz.f118,Dec.row,int,vz]
 refine⟨λh F=>absurd F h,λh=>⟨λh2=>?_,λh2=>?_⟩⟩
 .rw[if_pos h,if_neg h2]
 .refine zg (OA a.pick b.pick H G) ?_
  simp[if_pos h,if_pos h2]
def cmpD(a b:Dec):Int:=if Ce a.ref b.ref=0 then (if ya a.pick b.pick=true then -1 else if ya b.pick a.pick=true then 1 else 0) else Ce a.ref b.ref
def isId(n:Int):Bool:=decide (1<=n)&&decide (n<=1099511627776)
theorem HN(n:Int):zj Tryz.prog 117 [int n] (.bool (isId n)):=by
 refine zn mixed Tryz.func117 rfl c_117 ?_
 simp+decide[Tryz.f117,int,isId]
 omega
def k5{α:Type}(p:α->Bool)(l:List α):Int:=match l.findIdx? p with
 |some k=>k
 |none=>-1
theorem HQ{α:Type}{p:α->Bool}{l:List α}{k:Nat}(h:k<l.length)(H:∀ e∈l.take k,p e=false)(G:p l[k]=true):l.findIdx? p=some k:=by
 rw[List.findIdx?_eq_some_iff_getElem]
 refine⟨h,G,λj hj=>?_⟩
 have:=H l[j] (by rw[List.mem_take_iff_getElem];exact⟨j,by omega,rfl⟩)
 simpa using this
theorem Gt{α:Type}{p:α->Bool}{l:List α}(H:∀ e∈l,p e=false):l.findIdx? p=none:=by
 rw[List.findIdx?_eq_none_iff];exact H
theorem zfr(l:List Dec)(G:l.length<2^62)(f:Nat)(caps:List D)(p:Dec->Bool)(F:∀ x∈l,zj Tryz.prog f (.agg x.row::caps) (.bool (p x))):
  zj Tryz.prog 241 [zB l,.fn f caps] (int (k5 p l)):=by
 refine zn mixed Tryz.func241 rfl c_241 ?_
 simp[Tryz.f241,zB]
 refine zr mixed (λk:Nat=>{n:=19,next:=0,slots:=[(0,.d (zB l)),(1,.d (.fn f caps)),(6,.d (zB l)),(7,.d (.int .i64 l.length)),(8,.d (.int .i64 k))],own:=[]})
  (λk=>k<=l.length/\∀ e∈l.take k,p e=false) (λk=>l.length-k) 0 (by simp) (by simp[zB]) ?_
 intro k ⟨E,K⟩
 by_cases H:k<l.length
 .have e1:l[k]?=some l[k]:=List.getElem?_eq_getElem H
  simp+decide[zB,Dec.row,int,H];refine zF.pure (lent:=false) (by simp[jY,U1];rfl) (F l[k] (List.getElem_mem H)) (by simp) ?_
  simp+decide[I64];refine⟨λh=>?_,λh=>⟨by omega,k+1,⟨H,kq H K h⟩,by omega,by omega⟩⟩
  simp[k5,HQ H K h]
 .have:k=l.length:=by omega
  subst this;simp+decide[zB,int];simp[k5,Gt (by simpa using K)]
theorem zhq{α:Type}(p:α->Bool)(l:List α):decide (0<=k5 p l)=l.any p:=by
 unfold k5
 cases h:l.findIdx? p with
 |none=>
  rw[List.findIdx?_eq_none_iff] at h;have:l.any p=false:=by rw[List.any_eq_false];intro x H;rw[h x H];simp
  rw[this];rfl
 |some k=>
  rw[List.findIdx?_eq_some_iff_getElem] at h;obtain⟨G,F,_⟩:=h;rw[List.any_eq_true.2 ⟨_,List.getElem_mem G,F⟩];simp
theorem zbl(l:List Dec)(H:l.length<2^62)(f:Nat)(caps:List D)(p:Dec->Bool)(G:∀ x∈l,zj Tryz.prog f (.agg x.row::caps) (.bool (p x))):
  zj Tryz.prog 219 [zB l,.fn f caps] (.bool (l.any p)):=by
 refine zn mixed Tryz.func219 rfl c_219 ?_
 simp[Tryz.f219,zB]
 refine zg (zfr l H f caps p G) ?_
 simp[int,<-zhq]
def qF(l:List Dec)(k:Nat):Option Int:=match l[k]? with
 |none=>none
 |some d=>if isId d.ref.rcd=true then (if isId d.ref.note=true then (if d.pick.length=0 then some 4 else if d.pick.length>4 then some 11
   else if (decide (0<k)&&match l[k-1]? with | some c=>!vz c d | none=>false)=true then some 10
   else if (l.take k).any (xr d)=true then some 8 else none) else some 2) else some 2
def k6(l:List Dec):Int:=((List.range l.length).findSome? (qF l)).getD 0
theorem Gu{l:List Dec}{k:Nat}{e:Int}(h:k<l.length)(G:∀ j,j<k->qF l j=none)(F:qF l k=some e):k6 l=e:=by
 unfold k6
 have:(List.range l.length).findSome? (qF l)=some e:=by
  rw[List.findSome?_eq_some_iff];refine⟨List.range k,k,(List.range' (k+1) (l.length-(k+1))),?_,F,λa E=>G a (List.mem_range.1 E)⟩
  obtain⟨m,K⟩:∃ m,l.length=k+(1+m):=⟨l.length-(k+1),by omega⟩
  have H:l.length-(k+1)=m:=by omega
  rw[H,K,List.range_eq_range',List.range_eq_range',<-List.range'_append,<-List.range'_append];simp
 rw[this];rfl
theorem HS{l:List Dec}(H:∀ j,j<l.length->qF l j=none):k6 l=0:=by
 unfold k6
 have:(List.range l.length).findSome? (qF l)=none:=by
  rw[List.findSome?_eq_none_iff];intro a G;exact H a (List.mem_range.1 G)
 rw[this];rfl
theorem HT{p:Nat->Prop}{k:Nat}(h:∀ j,j<k->p j)(H:p k):∀ j,j<k+1->p j:=by
 intro j hj
 rcases Nat.lt_or_ge j k with G | G
 .exact h j G
 .have:j=k:=by omega
  subst this;exact H
def JY(l:List Dec):Prop:=∀ d∈l,d.fit
theorem Jm(l:List Dec)(A:l.length<2^62)(B:JY l):zj Tryz.prog 63 [zB l] (int (k6 l)):=by
 refine zn mixed Tryz.func63 rfl c_63 ?_
 simp[Tryz.f63,zB]
 refine zr mixed (λk:Nat=>{n:=74,next:=0,slots:=[(0,.d (zB l)),(6,.d (zB l)),(7,.d (.int .i64 l.length)),(8,.d (.int .i64 k))],own:=[]})
  (λk=>k<=l.length/\∀ j,j<k->qF l j=none) (λk=>l.length-k) 0 (by simp) (by simp[zB]) ?_
 intro k ⟨C,I⟩
 by_cases E:k<l.length
 .have e1:l[k]?=some l[k]:=List.getElem?_eq_getElem E
  have L:=λe=>Gu (e:=e) E I
  simp only[qF,e1] at L;have X:l[k].fit:=B _ (List.getElem_mem E)
  have Z:∀ e∈l,e.row.length=4:=λe _=>rfl
  simp+decide[zB,Dec.row,int,E];refine zg (HN l[k].ref.rcd) ?_
  cases N:isId l[k].ref.rcd
  .simp+decide[L 2 (by simp[N])]
  simp+decide
  refine zg (HN l[k].ref.note) ?_
  cases P:isId l[k].ref.note
  .simp+decide[L 2 (by simp[N,P])]
  simp+decide[zl];by_cases S:l[k].pick=[]
  .simp+decide[S,L 4 (by simp[N,P,S])]
  simp+decide[S];by_cases W:l[k].pick.length>4
  .have O:(4:Int)<(l[k].pick.length:Int):=by omega
   have Q:¬(l[k].pick.length:Int)<=4:=by omega
   simp+decide[O,Q,L 11 (by simp[N,P,S,W])]
  have O:¬(4:Int)<(l[k].pick.length:Int):=by omega
  have Q:(l[k].pick.length:Int)<=4:=by omega
  simp+decide[O,Q];by_cases T:0<k
  .have hj:k-1<l.length:=by omega
   have e0:l[k-1]?=some l[k-1]:=List.getElem?_eq_getElem hj
   have Y:l[k-1].fit:=B _ (List.getElem_mem hj)
   have M:¬k=0:=by omega
   simp+decide[e0,I64,Dec.row,T,M];refine⟨by omega,by omega,scp (zfq l[k-1] l[k] Y X) ?_⟩
   cases h5:vz l[k-1] l[k]
   .simp+decide[int,L 10 (by simp[N,P,S,W,e0,h5,T])]
   simp+decide[int];have G:(decide (0<k)&&match l[k-1]? with | some c=>!vz c l[k] | none=>false)=false:=by simp[e0,h5]
   refine zr mixed (λm:Nat=>{n:=74,next:=1,slots:=[(0,.d (zB l)),(3,.d (.int .i64 k)),(4,.bp 0 0),(5,.d (.int .i64 m)),(6,.d (zB l)),(7,.d (.int .i64 l.length)),(8,.d (.int .i64 k))],own:=[(0,.box 139 [.d (int l[k].ref.rcd),.d (int l[k].ref.note),.d (.bool l[k].yes),.d (zl l[k].pick)])]})
    (λm=>m<=k/\∀ e∈l.take m,xr l[k] e=false) (λm=>k-m) 0 (by simp) (by simp[zB,int,zl]) ?_
   intro m ⟨hm,hq⟩;by_cases H:m<k
   .have F:m<l.length:=by omega
    have e2:l[m]?=some l[m]:=List.getElem?_eq_getElem F
    have K:xr l[k] l[m]=true->qF l k=some 8:=by
     intro h;have:(l.take k).any (xr l[k])=true:=List.any_eq_true.2 ⟨l[m],by rw[List.mem_take_iff_getElem];exact⟨m,by omega,rfl⟩,h⟩
     simp[qF,e1,N,P,S,W,G,this]
    have J:xr l[k] l[m]=false->∀ e∈l.take (m+1),xr l[k] e=false:=λh=>kq F hq h
    cases y1:l[k].yes
    .simp+decide[H,int,I64,zB,zl]
     exact⟨by omega,m+1,⟨H,J (by simp[xr,y1])⟩,by omega,by omega⟩
    .cases y2:l[m].yes
     .simp+decide[H,F,Dec.row,int,I64,zB,zl,y2]
      exact⟨by omega,m+1,⟨H,J (by simp[xr,y2])⟩,by omega,by omega⟩
     .simp+decide[H,F,Dec.row,int,I64,zB,zl,y2]
      refine⟨λg1 g2=>(Gu E I (K (by simp[xr,y1,y2,uY,g1,g2]))).symm,λg=>⟨by omega,m+1,⟨H,J ?_⟩,by omega,by omega⟩⟩
      simp[xr,y1,y2,uY];exact λe3 e4=>g e3.symm e4.symm
   .have:m=k:=by omega
    subst this;have V:(l.take m).any (xr l[m])=false:=by rw[List.any_eq_false];intro x hx;rw[hq x hx];simp
    simp+decide[int,I64,zB,zl];refine⟨by omega,m+1,⟨E,HT I ?_⟩,by omega,by omega⟩
    simp[qF,e1,N,P,S,W,G,V]
  .have M:k=0:=by omega
   simp+decide[M];have G:(decide (0<k)&&match l[k-1]? with | some c=>!vz c l[k] | none=>false)=false:=by simp[T]
   refine zr mixed (λm:Nat=>{n:=74,next:=1,slots:=[(0,.d (zB l)),(3,.d (.int .i64 k)),(4,.bp 0 0),(5,.d (.int .i64 m)),(6,.d (zB l)),(7,.d (.int .i64 l.length)),(8,.d (.int .i64 k))],own:=[(0,.box 139 [.d (int l[k].ref.rcd),.d (int l[k].ref.note),.d (.bool l[k].yes),.d (zl l[k].pick)])]})
    (λm=>m<=k/\∀ e∈l.take m,xr l[k] e=false) (λm=>k-m) 0 (by simp) (by simp[zB,int,zl,M]) ?_
   intro m ⟨hm,hq⟩;by_cases H:m<k
   .have F:m<l.length:=by omega
    have e2:l[m]?=some l[m]:=List.getElem?_eq_getElem F
    have K:xr l[k] l[m]=true->qF l k=some 8:=by
     intro h;have:(l.take k).any (xr l[k])=true:=List.any_eq_true.2 ⟨l[m],by rw[List.mem_take_iff_getElem];exact⟨m,by omega,rfl⟩,h⟩
     simp[qF,e1,N,P,S,W,G,this]
    have J:xr l[k] l[m]=false->∀ e∈l.take (m+1),xr l[k] e=false:=λh=>kq F hq h
    cases y1:l[k].yes
    .simp+decide[H,int,I64,zB,zl]
     exact⟨by omega,m+1,⟨H,J (by simp[xr,y1])⟩,by omega,by omega⟩
    .cases y2:l[m].yes
     .simp+decide[H,F,Dec.row,int,I64,zB,zl,y2]
      exact⟨by omega,m+1,⟨H,J (by simp[xr,y2])⟩,by omega,by omega⟩
     .simp+decide[H,F,Dec.row,int,I64,zB,zl,y2]
      refine⟨λg1 g2=>(Gu E I (K (by simp[xr,y1,y2,uY,g1,g2]))).symm,λg=>⟨by omega,m+1,⟨H,J ?_⟩,by omega,by omega⟩⟩
      simp[xr,y1,y2,uY];exact λe3 e4=>g e3.symm e4.symm
   .have:m=k:=by omega
    subst this;have V:(l.take m).any (xr l[m])=false:=by rw[List.any_eq_false];intro x hx;rw[hq x hx];simp
    simp+decide[int,I64,zB,zl];refine⟨by omega,m+1,⟨E,HT I ?_⟩,by omega,by omega⟩
    simp[qF,e1,N,P,S,W,G,V]
 .have:k=l.length:=by omega
  subst this;simp+decide[zB,int];rw[HS (by simpa using I)]
@[simp] theorem zj8(d:Dec):d.row.length=4:=rfl
def qh(l:List Dec)(r:Rf):List Prt×Bool:=match l.find? (λd=>decide (d.ref=r)&&d.yes) with
 |some d=>(d.pick,true)
 |none=>([],false)
theorem HU{α:Type}{p:α->Bool}{l:List α}{k:Nat}(h:k<l.length)(H:∀ e∈l.take k,p e=false)(G:p l[k]=true):l.find? p=some l[k]:=by
 rw[List.find?_eq_some_iff_getElem]
 refine⟨G,k,h,rfl,λj hj=>?_⟩
 have:=H l[j] (by rw[List.mem_take_iff_getElem];exact⟨j,by omega,rfl⟩)
 simpa using this
theorem HV{α:Type}{p:α->Bool}{l:List α}(H:∀ e∈l,p e=false):l.find? p=none:=by
 rw[List.find?_eq_none];intro e G;simpa using H e G
theorem zfs(l:List Dec)(r:Rf)(F:l.length<2^62):zj Tryz.prog 182 [zB l,uI r] (.tup [zM (qh l r).1,.bool (qh l r).2]):=by
 refine zn mixed Tryz.func182 rfl c_182 ?_
 simp[Tryz.f182,zB,uI,Rf.row,int,Value.oneCell']
 refine zr mixed (λk:Nat=>{n:=26,next:=2,slots:=[(3,.bp 0 0),(4,.bp 1 0),(8,.d (zB l)),(9,.d (.int .i64 l.length)),(10,.d (.int .i64 k))],own:=[(0,.box 78 [.d (int r.rcd),.d (int r.note)]),(1,.box 39 [.nils])]})
  (λk=>k<=l.length/\∀ e∈l.take k,(decide (e.ref=r)&&e.yes)=false) (λk=>l.length-k) 0 (by simp) (by simp[zB,int]) ?_
 intro k ⟨E,K⟩
 by_cases H:k<l.length
 .have e1:l[k]?=some l[k]:=List.getElem?_eq_getElem H
  have G:(decide (l[k].ref=r)&&l[k].yes)=false->∀ e∈l.take (k+1),(decide (e.ref=r)&&e.yes)=false:=λh=>kq H K h
  by_cases g:l[k].ref=r
  .have g':=uY.1 g
   cases y:l[k].yes
   .simp+decide[zB,Dec.row,int,H,I64,g'.1,g'.2,y]
    exact⟨by omega,k+1,⟨H,by simpa using G (by simp[y])⟩,by omega,by omega⟩
   .have J:=HU H K (by simp[g,y])
    simp+decide[zB,Dec.row,int,H,g'.1,g'.2,y,qh,J,zM]
  .have g':l[k].ref.rcd=r.rcd->¬l[k].ref.note=r.note:=λa b=>g (uY.2 ⟨a,b⟩)
   by_cases g1:l[k].ref.rcd=r.rcd
   .have g2:=g' g1
    simp+decide[zB,Dec.row,int,H,I64,g1,g2];exact⟨by omega,k+1,⟨H,by simpa using G (by simp[g])⟩,by omega,by omega⟩
   .simp+decide[zB,Dec.row,int,H,I64,g1]
    exact⟨by omega,k+1,⟨H,by simpa using G (by simp[g])⟩,by omega,by omega⟩
 .have:k=l.length:=by omega
  subst this;rw[List.take_length] at K;have J:=HV K;simp+decide[zB,int,qh,J,zM,zl]
theorem zbm(l:List Dec)(r:Rf)(F:l.length<2^62):zj Tryz.prog 33 [zB l,uI r] (.tup [zM (qh l r).1,.bool (qh l r).2]):=by
 refine zn mixed Tryz.func33 rfl c_33 ?_
 simp[Tryz.f33,zB,uI,Rf.row,int,Value.oneCell']
 refine zr mixed (λk:Nat=>{n:=33,next:=2,slots:=[(0,.d (zB l)),(3,.bp 0 0),(4,.bp 1 0),(7,.d (zB l)),(8,.d (.int .i64 l.length)),(9,.d (.int .i64 k))],own:=[(0,.box 78 [.d (int r.rcd),.d (int r.note)]),(1,.box 39 [.nils])]})
  (λk=>k<=l.length/\∀ e∈l.take k,(decide (e.ref=r)&&e.yes)=false) (λk=>l.length-k) 0 (by simp) (by simp[zB,int]) ?_
 intro k ⟨E,K⟩
 by_cases H:k<l.length
 .have e1:l[k]?=some l[k]:=List.getElem?_eq_getElem H
  have G:(decide (l[k].ref=r)&&l[k].yes)=false->∀ e∈l.take (k+1),(decide (e.ref=r)&&e.yes)=false:=λh=>kq H K h
  by_cases g:l[k].ref=r
  .have g':=uY.1 g
   cases y:l[k].yes
   .simp+decide[zB,Dec.row,int,H,I64,g'.1,g'.2,y]
    exact⟨by omega,k+1,⟨H,by simpa using G (by simp[y])⟩,by omega,by omega⟩
   .have J:=HU H K (by simp[g,y])
    simp+decide[zB,Dec.row,int,H,g'.1,g'.2,y,qh,J,zM]
  .have g':l[k].ref.rcd=r.rcd->¬l[k].ref.note=r.note:=λa b=>g (uY.2 ⟨a,b⟩)
   by_cases g1:l[k].ref.rcd=r.rcd
   .have g2:=g' g1
    simp+decide[zB,Dec.row,int,H,I64,g1,g2];exact⟨by omega,k+1,⟨H,by simpa using G (by simp[g])⟩,by omega,by omega⟩
   .simp+decide[zB,Dec.row,int,H,I64,g1]
    exact⟨by omega,k+1,⟨H,by simpa using G (by simp[g])⟩,by omega,by omega⟩
 .have:k=l.length:=by omega
  subst this;rw[List.take_length] at K;have J:=HV K;simp+decide[zB,int,qh,J,zM,zl]
theorem JZ{α:Type}{p:α->Bool}{l:List α}{k:Nat}(h:k<l.length):(l.take (k+1)).filter p=(l.take k).filter p++(if p l[k]=true then [l[k]] else []):=by
 rw[take_snoc h,List.filter_append]
 congr 1
 simp[List.filter_cons]
theorem zd6{α:Type}(p:α->Bool)(l:List α)(k:Nat):((l.take k).filter p).length<=l.length:=by
 have H:=List.length_filter_le p (l.take k)
 have G:=List.length_take_le k l
 simp only[List.length_take] at H
 omega
theorem za1{α:Type}{l:List α}{i:Nat}(v:α)(h:i<l.length):(l.set i v).take (i+1)=l.take i++[v]:=by
 have H:i<(l.set i v).length:=by simpa using h
 rw[take_snoc H,List.getElem_set_self]
 congr 1
 apply List.ext_getElem?
 intro j
 simp only[List.getElem?_take,List.getElem?_set]
 by_cases hj:j<i
 .rw[if_pos hj,if_pos hj,if_neg (by omega)]
 .rw[if_neg hj,if_neg hj]
theorem zcw{α:Type}{l:List α}{i j:Nat}(v:α)(h:i<j):(l.set i v).drop j=l.drop j:=by
 apply List.ext_getElem?
 intro k
 simp only[List.getElem?_drop,List.getElem?_set]
 rw[if_neg (by omega)]
theorem zd7{P:Program}(F:P.follows .mixedOrders=true){id:Nat}{ops:List Oper}{st:St}{Q:DE->St->Prop}(H:ops≠[])(K:yT ops=true)(E:vX ops (ops.length-1)=true)(L:(ops.getLast H).guard=none)
  (G:(st.own.map (·.1)).Nodup) (h:Yn P ops st.next (ops.getLast H) ops.dropLast st (Q .normal)):Triple P (.region id ops.toArray true) Q st:=by
 obtain⟨pre,o,rfl⟩:∃ pre o,ops=pre++[o]:=⟨ops.dropLast,ops.getLast H,(List.dropLast_concat_getLast H).symm⟩
 have J:(pre++[o]).getLast H=o:=by simp
 rw[J] at L h
 rw[List.dropLast_concat] at h
 refine Na F K ?_ L G h
 simpa using E
def HW(d x:Dec):Bool:=decide (cmpD x d=0) || xr d x
theorem zbn{a b c:Prt}(h:qw a b=true)(H:qw b c=true):qw a c=true:=by
 unfold qw at h H ⊢
 by_cases e1:a.entry=b.entry <;> by_cases e2:b.entry=c.entry <;> by_cases e3:a.alt=b.alt <;> by_cases e4:b.alt=c.alt <;>
  by_cases e5:a.entry=c.entry <;> by_cases e6:a.alt=c.alt <;> simp only[e1,e2,e3,e4,e5,e6,if_true,if_false,decide_eq_true_eq] at h H ⊢ <;> first | omega | (simp_all;omega) | simp_all
theorem zbo(a:Prt):qw a a=false:=by simp[qw]
theorem HY:∀ {a b c:List Prt},ya a b=true->ya b c=true->ya a c=true
 |_,[],_,h,_=>by simp[ya] at h
 |_,_::_,[],_,h=>by simp[ya] at h
 | [],_::_,_::_,_,_=>by simp[ya]
 |x::a,y::b,z::c,h,H=>by
  simp only[ya] at h H ⊢;by_cases e1:x=y
  .subst e1
   rw[if_pos rfl] at h;by_cases e2:x=z
   .subst e2
    rw[if_pos rfl] at H ⊢;exact HY h H
   .rw[if_neg e2] at H ⊢;exact H
  .rw[if_neg e1] at h
   by_cases e2:y=z
   .subst e2;rw[if_neg e1];exact h
   .rw[if_neg e2] at H
    have G:=zbn h H;have e3:¬x=z:=by intro e;subst e;rw[zbo] at G;cases G
    rw[if_neg e3];exact G
theorem zcx{a b c:Dec}(h:vz a b=true)(H:vz b c=true):vz a c=true:=by
 unfold vz at h H ⊢
 by_cases e1:a.ref.rcd=b.ref.rcd
 .by_cases e2:b.ref.rcd=c.ref.rcd
  .rw[if_pos e1] at h;rw[if_pos e2] at H;rw[if_pos (e1.trans e2)]
   by_cases e3:a.ref.note=b.ref.note
   .by_cases e4:b.ref.note=c.ref.note
    .rw[if_pos e3] at h;rw[if_pos e4] at H;rw[if_pos (e3.trans e4)]
     exact HY h H
    .rw[if_neg e4] at H;rw[if_neg (λe=>e4 (e3.symm.trans e))]
     simp only[decide_eq_true_eq] at H ⊢;omega
   .rw[if_neg e3] at h
    simp only[decide_eq_true_eq] at h;by_cases e4:b.ref.note=c.ref.note
    .rw[if_neg (λe=>e3 (e.trans e4.symm))];simp only[decide_eq_true_eq];omega
    .rw[if_neg e4] at H
     simp only[decide_eq_true_eq] at H;rw[if_neg (by omega)];simp only[decide_eq_true_eq];omega
  .rw[if_neg e2] at H;rw[if_neg (λe=>e2 (e1.symm.trans e))]
   simp only[decide_eq_true_eq] at H ⊢;omega
 .rw[if_neg e1] at h
  simp only[decide_eq_true_eq] at h;by_cases e2:b.ref.rcd=c.ref.rcd
  .rw[if_neg (λe=>e1 (e.trans e2.symm))];simp only[decide_eq_true_eq];omega
  .rw[if_neg e2] at H
   simp only[decide_eq_true_eq] at H;rw[if_neg (by omega)];simp only[decide_eq_true_eq];omega
theorem zbp(a:Dec):vz a a=false:=by simp[vz,Dv]
theorem zd8{l:List Dec}{k:Nat}{e:Int}(h:qF l k=some e):e≠0:=by
 unfold qF at h
 split at h
 .cases h
 .repeat' split at h
  all_goals first | (cases h;decide) | cases h
theorem HZ{l:List Dec}(h:k6 l=0):∀ k,k<l.length->qF l k=none:=by
 unfold k6 at h
 cases H:(List.range l.length).findSome? (qF l) with
 |none=>
  rw[List.findSome?_eq_none_iff] at H;intro k G;exact H k (List.mem_range.2 G)
 |some e=>
  rw[H] at h;obtain⟨k,_,G⟩:=List.exists_of_findSome?_eq_some H;exact absurd h (zd8 G)
structure AtOk(l:List Dec)(k:Nat)(h:k<l.length):Prop where
 rcd:isId l[k].ref.rcd=true
 note:isId l[k].ref.note=true
 ne:l[k].pick.length≠0
 le:l[k].pick.length<=4
 less:∀ j (hj:j+1=k),vz (l[j]'(by omega)) l[k]=true
 riv:(l.take k).any (xr l[k])=false
theorem Gv{l:List Dec}{k:Nat}(h:k<l.length):qF l k=none↔AtOk l k h:=by
 have e1:l[k]?=some l[k]:=List.getElem?_eq_getElem h
 constructor
 .intro hc
  unfold qF at hc;rw[e1] at hc;simp only at hc
  by_cases g1:isId l[k].ref.rcd=true
  .rw[if_pos g1] at hc
   by_cases g2:isId l[k].ref.note=true
   .rw[if_pos g2] at hc
    by_cases g3:l[k].pick.length=0
    .rw[if_pos g3] at hc;cases hc
    .rw[if_neg g3] at hc
     by_cases g4:l[k].pick.length>4
     .rw[if_pos g4] at hc;cases hc
     .rw[if_neg g4] at hc
      cases k with
      |zero=>exact⟨g1,g2,g3,by omega,λj hj=>by omega,by simp⟩
      |succ j=>
       have H:j<l.length:=by omega
       have e0:l[j]?=some l[j]:=List.getElem?_eq_getElem H
       simp only[Nat.add_sub_cancel,e0,Nat.zero_lt_succ,decide_true,Bool.true_and] at hc;by_cases g5:(!vz l[j] l[j+1])=true
       .rw[if_pos g5] at hc;cases hc
       .rw[if_neg g5] at hc
        by_cases g6:(l.take (j+1)).any (xr l[j+1])=true
        .rw[if_pos g6] at hc;cases hc
        .refine⟨g1,g2,g3,by omega,λj' hj=>?_,by simpa using g6⟩
         have:j'=j:=by omega
         subst this;simpa using g5
   .rw[if_neg g2] at hc;cases hc
  .rw[if_neg g1] at hc;cases hc
 .intro⟨F,E,K,J,L,M⟩
  have G:¬l[k].pick.length>4:=by omega
  cases k with
  |zero=>simp only[qF,e1,F,E,K,G,M,if_true,if_false];simp
  |succ j=>
   have H:j<l.length:=by omega
   have e0:l[j]?=some l[j]:=List.getElem?_eq_getElem H
   simp only[qF,e1,F,E,K,G,M,if_true,if_false,Nat.add_sub_cancel,e0,L j rfl];simp
def QZ(l:List Dec):Prop:=l.Pairwise (λa b=>vz a b=true)
theorem zft{l:List Dec}(h:∀ k (G:k+1<l.length),vz l[k] l[k+1]=true):QZ l:=by
 unfold QZ
 rw[List.pairwise_iff_getElem]
 intro i j hi hj H
 induction j with
 |zero=>omega
 |succ j ih=>
  by_cases e:i=j
  .subst e;exact h i hj
  .exact zcx (ih (by omega) (by omega)) (h j hj)
theorem za2{l:List Dec}(h:k6 l=0):QZ l:=zft λk H=>((Gv H).1 (HZ h (k+1) H)).less k rfl
def zk7(d:Dec)(l:List Dec):List Dec:=l.filter λx=>!HW d x&&vz x d
def zk8(d:Dec)(l:List Dec):List Dec:=l.filter λx=>!HW d x && !vz x d
def BY(l:List Dec)(d:Dec):List Dec:=if k6 [d]=0 then zk7 d l++d::zk8 d l else l
theorem zcy(x y:Dec):xr x y=xr y x:=by
 unfold xr
 have:decide (x.ref=y.ref)=decide (y.ref=x.ref):=by rw[Bool.eq_iff_iff];simp[eq_comm]
 rw[this];cases x.yes <;> cases y.yes <;> simp
structure GoodD(x:Dec):Prop where
 rcd:isId x.ref.rcd=true
 note:isId x.ref.note=true
 ne:x.pick.length≠0
 le:x.pick.length<=4
theorem zd9(l:List Dec):k6 l=0↔(∀ x∈l,GoodD x)/\QZ l/\∀ x∈l,∀ y∈l,x≠y->xr x y=false:=by
 constructor
 .intro h
  have at':=λk (E:k<l.length)=>(Gv E).1 (HZ h k E)
  refine⟨λx K=>?_,za2 h,λx K y J H=>?_⟩
  .obtain⟨k,E,rfl⟩:=List.mem_iff_getElem.1 K
   have:=at' k E
   exact⟨this.rcd,this.note,this.ne,this.le⟩
  .obtain⟨i,hi,rfl⟩:=List.mem_iff_getElem.1 K
   obtain⟨j,hj,rfl⟩:=List.mem_iff_getElem.1 J;have key:∀ i j (hi:i<l.length) (hj:j<l.length),i<j->xr l[j] l[i]=false:=by
    intro i j hi hj F;have:=(at' j hj).riv
    rw[List.any_eq_false] at this;have:=this l[i] (by rw[List.mem_take_iff_getElem];exact⟨i,by omega,rfl⟩)
    simpa using this
   rcases Nat.lt_trichotomy i j with L | L | L
   .rw[zcy];exact key i j hi hj L
   .subst L;exact absurd rfl H
   .exact key j i hj hi L
 .rintro⟨L,M,O⟩
  refine HS λk E=>(Gv E).2 ?_
  have Q:=L _ (List.getElem_mem E);unfold QZ at M;rw[List.pairwise_iff_getElem] at M;refine⟨Q.rcd,Q.note,Q.ne,Q.le,λj hj=>M j k (by omega) E (by omega),?_⟩
  rw[List.any_eq_false];intro y J;rw[List.mem_take_iff_getElem] at J;obtain⟨i,hi,rfl⟩:=J;have G:i<l.length:=by omega
  have H:l[k]≠l[i]:=by
   intro e;have:=M i k G E (by omega)
   rw[e,zbp] at this;cases this
  rw[O _ (List.getElem_mem E) _ (List.getElem_mem G) H];simp
def W0(r:Rf)(q:List Prt)(d:Dec):Bool:=decide (d.ref=r)&&(!d.yes&&decide (d.pick=q))
def W4(l:List Dec)(r:Rf)(q:List Prt):Bool:=l.any (W0 r q)
theorem zbq(d:Dec)(r:Rf)(q:List Prt)(H:q.length<2^62):zj Tryz.prog 220 [.agg d.row,.ptr [int r.rcd,int r.note],.ptr [zl q]] (.bool (W0 r q d)):=by
 refine zn mixed Tryz.func220 rfl c_220 ?_
 have G:=Ou d.pick q H
 unfold W0
 by_cases c1:d.ref.rcd=r.rcd
 .by_cases c2:d.ref.note=r.note
  .have c3:d.ref=r:=uY.2 ⟨c1,c2⟩
   cases F:d.yes
   .simp+decide[Tryz.f220,Dec.row,int,c1,c2,c3,F]
    refine zg G ?_
    simp+decide
   .simp+decide[Tryz.f220,Dec.row,int,c1,c2,c3,F]
  .have c3:¬d.ref=r:=λe=>c2 (by rw[e])
   simp+decide[Tryz.f220,Dec.row,int,c1,c2,c3]
 .have c3:¬d.ref=r:=λe=>c1 (by rw[e])
  simp+decide[Tryz.f220,Dec.row,int,c1,c3]
theorem zcz(l:List Dec)(H:l.length<2^62)(r:Rf)(q:List Prt)(G:q.length<2^62):zj Tryz.prog 218 [zM q,.ptr [zB l],.ptr [int r.rcd,int r.note]] (.bool (W4 l r q)):=by
 refine zn mixed Tryz.func218 rfl c_218 ?_
 have F:=zbl l H 220 [.ptr [int r.rcd,int r.note],.ptr [zl q]] (W0 r q) (λx _=>zbq x r q G)
 simp+decide[Tryz.f218,zM,int]
 refine zg F ?_
 simp+decide[W4]
theorem zfu(l:List (List Prt))(F:l.length<2^62)(f:Nat)(caps:List D)(p:List Prt->Bool)(E:∀ x∈l,zj Tryz.prog f (zM x::caps) (.bool (p x))):
  zj Tryz.prog 240 [xJ l,.fn f caps] (int (k5 p l)):=by
 refine zn mixed Tryz.func240 rfl c_240 ?_
 simp[Tryz.f240,xJ]
 refine zr mixed (λk:Nat=>{n:=19,next:=0,slots:=[(0,.d (xJ l)),(1,.d (.fn f caps)),(7,.d (.int .i64 l.length)),(8,.d (.int .i64 k))],own:=[]})
  (λk=>k<=l.length/\∀ e∈l.take k,p e=false) (λk=>l.length-k) 0 (by simp) (by simp[xJ]) ?_
 intro k ⟨K,J⟩
 by_cases H:k<l.length
 .have e1:l[k]?=some l[k]:=List.getElem?_eq_getElem H
  have G:=E l[k] (List.getElem_mem H);simp+decide[xJ,int,e1,H,I64];refine zF.pure (lent:=false) (by simp[jY,U1,zM]) G (by simp) ?_
  cases h:p l[k]
  .simp+decide[xJ,int,I64]
   refine⟨by omega,k+1,⟨H,λe L=>?_⟩,by omega,by omega⟩
   rw[take_snoc H] at L;rcases List.mem_append.1 L with M | M
   .exact J e M
   .rw[List.mem_singleton] at M;rw[M,h]
  .simp+decide[k5,HQ H J h]
 .have:k=l.length:=by omega
  subst this;rw[List.take_length] at J;simp+decide[xJ,int,k5,Gt J]
def rowA(q:List Prt):List D:=[zl q]
theorem zfv(l:List (List Prt))(H:l.length<2^40):uC Tryz.prog 217 [xJ l] 39 1 (l.map rowA):=by
 refine VB mixed Tryz.func217 rfl c_217 (by simp[rowA]) ?_
 simp[Tryz.f217,xJ,maxLen,rowA]
 omega
theorem zea(l:List (List Prt))(hl:l.length<2^62)(f:Nat)(p:List Prt->Bool)(L:List Dec)(r:Rf)(hf:∀ x∈l,zj Tryz.prog f [zM x,.ptr [zB L],.ptr [int r.rcd,int r.note]] (.bool (p x))):
  zJ Tryz.prog 216 [.ar 0,.fn f [.bp 1 0,.bp 2 0]] [(0,.arr 39 1 (l.map rowA)),(1,.box 64 [.d (zB L)]),(2,.box 78 [.d (int r.rcd),.d (int r.note)])] 3
   (.d (.sl ((l.filter λq=>!p q).map rowA))) 3 [(1,.box 64 [.d (zB L)]),(2,.box 78 [.d (int r.rcd),.d (int r.note)])] []:=by
 refine zab mixed Tryz.func216 rfl c_216 [0] (by simp) ?_
 simp[Tryz.f216]
 refine zg (zfu l hl f [.ptr [zB L],.ptr [int r.rcd,int r.note]] p hf) ?_
 cases hi:l.findIdx? p with
 |none=>
  rw[List.findIdx?_eq_none_iff] at hi;have Z:(l.filter λd=>!p d)=l:=by rw[List.filter_eq_self];intro a ha;rw[hi a ha];rfl
  have E:k5 p l = -1:=by simp[k5,Gt hi]
  simp+decide[E,int,Z];done
 |some k=>
  have E:k5 p l=k:=by simp[k5,hi]
  rw[List.findIdx?_eq_some_iff_getElem] at hi;obtain⟨hk,A,Q⟩:=hi;have B:¬(k:Int) = -1:=by omega
  simp+decide[E,int,B,I64];refine⟨by omega,?_⟩
  have C:(l.take (k+1)).filter (λd=>!p d)=l.take k:=by
   rw[JZ hk,List.filter_eq_self.2]
   .simp[A]
   .intro a ha
    rw[List.mem_take_iff_getElem] at ha;obtain⟨j,hj,rfl⟩:=ha;have:=Q j (by omega)
    simpa using this
  refine zr mixed (λx:Nat×Nat×List (List Prt)=>{n:=42,next:=3,base:=3,slots:=[(0,.ar 0),(1,.fn f [.bp 1 0,.bp 2 0]),(5,.d (.int .i64 x.2.1)),(6,.d (.int .i64 x.1))],own:=[(0,.arr 39 1 (x.2.2.map rowA)),(1,.box 64 [.d (zB L)]),(2,.box 78 [.d (int r.rcd),.d (int r.note)])]})
   (λx=>x.2.2.length=l.length/\x.2.1<x.1/\x.1<=l.length/\x.2.2.take x.2.1=(l.take x.1).filter (λd=>!p d)/\x.2.2.drop x.1=l.drop x.1) (λx=>l.length-x.1) (k+1,k,l) (by simp[C];omega) (by simp[int]) ?_
  rintro⟨j,i,cur⟩ ⟨T,I,N,H,hdrop⟩
  simp only at T I N H hdrop
  by_cases K:j<l.length
  .have V:j<cur.length:=by omega
   have J:cur[j]=l[j]:=by
    have h1:cur.drop j=cur[j]::cur.drop (j+1):=List.drop_eq_getElem_cons V
    have h2:l.drop j=l[j]::l.drop (j+1):=List.drop_eq_getElem_cons K
    rw[h1,h2] at hdrop;exact(List.cons.inj hdrop).1
   have G:cur.drop (j+1)=l.drop (j+1):=by
    have:=congrArg (List.drop 1) hdrop
    rw[List.drop_drop,List.drop_drop] at this;exact this
   have e1:cur[j]?=some cur[j]:=List.getElem?_eq_getElem V
   have F:(j:Int)<cur.length:=by omega
   have P:zj Tryz.prog f [zM cur[j],.ptr [zB L],.ptr [int r.rcd,int r.note]] (.bool (p l[j])):=by rw[J];exact hf l[j] (List.getElem_mem K)
   simp+decide[F,V,e1,rowA,int,I64];refine zg P ?_
   cases hp:p l[j]
   .have X:i<cur.length:=by omega
    have e2:cur[i]?=some cur[i]:=List.getElem?_eq_getElem X
    simp+decide[X,e2,rowA,int,I64];refine⟨by omega,by omega,j+1,i+1,cur.set i cur[j],⟨by simpa using T,by omega,K,?_,?_⟩,by omega,⟨by omega,by omega⟩,by simp[List.map_set,rowA,int]⟩
    .rw[za1 _ X,JZ K,H,J];simp[hp]
    .rw[zcw _ (by omega)];exact G
   .simp+decide[int,I64]
    refine⟨by omega,j+1,i,cur,⟨T,by omega,K,?_,G⟩,by omega,⟨by omega,by omega⟩,rfl⟩
    rw[JZ K,H];simp[hp]
  .have hj:j=l.length:=by omega
   subst hj;have F:¬(l.length:Int)<cur.length:=by omega
   have S:¬(i:Int)=(cur.length:Int):=by omega
   have M:(cur.map rowA).take i=(l.filter λd=>!p d).map rowA:=by
    rw[<-List.map_take,H,List.take_length]
   have Y:((l.filter λd=>!p d).map rowA).length=i:=by rw[<-M];simp;omega
   by_cases W:i=0
   .subst W
    have H0:¬(0:Int)=(cur.length:Int):=by omega
    simp+decide[F,int,I64,H0];have O:l.filter (λd=>!p d)=[]:=List.eq_nil_of_length_eq_zero (by simpa using Y)
    rw[List.filter_eq_nil_iff] at O;intro a ha;simpa using O a ha
   .have H1:¬(0:Int)=(i:Int):=by omega
    simp+decide[F,int,I64,S,H1];refine⟨by omega,by omega,by omega,?_⟩
    rw[M];rw[if_pos]
    .congr 2
     rw[List.take_append_of_le_length (by omega),List.take_of_length_le (by omega)]
    .refine⟨by omega,?_⟩
     cases hF:(l.filter λd=>!p d) with
     |nil=>rw[hF] at Y;simp at Y;omega
     |cons c0 cs=>rfl
def kQ(g:Lang)(r:Rf)(s:ByteArray)(l:List Dec):List (List Prt)×Int:=if (um g s).2≠0 then ([],(um g s).2) else ((um g s).1.filter λq=>!W4 l r q,0)
theorem zhr{g:Lang}(H:LightF g)(r:Rf)(s:ByteArray)(l:List Dec):(kQ g r s l).1.length<=200/\∀ q∈(kQ g r s l).1,q.length<=4:=by
 have h:=Hv H s
 unfold kQ
 split
 .exact⟨Nat.zero_le _,λq G=>by cases G⟩
 .exact⟨Nat.le_trans (List.length_filter_le ..) h.1,λq G=>h.2 q (List.mem_filter.1 G).1⟩
theorem zeb(g:Lang)(G:LightF g)(F:LangC g)(r:Rf)(s:ByteArray)(hs:s.size<=1024)(l:List Dec)(E:l.length<2^40):
  zj Tryz.prog 183 [g.d,uI r,.str s,zB l] (.tup [xJ (kQ g r s l).1,int (kQ g r s l).2]):=by
 have K:=zi5 g G F s hs
 have H:=Hv G s
 unfold kQ
 generalize um g s=z at *
 obtain⟨O,e⟩:=z
 simp only at K H ⊢
 refine zn mixed Tryz.func183 rfl c_183 ?_
 simp+decide[Tryz.f183,Lang.d,zq,int,uI,Rf.row]
 refine zg K ?_
 by_cases J:e=0
 case neg=>simp+decide[int,xJ,J]
 subst J
 simp+decide[int]
 refine zF.fresh (by rfl) (zfv O (by omega)) (by simp) ?_
 simp+decide[int]
 refine zF.mut [4,2,1] [.ar 0,.fn 218 [.bp 1 0,.bp 2 0]] [(0,.arr 39 1 (O.map rowA)),(1,.box 64 [.d (zB l)]),(2,.box 78 [.d (int r.rcd),.d (int r.note)])] (by rfl) (by simp) (by simp) (by simp[int];rfl)
  (zea O (by omega) _ (W4 l r) l r (λx L=>zcz l (by omega) r x (by have:=H.2 x L;omega))) ?_
 simp+decide[int,xJ,rowA]
structure Stt where
 ref:Rf
 kind:Int
 pick:List Prt
 deriving DecidableEq
def Stt.d(x:Stt):D:=.agg [int x.ref.rcd,int x.ref.note,int x.kind,zl x.pick]
def ut(g:Lang)(r:Rf)(s:ByteArray)(l:List Dec):Stt:=
 if (qh l r).2=true then
  (if (yY g.orth.units s).2.2=0/\jq g (yY g.orth.units s).1 (qh l r).1=true then ⟨r,4,(qh l r).1⟩ else ⟨r,5,(qh l r).1⟩)
 else if (kQ g r s l).2=11\/1<(kQ g r s l).1.length then ⟨r,3,[]⟩
 else if (kQ g r s l).2≠0 then ⟨r,0,[]⟩
 else match (kQ g r s l).1 with
  | []=>⟨r,1,[]⟩
  |q::_=>⟨r,2,q⟩
theorem zfw(g:Lang)(K:LightF g)(J:LangC g)(r:Rf)(s:ByteArray)(hs:s.size<=1024)(l:List Dec)(L:l.length<2^40)(M:(qh l r).1.length<2^20):
  zj Tryz.prog 124 [g.d,uI r,.str s,zB l] (ut g r s l).d:=by
 have Q:=zeb g K J r s hs l L
 have T:=zfs l r (by omega)
 have V:=Gj g.orth J.orth K.graphs s hs
 have X:=JU g.orth.units s
 have F:=DN g (K.Z9 J).toLangOk (yY g.orth.units s).1 (by omega) (qh l r).1 M
 unfold ut
 have E:decide ((xN g (qh l r).1).2=0/\(xN g (qh l r).1).1=(yY g.orth.units s).1)=jq g (yY g.orth.units s).1 (qh l r).1:=rfl
 rw[E] at F
 generalize jq g (yY g.orth.units s).1 (qh l r).1=lic at *
 generalize qh l r=pk at *
 obtain⟨P,ok⟩:=pk
 generalize yY g.orth.units s=z at *
 obtain⟨W,ap,e⟩:=z
 generalize kQ g r s l=c at *
 obtain⟨O,f⟩:=c
 simp only at *
 refine zn mixed Tryz.func124 rfl c_124 ?_
 simp+decide[Tryz.f124,Lang.d,zq,int,uI,Rf.row]
 refine zg T ?_
 cases ok with
 |true=>
  simp+decide[int,zM];refine zg V ?_
  by_cases Y:e=0
  case neg=>simp+decide[int,ints,zM,Y,Stt.d]
  subst Y;simp+decide[int,ints,zM];refine zg F ?_
  cases lic <;> simp+decide[int,ints,zM,Stt.d]
 |false=>
  simp+decide[int,zM];refine zg Q ?_
  by_cases G:f=11
  .simp+decide[int,xJ,zl,G,Stt.d]
  by_cases Z:1<O.length
  .have H:(1:Int)<O.length:=by omega
   simp+decide[int,xJ,zl,G,Z,H,Stt.d]
  have H:¬(1:Int)<O.length:=by omega
  by_cases A:f=0
  case neg=>simp+decide[int,xJ,zl,G,Z,H,A,Stt.d]
  subst A;match O,Z,H with
  | [],_,_=>simp+decide[int,xJ,zl,Stt.d]
  | [q],_,_=>
   simp+decide[int,xJ,zl,Stt.d];refine zd7 mixed (by simp) (by rfl) (by rfl) (by rfl) (by simp) ?_
   simp+decide[int,xJ,zl,Stt.d]
  |_::_::_,h,_=>simp at h
structure Wrd where
 g:Lang
 ref:Rf
 s:ByteArray
 l:List Dec
def Wrd.cells(x:Wrd):List D:=(match x.g.d with | .agg cs=>cs | _=>[])++[int x.ref.rcd,int x.ref.note,.str x.s,zB x.l]
def Wrd.d(x:Wrd):D:=.agg x.cells
theorem I0{l:List Dec}{r:Rf}{n:Nat}(h:∀ d∈l,d.pick.length<=n):(qh l r).1.length<=n:=by
 unfold qh
 split
 .rename_i d H;exact h d (List.mem_of_find?_eq_some H)
 .exact Nat.zero_le _
theorem zec{g:Lang}(H:LightF g){r:Rf}{s:ByteArray}{l:List Dec}{n:Nat}(G:4<=n)(h:∀ d∈l,d.pick.length<=n):(ut g r s l).pick.length<=n:=by
 have F:=I0 (r:=r) h
 have E:=(zhr H r s l).2
 unfold ut
 split
 .split <;> exact F
 .split
  .exact Nat.zero_le _
  .split
   .exact Nat.zero_le _
   .split
    .exact Nat.zero_le _
    .rename_i q t K
     have:=E q (by rw[K];exact List.mem_cons_self ..)
     exact Nat.le_trans this G
end Go.V
namespace Go.V.Doc
open Go Go.Proofs
def xb(d:Dc)(w:Int):List ByteArray×List ByteArray:=if YI d w=true then ((zR d w 3).map (xR d),(zR d w 3).map λm=>kF d (zR d m 4)) else ([],[])
theorem Gw(d:Dc)(w:Int)(H:Fw d)(G:d.tiers.length<2^62):
  zj Tryz.prog 18 [zw d,int w] (.tup [xa (xb d w).1,xa (xb d w).2]):=by
 have h:=Sq d w H G
 unfold xb
 split at h <;> rename_i c
 .rw[if_pos c];exact h
 .rw[if_neg c];exact h
theorem I1(d:Dc)(w:Int)(G:Fw d):(xb d w).1.length<20/\(xb d w).2.length<20:=by
 have H:=Qw d w 3 G
 unfold xb
 split
 .simp only[List.length_map];omega
 .simp
theorem I2(a b:List ByteArray)(E:b.length<2^62):zj Tryz.prog 125 [xa a,xa b] (.bool (decide (a=b))):=by
 refine zn mixed Tryz.func125 rfl c_125 ?_
 simp[Tryz.f125,xa]
 refine⟨λh e=>h (by rw[e]),λh=>?_⟩
 refine zr mixed (λk:Nat=>{n:=26,next:=0,slots:=[(0,.d (xa a)),(1,.d (xa b)),(12,.d (.int .i64 a.length)),(13,.d (.int .i64 k))],own:=[]})
  (λk=>k<=a.length/\a.take k=b.take k) (λk=>a.length-k) 0 (by simp) (by simp[xa]) ?_
 intro k ⟨K,J⟩
 have h:a.length=b.length:=by omega
 by_cases G:k<a.length
 .have e1:a[k]?=some a[k]:=List.getElem?_eq_getElem G
  have e2:b[k]?=some (b[k]'(by omega)):=List.getElem?_eq_getElem (by omega)
  have H:k<b.length:=by omega
  simp+decide[xa,int,e1,e2,G,H,I64];refine⟨λF e=>by subst e;simp at F,λh1=>⟨by omega,k+1,⟨G,?_⟩,by omega,by omega⟩⟩
  rw[take_snoc G,take_snoc H,J,h1]
 .have:k=a.length:=by omega
  subst this;simp+decide[xa];rw[List.take_length,h,List.take_length] at J;exact J
theorem W5(a b:List ByteArray)(E:a.length<2^62)(K:b.length<2^62):zj Tryz.prog 16 [xa a,xa b] (.bool (decide (a=b))):=by
 refine zn mixed Tryz.func16 rfl c_16 ?_
 by_cases h:a.length=b.length
 case neg=>
  have F:a≠b:=λe=>h (by rw[e])
  have J:¬(a.length:Int)=b.length:=by omega
  simp+decide[Tryz.f16,xa,int,h,J,F]
 simp+decide[Tryz.f16,xa,int,h]
 refine zr mixed (λk:Nat=>{n:=26,next:=0,slots:=[(0,.d (xa a)),(1,.d (xa b)),(5,.d (int k))],own:=[]})
  (λk=>k<=a.length/\a.take k=b.take k) (λk=>a.length-k) 0 (by simp) (by simp[xa,int]) ?_
 intro k ⟨L,M⟩
 by_cases G:k<a.length
 .have e1:a[k]?=some a[k]:=List.getElem?_eq_getElem G
  have e2:b[k]?=some (b[k]'(by omega)):=List.getElem?_eq_getElem (by omega)
  have H:k<b.length:=by omega
  simp+decide[xa,int,e1,e2,G,H,I64];refine⟨λF e=>by subst e;simp at F,λh1=>⟨by omega,k+1,⟨G,?_⟩,by omega,by omega⟩⟩
  rw[take_snoc G,take_snoc H,M,h1]
 .have:k=a.length:=by omega
  subst this;have H:¬a.length<b.length:=by omega
  simp+decide[xa,int,H];rw[List.take_length,h,List.take_length] at M;exact M
def wG(d:Dc)(g:Lang)(w:Int)(q:List Prt):Bool:=decide ((yz g q).2.2=0/\(yz g q).1=(xb d w).1/\(yz g q).2.1=(xb d w).2)
theorem I3(d:Dc)(w:Int)(F:Fw d)(E:d.tiers.length<2^62)(g:Lang)(K:LightF g)(J:LangC g)(q:List Prt)(L:q.length<2^20):
  zj Tryz.prog 74 [zw d,g.d,int w,zM q] (.bool (wG d g w q)):=by
 refine zn mixed Tryz.func74 rfl c_74 ?_
 have M:=Gk g K J q L
 have O:=Gw d w F E
 obtain⟨H,G⟩:=I1 d w F
 unfold wG
 generalize yz g q=z at *
 obtain⟨x,y,e⟩:=z
 generalize xb d w=s at *
 obtain⟨u,v⟩:=s
 simp only at *
 have Q:=I2 x u (by omega)
 have T:=I2 y v (by omega)
 simp+decide[Tryz.f74,zw,Dc.row,int,Lang.d,zq,zM]
 refine zg M ?_
 simp+decide[int,xY,zw,Dc.row]
 refine zg O ?_
 by_cases V:e=0
 case neg=>simp+decide[int,xa,V]
 subst V
 simp+decide[int,xa]
 refine zg Q ?_
 by_cases X:x=u
 case neg=>simp+decide[int,X]
 simp+decide[int,X]
 refine zg T ?_
 simp+decide[int]
def y9(d:Dc)(g:Lang)(l:List Dec)(w:Int):Stt:=ut g ⟨d.id,w⟩ (xR d w) l
theorem I4{d:Dc}(h:Rgt d)(g:Lang)(G:LightF g)(F:LangC g)(l:List Dec)(E:l.length<2^40)(K:∀ x∈l,x.pick.length<=4)(w:Int):
  zj Tryz.prog 73 [zw d,g.d,zB l,int w] (y9 d g l w).d:=by
 have H:=h.few
 refine zn mixed Tryz.func73 rfl c_73 ?_
 have J:=ZG d w (by omega)
 have L:=zfw g G F ⟨d.id,w⟩ (xR d w) (note_text h w) l E (Nat.lt_of_le_of_lt (I0 K) (by omega))
 simp+decide[Tryz.f73,zw,Dc.row,int,Lang.d,zq,zB]
 refine zg J ?_
 simp+decide[int,getD',Nt.row,Lang.d,zq]
 refine zg L ?_
 simp+decide[int,Stt.d,y9]
def I5(d:Dc)(g:Lang)(l:List Dec)(w:Int):Bool:=decide ((y9 d g l w).kind=4)&&wG d g w (y9 d g l w).pick
def qD(d:Dc)(g:Lang)(l:List Dec)(w:Int):Bool:=decide (0<(zR d w 3).length) && !I5 d g l w
def qi(d:Dc):List Int:=y6 (qZ d (zv d.tiers 2).toNat)
def X6(d:Dc)(g:Lang)(l:List Dec):List Int:=if yw d=true then qp ((qi d).filter (qD d g l)) else []
theorem X7{d:Dc}(h:yw d=true):∃ t:Nat,zv d.tiers 2=t/\t<d.tiers.length:=by
 unfold yw at h
 simp only[Bool.and_eq_true,decide_eq_true_eq] at h
 have H:=h.1
 unfold zv at H ⊢
 rw[if_neg (by decide)] at H ⊢
 obtain⟨t,et,G,_⟩:=Bo H
 exact⟨t,et,G⟩
theorem W6{d:Dc}(h:Wgt d)(H:yw d=true):(qi d).Nodup/\(qi d).length<=d.notes.length:=by
 obtain⟨t,et,G⟩:=X7 H
 unfold qi y6
 rw[et,List.length_map]
 refine⟨?_,Uy h G⟩
 have F:=(Bj h G).map (·.id)
 refine F.nodup_iff.2 ?_
 unfold y7
 have:=(h.inc.sublist (List.filter_sublist (l:=d.notes) (p:=λn=>decide (n.tier=((t:Int).toNat:Int)))))
 rw[List.nodup_iff_pairwise_ne,List.pairwise_map]
 exact this.imp λhab e=>by omega
def vA(g:Lang):List Sym:=[.d (zI g.inv),.d (.str g.orth.name),.d (zN g.orth.units),.d (wh g.orth.letters),.d (yO g.rules),.d (int g.net.states),.d (stepsD g.net.steps),.d (ints g.net.final),.d (zm g.lex)]
def jV(d:Dc):List Sym:=[.d (int (zv d.tiers 2)),.d (int (zv d.tiers 3)),.d (int (zv d.tiers 4))]
theorem Gx{g:Lang}(H:LightF g)(d:Dc){l:List Dec}(G:∀ x∈l,x.pick.length<=4)(w:Int):(y9 d g l w).pick.length<2^20:=
 Nat.lt_of_le_of_lt (zec H (Nat.le_refl 4) G) (by omega)
theorem Gy{d:Dc}(h:Rgt d)(C:Fw d)(I:d.tiers.length<2^62)(g:Lang)(N:LightF g)(P:LangC g)(l:List Dec)(V:l.length<2^40)(S:∀ x∈l,x.pick.length<=4):
  zj Tryz.prog 30 [zw d,g.d,zB l] (ints (X6 d g l)):=by
 have X:=h.few
 have Y:=ZR d I
 have Z:=ZQ d I
 refine zn mixed Tryz.func30 rfl c_30 ?_
 unfold X6
 simp+decide[Tryz.f30,zw,Dc.row,int,Lang.d,zq,zB]
 refine zg Y ?_
 cases W:yw d with
 |false=>simp+decide[ints]
 |true=>
  obtain⟨t,et,A⟩:=X7 W;have hO:=Bm h.w C t A;rw[show y6 (qZ d t)=qi d by unfold qi;rw[et];rfl,<-et] at hO
  obtain⟨Q,B⟩:=W6 h.w W;simp+decide[int];refine zg Z ?_
  simp+decide[wV,int];refine zg hO ?_
  generalize qi d=ws at Q B ⊢;simp+decide[int,ints];refine yU mixed (λk:Nat=>{n:=59,next:=5,slots:=[(2,.d (zB l)),(3,.bp 0 0),(4,.bp 1 0),(7,.bp 3 0),(8,.ar 4),(20,.d (ints ws)),(21,.d (int ws.length)),(22,.d (int k))],own:=[(0,.box 53 (yh d)),(1,.box 36 (vA g)),(3,.box 112 (jV d)),(4,.arr 3 1 (YO ((ws.take k).filter (qD d g l))))],moved:=[4]})
   (λk=>k<=ws.length) (λk=>ws.length-k) 0 (Nat.zero_le _) ?_ ?_
  .simp+decide[int,ints,yh,vA,jV,zB]
  intro k hk;refine zL mixed ?_
  by_cases E:k<ws.length
  case neg=>
   have:k=ws.length:=by omega
   subst this;rw[List.take_length];have T:=List.length_filter_le (qD d g l) ws;have hN:=BE (ws.filter (qD d g l)) (by omega) (Q.sublist List.filter_sublist)
   generalize ws.filter (qD d g l)=F at hN ⊢;simp+decide[int,ints];refine zF.XV (by rfl) hN ?_
   simp+decide[int,ints]
  have M:(k:Int)<ws.length:=by omega
  obtain⟨w,ew⟩:∃ w,ws[k]=w:=⟨_,rfl⟩;have e1:ws[k]?=some w:=by rw[List.getElem?_eq_getElem E,ew]
  have hS:=I4 h g N P l V S w;have hK:=ZN d w (zv d.tiers 3) C;have L:=I3 d w C I g N P (y9 d g l w).pick (Gx N d S w);rw[show y6 (yf d w (zv d.tiers 3))=zR d w 3 from rfl] at hK
  have H:=JZ (p:=qD d g l) E;rw[ew] at H;have T:=zd6 (qD d g l) ws k;have hb:qD d g l w=(decide (0<(zR d w 3).length) && !(decide ((y9 d g l w).kind=4)&&wG d g w (y9 d g l w).pick)):=rfl
  rw[hb] at H;clear hb;generalize (ws.take k).filter (qD d g l)=F at H T;generalize hF:(ws.take (k+1)).filter (qD d g l)=F' at H;generalize wG d g w (y9 d g l w).pick=sb at L H;generalize y9 d g l w=st at hS L H;obtain⟨r,kd,q⟩:=st;generalize zR d w 3=K at hK H;simp only at L H
  simp+decide[int,ints,yh,vA,jV,zB,E,M,ew,e1,I64];refine zg hS ?_
  simp+decide[int,ints,Stt.d];refine zF.XV (by rfl) hK ?_
  by_cases J:0<K.length
  case neg=>
   have G:K.length=0:=by omega
   simp[J] at H;subst H;simp+decide[int,ints,J,G,I64];exact⟨by omega,k+1,E,by omega,by omega,by rw[hF]⟩
  have G:¬K.length=0:=by omega
  by_cases O:kd=4
  case neg=>
   simp[J,O] at H;subst H;simp+decide[int,ints,J,G,O,I64];exact⟨by omega,by unfold maxLen;omega,by omega,k+1,E,by omega,by omega,by rw[hF];simp[int]⟩
  subst O;simp+decide[int,ints,J,G,I64];refine zg L ?_
  cases sb with
  |true=>
   simp[J] at H;subst H;simp+decide[int,ints,I64];exact⟨by omega,k+1,E,by omega,by omega,by rw[hF]⟩
  |false=>
   simp[J] at H;subst H;simp+decide[int,ints,I64];exact⟨by omega,by unfold maxLen;omega,by omega,k+1,E,by omega,by omega,by rw[hF];simp[int]⟩
def Gz(d:Dc)(g:Lang)(l:List Dec)(n:Nt):Bool:=yo d n.id&&qD d g l n.id
def W7(d:Dc)(g:Lang)(l:List Dec):List Int:=if yw d=true then (d.notes.filter (Gz d g l)).map (·.id) else []
theorem I6:∀ {a b:List Int},a.Pairwise (· < ·)->b.Pairwise (· < ·)->(∀ x,x∈a↔x∈b)->a=b
 | [],[],_,_,_=>rfl
 | [],y::b,_,_,h=>by have:=(h y).2 List.mem_cons_self;cases this
 |x::a,[],_,_,h=>by have:=(h x).1 List.mem_cons_self;cases this
 |x::a,y::b,E,K,h=>by
  have H:=List.pairwise_cons.1 E;have G:=List.pairwise_cons.1 K;have F:x=y:=by
   rcases List.mem_cons.1 ((h x).1 List.mem_cons_self) with e | e
   .exact e
   .rcases List.mem_cons.1 ((h y).2 List.mem_cons_self) with e2 | e2
    .exact e2.symm
    .have:=G.1 x e;have:=H.1 y e2;omega
  subst F;rw[I6 H.2 G.2 λz=>?_]
  constructor
  .intro J
   rcases List.mem_cons.1 ((h z).1 (List.mem_cons_of_mem _ J)) with e | e
   .have:=H.1 z J;omega
   .exact e
  .intro J
   rcases List.mem_cons.1 ((h z).2 (List.mem_cons_of_mem _ J)) with e | e
   .have:=G.1 z J;omega
   .exact e
theorem zfx{l:List Int}(H:l.Nodup):(qp l).Pairwise (· < ·):=by
 have hs:(qp l).Pairwise λa b=>decide (a<=b)=true:=List.pairwise_mergeSort (λa b c G F=>by simp only[decide_eq_true_eq] at *;omega) (λa b=>by simp only[Bool.or_eq_true,decide_eq_true_eq];omega) l
 have E:(qp l).Nodup:=(YM l).nodup_iff.2 H
 rw[List.nodup_iff_pairwise_ne] at E
 exact(hs.and E).imp λh=>by have:=of_decide_eq_true h.1;have:=h.2;omega
theorem I7{d:Dc}(h:Rgt d)(g:Lang)(l:List Dec):X6 d g l=W7 d g l:=by
 unfold X6 W7
 cases G:yw d with
 |false=>rfl
 |true=>
  rw[if_pos rfl,if_pos rfl];obtain⟨t,et,F⟩:=X7 G;obtain⟨H,_⟩:=W6 h.w G;refine I6 (zfx (H.sublist List.filter_sublist)) ?_ λx=>?_
  .rw[List.pairwise_map]
   exact h.w.inc.sublist List.filter_sublist
  .rw[(YM _).mem_iff,List.mem_filter,List.mem_map]
   unfold qi y6;rw[et,List.mem_map];constructor
   .rintro⟨⟨n,E,rfl⟩,K⟩
    have J:=(Z4 h.w t F n).1 E;refine⟨n,List.mem_filter.2 ⟨J.1,?_⟩,rfl⟩
    unfold Gz;rw[K,Bool.and_true];unfold yo;rw[ju h J.1];simp[et,J.2]
   .rintro⟨n,E,rfl⟩
    obtain⟨E,K⟩:=List.mem_filter.1 E;unfold Gz at K;rw[Bool.and_eq_true] at K;refine⟨⟨n,(Z4 h.w t F n).2 ⟨E,?_⟩,rfl⟩,K.2⟩
    have:=K.1
    unfold yo at this;rw[ju h E] at this;simpa[et] using this
theorem zkc(d:Dc)(hs:∀ t∈d.tiers,t.name.size<=9223372036854775807)(F:∀ n∈d.notes,n.text.size<=9223372036854775807)(g:Lang)(E:LangC g)(l:List Dec)(K:l.length<2^40)(J:JY l):
  xU Tryz.prog 25 [zw d,g.d,zB l] (λv=>∃ b,v = .bool b/\(b=true->wU d=true/\LightF g/\l.length<=8/\k6 l=0)):=by
 have L:=RY d hs F
 have M:=Ad g E
 have O:=Go.V.Jm l (by omega) J
 refine qV mixed Tryz.func25 rfl c_25 ?_
 by_cases Q:l.length<=8
 case neg=>
  have H:¬(l.length:Int)<=8:=by omega
  simp+decide[Tryz.f25,int,zw,Dc.row,Lang.d,zB,Q,H]
 have H:(l.length:Int)<=8:=by omega
 simp+decide[Tryz.f25,int,zw,Dc.row,Lang.d,zB,Q,H]
 refine zg L ?_
 cases G:wU d with
 |false=>simp+decide
 |true=>
  simp+decide
  refine zF.some (by rfl) M ?_
  rintro r ⟨b,rfl,T⟩
  cases b with
  |false=>simp+decide
  |true=>
   have T:=T rfl;simp+decide
   refine zg O ?_
   by_cases X:k6 l=0
   .simp+decide[int,X]
    exact T
   .simp+decide[int,X]
end Go.V.Doc

/- Contracts and plain laws of this seat: part MD. It needs no conditions. -/
import Derived.Test.YtknekjalbninmaaGreatMC
import Derived.Test.YtknekjalbninmaaGreatMB
import Derived.Test.YtknekjalbninmaaGreatSw
import Derived.WalkKit
import Derived.BigCall
import Derived.KernelRfl
import Derived.Shelf.Strings.Builder1
import Derived.Test.YtknekjalbninmaaGreatMA
set_option maxHeartbeats 32000000
set_option linter.unusedVariables false
set_option linter.unusedSimpArgs false
set_option linter.unusedSectionVars false
set_option maxRecDepth 100000
namespace Go.V.Doc
open Go Go.Proofs Go.Sort Go.RowKit
theorem Vq{a b:Nt}:vt a b=true↔a.id<b.id:=by
 unfold vt ltOf kS
 rw[decide_eq_true_eq]
 simp only[j5]
 repeat' split
 all_goals omega
theorem Bv:SWO vt where
 irrefl:=λx=>by rw[<-Bool.not_eq_true,Vq];omega
 trans:=λx y z H h2=>by rw[Vq] at *;omega
 ntrans:=λx y z H h2=>by rw[<-Bool.not_eq_true,Vq] at *;omega
def qX(l:List Nt):List Nt:=(pdq vt l.toArray 0 l.length (Lib.bitLen l.length) true true).toList
theorem KA(l:List Nt):PermIn 0 l.length l.toArray (pdq vt l.toArray 0 l.length (Lib.bitLen l.length) true true)/\SortedIn vt 0 l.length (pdq vt l.toArray 0 l.length (Lib.bitLen l.length) true true):=
 pdq_sorts vt Bv l.toArray 0 l.length (Lib.bitLen l.length) true true (Nat.zero_le _) (by simp) (Or.inl rfl)
theorem Vr(l:List Nt):(qX l).length=l.length:=by
 have:=(KA l).1.1
 unfold qX
 rw[Array.length_toList,this];simp
theorem Vs(l:List Nt):(qX l).Perm l:=by
 obtain⟨H,_,G⟩:=(KA l).1
 unfold qX
 generalize pdq vt l.toArray 0 l.length (Lib.bitLen l.length) true true=A at H G
 have e1:A.extract 0 l.length=A:=by rw[show l.length=A.size by rw[H];simp];simp
 have e2:l.toArray.extract 0 l.length=l.toArray:=by rw[show l.length=l.toArray.size by simp];simp
 rw[e1,e2] at G
 simpa using G
theorem TY(l:List Nt):(qX l).Pairwise λa b=>¬b.id<a.id:=by
 have hs:=(KA l).2
 have G:=Vr l
 unfold qX at G ⊢
 generalize pdq vt l.toArray 0 l.length (Lib.bitLen l.length) true true=A at hs G
 rw[List.pairwise_iff_getElem]
 intro i j hi F H
 rw[Array.length_toList] at G
 have:=hs i j (Nat.zero_le _) H (by rw[Array.length_toList] at F;omega)
 rw[Array.length_toList] at hi F
 rw[<-Bool.not_eq_true,Vq] at this
 simpa[getElem!_pos,hi,F] using this
theorem A0(l:List Nt)(F:l≠[])(K:l.length<4611686018427387904):
  zA Tryz.prog 65 [.ar 0,.fn 66 []] [(0,.arr 72 7 (l.map Nt.row))] 1 (.d (.tup [])) 1 [(0,.arr 72 7 ((qX l).map Nt.row))] []:=by
 refine VI jW c_65 F (Vr l) ?_
 intro w E β vs G H g cap J L M
 simp only[zb,Sm] at G
 obtain⟨_,_,rfl,⟨_,rfl,rfl⟩,rfl⟩:=G
 have:=AnyQ.slices_SortFunc_eq Tryz.zgq 7 WM WN Nt.enc jW.len jW.one kS Bv 66 #[] g 0 cap l.toArray w Br
  (Bq H L) M J (by simpa using K)
 change Calls Tryz.prog 65 _ _ _ at this
 have e:(pdq (ltOf kS) l.toArray 0 l.toArray.size (Lib.bitLen l.toArray.size) true true)=(qX l).toArray:=by
  unfold qX vt;simp
 rw[e] at this
 simpa using this
def Bw(l:List Nt)(n:Nt):List Nt:=l.takeWhile (λm=>!decide (n.id<m.id))++n::l.dropWhile (λm=>!decide (n.id<m.id))
def XB(l:List Nt)(n:Nt)(k:Nat):List Nt×Bool:=if (l.take k).all (λm=>!decide (n.id<m.id))=true then (l.take k,false) else (Bw (l.take k) n,true)
end Go.V.Doc
namespace Go.Proofs
open Go.RowKit Go.Shelf
theorem KB:(Tryz.prog.info? 166).map (·.size)=some 2:=by kernel_rfl
theorem Bz:liesAt Tryz.prog Tryz.prog.depth 166 (2/Tryz.prog.cellsOf 166) 0 166 1=true:=by kernel_rfl
theorem KC(b:Nat)(w:World)(H:w.cell? ⟨b,0,none⟩=some (.pointer (some ⟨b,0,none⟩))):
  Calls Tryz.prog 159 #[.pointer (some ⟨b,0,none⟩)] w λe w'=>e = .returned (.tuple #[])/\w'=w:=by
 obtain⟨j,G,_⟩:=Option.map_eq_some_iff.1 KB
 go_enter Tryz.func159,Tryz.ntmps159
 go_wp2
 rw[Lib.run_neq_ptr_same w _ Tryz.underlying163 G]
 go_wp2
 go_end0
 exact⟨rfl,rfl⟩
theorem KD(b:Nat)(w:World)(E:w.cell? ⟨b,0,none⟩=some (.pointer none))(H:w.shape? b=some (166,2))(F:w.frozen? ⟨b,0,none⟩=false):
  Calls Tryz.prog 159 #[.pointer (some ⟨b,0,none⟩)] w λe w'=>e = .returned (.tuple #[])/\w'=w.setCell ⟨b,0,none⟩ (.pointer (some ⟨b,0,none⟩)):=by
 obtain⟨j,K,G⟩:=Option.map_eq_some_iff.1 KB
 go_enter Tryz.func159,Tryz.ntmps159
 go_wp2
 rw[Lib.run_to_unsafe w ⟨b,0,none⟩ Tryz.underlying163 Tryz.underlying258 K (by rw[G];decide) H (Nat.zero_lt_succ 1)]
 simp only[Result.andThen]
 rw[Oper.upon_value]
 go_wp2
 rw[run_callFunc_extern Tryz.func205 (by kernel_rfl) (by kernel_rfl) (by kernel_rfl) (e:=Extern.AbiNoEscape.same) (by kernel_rfl)]
 rw[Lib.run_noEscape]
 simp only[Result.andThen]
 rw[Oper.upon_value]
 go_wp2
 rw[Lib.run_from_unsafe w ⟨b,0,none⟩ Tryz.underlying258 Tryz.underlying163 K H Bz]
 simp only[Result.andThen]
 rw[Oper.upon_value]
 go_wp2
 go_end0
 exact⟨rfl,rfl⟩
theorem A1:Builder.X72 Tryz.prog Tryz.bldStr_ren:=⟨KB,Bz⟩
theorem BA:Builder.Extra Tryz.prog Tryz.bldStr_ren:={A1 with
 t5:=Tryz.underlying5
 a5:=Tryz.isAgg5
 z5:=Tryz.sizeOf5
 v5:=Tryz.zeroValue5
 infoByte:=by kernel_rfl
 cellsByte:=by kernel_rfl
 sizeByte:=by kernel_rfl
 neB5:=by decide}
end Go.Proofs
namespace Go.V
open Go Go.Proofs
def KE(l:List Stp):Nat->Nat->Nat
 |0,m=>m
 |k+1,m=>OQ l (KE l k m) 0 |||KE l k m
def A2(n:Nett)(q:Nat):Bool:=D6 n.states.toNat (KE n.steps n.states.toNat (jS 0 (q:Int))) (j6 n.final)
def A3(n:Nett):Nat:=(List.range n.states.toNat).foldl (λm q=>if A2 n q=true then m ||| (1 <<< q) else m) 0
def A4(n:Nett)(cs:List Int)(k:Nat):List Int:=((List.range k).map λ(i:Nat)=>(i:Int)+1).filter λc=>D6 n.states.toNat (uC n.steps (jA n.steps cs) c) (A3 n)
def XC(a b:Rf):Bool:=decide (a.rcd<b.rcd) || (decide (a.rcd=b.rcd)&&decide (a.note<b.note))
theorem A5(a b:Rf):zj Tryz.prog 234 [.agg a.row,.agg b.row] (.bool (XC a b)):=by
 refine zn mixed Tryz.func234 rfl c_234 ?_
 by_cases H:a.rcd<b.rcd
 .simp+decide[Tryz.f234,int,Rf.row,XC,H]
 .by_cases h2:a.rcd=b.rcd
  .simp+decide[Tryz.f234,int,Rf.row,XC,H,h2]
  .simp+decide[Tryz.f234,int,Rf.row,XC,H,h2]
theorem A6(a:Rf):zj Tryz.prog 233 [.agg a.row] (.bool (jD a.rcd&&jD a.note)):=by
 refine zn mixed Tryz.func233 rfl c_233 ?_
 simp+decide[Tryz.f233,int,Rf.row]
 refine zg (X6 a.rcd) ?_
 cases h:jD a.rcd with
 |false=>simp+decide[int]
 |true=>
  simp+decide[int];refine zg (X6 a.note) ?_
  simp+decide[int]
theorem A7(l:List Rf)(n:Int)(L:l.length<=1048576):xy Tryz.prog 202 [vn l,int n] V4:=by
 refine qb mixed Tryz.func202 rfl c_202 ?_
 by_cases M:n<l.length
 .simp+decide[Tryz.f202,int,vn,M]
 simp+decide[Tryz.f202,int,vn,M]
 refine zm mixed (λk:Nat=>{n:=37,next:=0,slots:=[(0,.d (vn l)),(5,.d (int k))],own:=[]})
  (λk=>k<=l.length) (λk=>l.length-k) 0 (by simp) (by simp+decide[int,vn]) ?_
 intro k O
 by_cases G:k<l.length
 .have H:(k:Int)<l.length:=by omega
  obtain⟨x,ex⟩:∃ x,l[k]=x:=⟨_,rfl⟩;have e1:l[k]?=some x:=by rw[List.getElem?_eq_getElem G,ex]
  simp+decide[int,vn,Rf.row,G,H,e1,ex];refine zg (A6 x) ?_
  cases Q:jD x.rcd&&jD x.note with
  |false=>simp+decide[int]
  |true=>
   by_cases E:k=0
   .subst E
    simp+decide[int,I64,vn];exact⟨1,G,by omega,by omega⟩
   .have F:(0:Int)<k:=by omega
    have K:k-1<l.length:=by omega
    obtain⟨y,ey⟩:∃ y,l[k-1]=y:=⟨_,rfl⟩;have ey1:l[k-1]?=some y:=by rw[List.getElem?_eq_getElem K,ey]
    have t1:((k:Int)-1).toNat=k-1:=by omega
    have t2:0<=(k:Int)-1:=by omega
    have t3:(k:Int)-1<l.length:=by omega
    simp+decide[int,I64,vn,Rf.row,E,F,G,H,e1,ex,ey,ey1,t1,t2,t3,K];intro _;refine⟨⟨by omega,by omega⟩,by omega,?_⟩
    refine scp (A5 y x) ?_
    cases J:XC y x with
    |false=>simp+decide[int]
    |true=>
     simp+decide[int,I64,vn,F];exact⟨⟨by omega,by omega⟩,k+1,G,by omega,by omega⟩
 .have H:¬(k:Int)<l.length:=by omega
  simp+decide[int,vn,H]
theorem A8(e:Ent)(L:e.links.length<=1048576):xy Tryz.prog 201 [.agg e.row] (λx=>∃ n,x=int n/\(n=0->e.links.length<=12/\∀ l∈e.links,0<=l.kind/\l.kind<=5)):=by
 refine qb mixed Tryz.func201 rfl c_201 ?_
 by_cases M:(12:Int)<e.links.length
 .simp+decide[Tryz.f201,int,Ent.row,yE,M]
 simp+decide[Tryz.f201,int,Ent.row,yE,M]
 refine zm mixed (λk:Nat=>{n:=76,next:=1,slots:=[(1,.bp 0 0),(3,.d (int k))],own:=[(0,.box 102 (e.row.map .d))]})
  (λk=>k<=e.links.length/\∀ l∈e.links.take k,0<=l.kind/\l.kind<=5) (λk=>e.links.length-k) 0 (by simp) (by simp+decide[int,ints,Ent.row,yE]) ?_
 intro k ⟨O,Q⟩
 by_cases G:k<e.links.length
 .have H:(k:Int)<e.links.length:=by omega
  obtain⟨x,ex⟩:∃ x,e.links[k]=x:=⟨_,rfl⟩;have e1:e.links[k]?=some x:=by rw[List.getElem?_eq_getElem G,ex]
  have hsn:=yr G;rw[ex] at hsn;by_cases b1:x.kind<0
  .simp+decide[int,ints,Ent.row,yE,Lnk.row,G,H,e1,ex,b1]
  by_cases b2:5<x.kind
  .simp+decide[int,ints,Ent.row,yE,Lnk.row,G,H,e1,ex,b1,b2]
  have J:∀ z∈e.links.take (k+1),0<=z.kind/\z.kind<=5:=by
   intro z T;rw[hsn] at T;rcases List.mem_append.1 T with h | h
   .exact Q z h
   .rw[List.mem_singleton] at h;rw[h];omega
  simp+decide[int,ints,Ent.row,yE,Lnk.row,G,H,e1,ex,b1,b2];refine zg (X6 x.dst) ?_
  cases V:jD x.dst with
  |false=>simp+decide[int]
  |true=>
   by_cases b3:x.dst=e.id
   .simp+decide[int,b3]
   by_cases E:k=0
   .subst E
    simp+decide[int,ints,Ent.row,yE,Lnk.row,I64,b3];exact⟨1,⟨G,J⟩,by omega,by omega⟩
   .have F:(0:Int)<k:=by omega
    have K:k-1<e.links.length:=by omega
    obtain⟨y,ey⟩:∃ y,e.links[k-1]=y:=⟨_,rfl⟩;have ey1:e.links[k-1]?=some y:=by rw[List.getElem?_eq_getElem K,ey]
    have t1:((k:Int)-1).toNat=k-1:=by omega
    have t2:0<=(k:Int)-1:=by omega
    have t3:(k:Int)-1<e.links.length:=by omega
    by_cases c1:x.kind<y.kind
    .simp+decide[int,ints,Ent.row,yE,Lnk.row,I64,b3,E,F,G,H,e1,ex,ey,ey1,t1,t2,t3,K,c1]
     exact λ_=>⟨⟨by omega,by omega⟩,by omega⟩
    .by_cases c2:x.kind=y.kind
     .by_cases c3:x.dst<=y.dst
      .simp+decide[int,ints,Ent.row,yE,Lnk.row,I64,b3,E,F,G,H,e1,ex,ey,ey1,t1,t2,t3,K,c1,c2,c3]
       exact λ_=>⟨⟨by omega,by omega⟩,by omega,⟨by omega,by omega⟩,by omega,⟨by omega,by omega⟩,by omega⟩
      .simp+decide[int,ints,Ent.row,yE,Lnk.row,I64,b3,E,F,G,H,e1,ex,ey,ey1,t1,t2,t3,K,c1,c2,c3]
       exact λ_=>⟨⟨by omega,by omega⟩,by omega,⟨by omega,by omega⟩,by omega,⟨by omega,by omega⟩,by omega,⟨by omega,by omega⟩,k+1,⟨G,J⟩,by omega,by omega⟩
     .simp+decide[int,ints,Ent.row,yE,Lnk.row,I64,b3,E,F,G,H,e1,ex,ey,ey1,t1,t2,t3,K,c1,c2]
      exact λ_=>⟨⟨by omega,by omega⟩,by omega,⟨by omega,by omega⟩,by omega,⟨by omega,by omega⟩,k+1,⟨G,J⟩,by omega,by omega⟩
 .have:k=e.links.length:=by omega
  subst this;rw[List.take_length] at Q;simp+decide[int,ints,Ent.row,yE];exact⟨by omega,Q⟩
structure EntF(inv:List Phon)(e:Ent):Prop extends WordsF inv e where
 senses:e.senses≠[]\/e.main≠0
 fewS:e.senses.length<=5
 links:e.links.length<=12
 kinds:∀ l∈e.links,0<=l.kind/\l.kind<=5
 gl:∀ s∈e.senses,yR s.gloss=true
theorem Aa(inv:List Phon)(e:Ent)(H:EntC e):xy Tryz.prog 149 [.agg [zF inv],.agg e.row] (λx=>∃ n,x=int n/\(n=0->EntF inv e)):=by
 refine qb mixed Tryz.func149 rfl c_149 ?_
 simp+decide[Tryz.f149,int,Ent.row]
 refine zC.some (by rfl) (PO inv e H) ?_
 rintro r ⟨n,rfl,G⟩
 by_cases F:n=0
 case neg=>simp+decide[int,F]
 have G:=G F
 simp+decide[int,F]
 refine zC.some (by rfl) (PS e H) ?_
 rintro r ⟨m,rfl,E⟩
 by_cases h2:m=0
 case neg=>simp+decide[int,h2]
 have E:=E h2
 simp+decide[int,h2]
 refine zC.some (by rfl) (A8 e H.links) ?_
 rintro r ⟨j,rfl,K⟩
 by_cases J:j=0
 case neg=>simp+decide[int,J]
 have K:=K J
 simp+decide[int,J]
 refine zC.some (by rfl) (A7 e.refs 12 H.refs) ?_
 rintro r ⟨i,rfl⟩
 simp+decide[int]
 exact λ_=>⟨G,E.1.1,E.1.2,K.1,K.2,E.2⟩
theorem KF(l:List Ent)(id:Int)(H:l.length<2^40):zj Tryz.prog 150 [zh l,int id] (.bool (zL l id).2):=by
 refine zn mixed Tryz.func150 rfl c_150 ?_
 have G:=O0 l id (by omega)
 generalize zL l id=r at G ⊢
 obtain⟨e,ok⟩:=r
 simp+decide[Tryz.f150,int,zh]
 refine zg G ?_
 simp+decide[int,Ent.row]
structure LexC(l:List Ent):Prop where
 few:l.length<=1048576
 each:∀ e∈l,EntC e
structure LexF(inv:List Phon)(l:List Ent):Prop where
 each:∀ e∈l,EntF inv e
 up:∀ k (h:k+1<l.length),l[k].id<l[k+1].id
theorem Ab(inv:List Phon)(l:List Ent)(C:LexC l):xy Tryz.prog 90 [.agg [zF inv],zh l] (λx=>∃ n,x=int n/\(n=0->LexF inv l)):=by
 have V:=C.few
 refine qb mixed Tryz.func90 rfl c_90 ?_
 by_cases I:(100:Int)<l.length
 .simp+decide[Tryz.f90,int,zh,I]
 simp+decide[Tryz.f90,int,zh,I]
 refine x9 mixed (λk:Nat=>{n:=87,next:=1,slots:=[(1,.d (zh l)),(2,.bp 0 0),(13,.d (int l.length)),(14,.d (int k))],own:=[(0,.box 24 [.d (zF inv)])]})
  (λk=>k<=l.length/\(∀ e∈l.take k,EntF inv e)/\∀ j (h:j+1<l.length),j+1<k->l[j].id<l[j+1].id) (λk=>l.length-k) 0 ⟨by simp,by simp,λj h N=>absurd N (by omega)⟩ (by simp+decide[int,ints,zh]) ?_
 intro k ⟨P,S,Q⟩
 by_cases E:k<l.length
 .have K:(k:Int)<l.length:=by omega
  have W:=C.each l[k] (List.getElem_mem E);obtain⟨e,ee⟩:∃ e,l[k]=e:=⟨_,rfl⟩;have e1:l[k]?=some e:=by rw[List.getElem?_eq_getElem E,ee]
  have hsn:=yr E;rw[ee] at hsn W;have hE:=Aa inv e W;refine ky mixed 2 {n:=87,next:=1,slots:=[(1,.d (zh l)),(2,.bp 0 0),(13,.d (int l.length)),(14,.d (int k))],own:=[(0,.box 24 [.d (zF inv)])]} rfl (by simp+decide[x8,ku,int,zh,E,K]) ?_
  simp only[xB];refine US (Qz (ky mixed 1 {n:=87,next:=1,slots:=[(1,.d (zh l)),(2,.bp 0 0),(5,.d (int k)),(13,.d (int l.length)),(14,.d (int k))],own:=[(0,.box 24 [.d (zF inv)])]} rfl (by simp+decide[x8,ku,int,zh]) ?_)) mixed
  simp only[xB];refine US ?_ mixed
  refine G4 mixed 5 (by rfl) (by rfl) (by rfl) (by rfl) (by simp) ?_
  simp+decide[int,zh,Ent.row,E,K,ee,e1];refine zC.some (by rfl) hE ?_
  rintro r ⟨n,rfl,hF⟩
  by_cases hn:n=0
  case neg=>simp+decide[int,hn]
  have hF:=hF hn;have T:∀ x∈l.take (k+1),EntF inv x:=by
   intro x hx;rw[hsn] at hx;rcases List.mem_append.1 hx with h | h
   .exact S x h
   .rw[List.mem_singleton] at h;rw[h];exact hF
  by_cases O:k=0
  .subst O
   simp+decide[int,hn,zh,I64];exact⟨1,⟨E,T,λj h N=>absurd N (by omega)⟩,by omega,by omega⟩
  .have L:(0:Int)<k:=by omega
   have F:k-1<l.length:=by omega
   obtain⟨y,ey⟩:∃ y,l[k-1]=y:=⟨_,rfl⟩;have ey1:l[k-1]?=some y:=by rw[List.getElem?_eq_getElem F,ey]
   have t1:((k:Int)-1).toNat=k-1:=by omega
   have t2:0<=(k:Int)-1:=by omega
   have t3:(k:Int)-1<l.length:=by omega
   by_cases c1:e.id<=y.id
   .simp+decide[int,hn,zh,Ent.row,I64,O,L,E,K,e1,ee,ey,ey1,t1,t2,t3,F,c1]
    exact λ_=>⟨⟨by omega,by omega⟩,by omega⟩
   .simp+decide[int,hn,zh,Ent.row,I64,O,L,E,K,e1,ee,ey,ey1,t1,t2,t3,F,c1]
    refine λ_=>⟨⟨by omega,by omega⟩,by omega,⟨by omega,by omega⟩,k+1,⟨E,T,λj h N=>?_⟩,by omega,by omega⟩
    by_cases hj:j+1<k
    .exact Q j h hj
    .have X:j=k-1:=by omega
     subst X;have B:k-1+1=k:=by omega
     have:l[k-1+1]=e:=by rw[<-ee];congr 1
     rw[ey,this];omega
 .have:k=l.length:=by omega
  subst this;rw[List.take_length] at S;refine ya mixed ?_
  simp+decide[int,zh];have M:LexF inv l:=⟨S,λj h=>Q j h h⟩
  refine zm mixed (λk:Nat=>{n:=87,next:=1,slots:=[(1,.d (zh l)),(2,.bp 0 0),(44,.d (int l.length)),(45,.d (int k))],own:=[(0,.box 24 [.d (zF inv)])]})
   (λk=>k<=l.length) (λk=>l.length-k) 0 (by simp) (by simp+decide[int,ints,zh]) ?_
  intro i hi;by_cases J:i<l.length
  .have H:(i:Int)<l.length:=by omega
   have Y:=(S l[i] (List.getElem_mem J)).links;obtain⟨e,ee⟩:∃ e,l[i]=e:=⟨_,rfl⟩;have e1:l[i]?=some e:=by rw[List.getElem?_eq_getElem J,ee]
   rw[ee] at Y;by_cases hm:e.main=0
   .simp+decide[int,zh,Ent.row,yE,J,H,e1,ee,hm,I64]
    refine zm mixed (λm:Nat=>{n:=87,next:=1,slots:=[(1,.d (zh l)),(2,.bp 0 0),(7,.d (int i)),(44,.d (int l.length)),(45,.d (int i)),(69,.d (int e.links.length)),(70,.d (int m))],own:=[(0,.box 24 [.d (zF inv)])]})
     (λm=>m<=e.links.length) (λm=>e.links.length-m) 0 (by simp) (by simp+decide[int,ints,zh]) ?_
    intro m Z;by_cases F:m<e.links.length
    .have G:(m:Int)<e.links.length:=by omega
     obtain⟨y,ey⟩:∃ y,e.links[m]=y:=⟨_,rfl⟩;have ey1:e.links[m]?=some y:=by rw[List.getElem?_eq_getElem F,ey]
     simp+decide[int,zh,Ent.row,yE,Lnk.row,J,H,e1,ee,F,G,ey,ey1,I64];refine zg (KF l y.dst (by omega)) ?_
     cases A:(zL l y.dst).2 with
     |false=>simp+decide[int]
     |true=>
      simp+decide[int,I64,zh];exact⟨⟨by omega,by omega⟩,m+1,F,by omega,by omega⟩
    .have G:¬(m:Int)<e.links.length:=by omega
     simp+decide[int,zh,G,I64];exact⟨⟨by omega,by omega⟩,i+1,J,by omega,by omega⟩
   .simp+decide[int,zh,Ent.row,yE,J,H,e1,ee,hm,I64]
    refine zg (KF l e.main (by omega)) ?_
    cases hg:(zL l e.main).2 with
    |false=>simp+decide[int]
    |true=>
     simp+decide[int,zh,Ent.row,yE,J,H,e1,ee,hm,I64];refine zm mixed (λm:Nat=>{n:=87,next:=1,slots:=[(1,.d (zh l)),(2,.bp 0 0),(7,.d (int i)),(44,.d (int l.length)),(45,.d (int i)),(69,.d (int e.links.length)),(70,.d (int m))],own:=[(0,.box 24 [.d (zF inv)])]})
      (λm=>m<=e.links.length) (λm=>e.links.length-m) 0 (by simp) (by simp+decide[int,ints,zh]) ?_
     intro m Z;by_cases F:m<e.links.length
     .have G:(m:Int)<e.links.length:=by omega
      obtain⟨y,ey⟩:∃ y,e.links[m]=y:=⟨_,rfl⟩;have ey1:e.links[m]?=some y:=by rw[List.getElem?_eq_getElem F,ey]
      simp+decide[int,zh,Ent.row,yE,Lnk.row,J,H,e1,ee,F,G,ey,ey1,I64];refine zg (KF l y.dst (by omega)) ?_
      cases A:(zL l y.dst).2 with
      |false=>simp+decide[int]
      |true=>
       simp+decide[int,I64,zh];exact⟨⟨by omega,by omega⟩,m+1,F,by omega,by omega⟩
     .have G:¬(m:Int)<e.links.length:=by omega
      simp+decide[int,zh,G,I64];exact⟨⟨by omega,by omega⟩,i+1,J,by omega,by omega⟩
  .have H:¬(i:Int)<l.length:=by omega
   simp+decide[int,zh,H];exact M
def XD(k:Int):Int:=if k=0 then k else if k=1 then k else if k=2 then 3 else if k=3 then 2 else if k=4 then 5 else if k=5 then 4 else -1
theorem BB(k:Int):zj Tryz.prog 151 [int k] (int (XD k)):=by
 refine zn mixed Tryz.func151 rfl c_151 ?_
 unfold XD
 by_cases H:k=0
 .simp+decide[Tryz.f151,int,H]
 by_cases G:k=1
 .simp+decide[Tryz.f151,int,H,G]
 by_cases h2:k=2
 .simp+decide[Tryz.f151,int,H,G,h2]
 by_cases F:k=3
 .simp+decide[Tryz.f151,int,H,G,h2,F]
 by_cases E:k=4
 .simp+decide[Tryz.f151,int,H,G,h2,F,E]
 by_cases K:k=5
 .simp+decide[Tryz.f151,int,H,G,h2,F,E,K]
 simp+decide[Tryz.f151,int,H,G,h2,F,E,K]
def XE(e:Ent)(x:Lnk):Bool:=e.links.any λy=>decide (y=x)
theorem Ac(e:Ent)(x:Lnk)(K:e.links.length<=1048576):zj Tryz.prog 153 [.agg e.row,.agg x.row] (.bool (XE e x)):=by
 refine zn mixed Tryz.func153 rfl c_153 ?_
 simp+decide[Tryz.f153,int,Ent.row,Lnk.row]
 refine zm mixed (λk:Nat=>{n:=20,next:=2,slots:=[(2,.bp 0 0),(3,.bp 1 0),(5,.d (int k))],own:=[(0,.box 102 (e.row.map .d)),(1,.box 213 (x.row.map .d))]})
  (λk=>k<=e.links.length/\∀ y∈e.links.take k,¬y=x) (λk=>e.links.length-k) 0 (by simp) (by simp+decide[int,ints,Ent.row,Lnk.row,yE]) ?_
 intro k ⟨J,L⟩
 by_cases H:k<e.links.length
 .have G:(k:Int)<e.links.length:=by omega
  have F:=List.getElem_mem H;have hsn:=yr H;obtain⟨y,ey⟩:∃ y,e.links[k]=y:=⟨_,rfl⟩;have e1:e.links[k]?=some y:=by rw[List.getElem?_eq_getElem H,ey]
  rw[ey] at F hsn;by_cases b1:y=x
  .have:XE e x=true:=List.any_eq_true.2 ⟨y,F,by simpa using b1⟩
   rw[this];subst b1;simp+decide[int,ints,Ent.row,yE,Lnk.row,H,G,e1,ey]
  .simp+decide[int,ints,Ent.row,yE,Lnk.row,H,G,e1,ey,I64]
   have E:y.kind=x.kind->¬y.dst=x.dst:=by
    intro M h2;obtain⟨a,b⟩:=y;obtain⟨c,d⟩:=x;simp only at M h2
    exact b1 (by rw[M,h2])
   refine⟨λM h2=>absurd h2 (E M),λ_=>⟨⟨by omega,by omega⟩,k+1,⟨H,λz O=>?_⟩,by omega,by omega⟩⟩
   rw[hsn] at O;rcases List.mem_append.1 O with h | h
   .exact L z h
   .rw[List.mem_singleton] at h;rw[h];exact b1
 .have:k=e.links.length:=by omega
  subst this;rw[List.take_length] at L;have:XE e x=false:=by unfold XE;rw[List.any_eq_false];intro y Q;simpa using L y Q
  rw[this];simp+decide[int,ints,Ent.row,yE]
theorem BD(l:List Int)(x:Int)(E:l.length<2^40):zj Tryz.prog 154 [ints l,int x] (.bool (decide (x∈l))):=by
 refine zn mixed Tryz.func154 rfl c_154 ?_
 simp+decide[Tryz.f154,int,ints]
 refine zm mixed (λk:Nat=>{n:=18,next:=0,slots:=[(0,.d (ints l)),(1,.d (int x)),(5,.d (int k))],own:=[]})
  (λk=>k<=l.length/\∀ y∈l.take k,¬y=x) (λk=>l.length-k) 0 (by simp) (by simp+decide[int,ints]) ?_
 intro k ⟨K,J⟩
 by_cases H:k<l.length
 .have G:(k:Int)<l.length:=by omega
  have F:=List.getElem_mem H;have hsn:=yr H;obtain⟨y,ey⟩:∃ y,l[k]=y:=⟨_,rfl⟩;have e1:l[k]?=some y:=by rw[List.getElem?_eq_getElem H,ey]
  rw[ey] at F hsn;by_cases b1:y=x
  .subst b1
   simp+decide[int,ints,H,G,e1,ey,F]
  .simp+decide[int,ints,H,G,e1,ey,b1,I64]
   refine⟨⟨by omega,by omega⟩,k+1,⟨H,λz L=>?_⟩,by omega,by omega⟩
   rw[hsn] at L;rcases List.mem_append.1 L with h | h
   .exact J z h
   .rw[List.mem_singleton] at h;rw[h];exact b1
 .have:k=l.length:=by omega
  subst this;rw[List.take_length] at J;have M:¬x∈l:=λh=>J x h rfl
  simp+decide[int,ints,M]
def vR(l:List Ent)(kind:Int)(s:List Bool×List Int)(x:Lnk):List Bool×List Int:=
 if x.kind=kind/\0<=yF l x.dst/\s.1[(yF l x.dst).toNat]?.getD true=false then (s.1.set (yF l x.dst).toNat true,s.2++[x.dst]) else s
def jk(l:List Ent)(kind:Int)(s:List Bool×List Int)(t:Int):List Bool×List Int:=(zL l t).1.links.foldl (vR l kind) s
def BE(l:List Ent)(kind:Int)(s:List Bool×List Int):List Bool×List Int:=s.2.foldl (jk l kind) (s.1,[])
def rN(l:List Ent)(id kind:Int):Nat->List Bool×List Int
 |0=>(List.replicate l.length false,[id])
 |n+1=>BE l kind (rN l id kind n)
def kT(l:List Ent)(s:List Bool)(k:Nat):List Int:=((List.range k).filter λj=>s[j]?.getD false).map λj=>((l[j]?).map Ent.id).getD 0
def Zd(l:List Ent)(id kind:Int):List Int:=kT l (rN l id kind (l.length+1)).1 l.length
theorem Ad(l:List Ent)(kind:Int)(s:List Bool×List Int)(x:Lnk):(vR l kind s x).1.length=s.1.length/\(vR l kind s x).2.length<=s.2.length+1:=by
 unfold vR;split <;> simp
theorem KG(l:List Ent)(kind:Int):∀ (xs:List Lnk) (s:List Bool×List Int),(xs.foldl (vR l kind) s).1.length=s.1.length/\(xs.foldl (vR l kind) s).2.length<=s.2.length+xs.length
 | [],s=>⟨rfl,Nat.le_refl _⟩
 |x::xs,s=>by
  have H:=Ad l kind s x;have h2:=KG l kind xs (vR l kind s x);rw[List.foldl_cons,List.length_cons];exact⟨h2.1.trans H.1,by omega⟩
theorem BF{l:List Ent}(H:∀ e∈l,e.links.length<=12)(t:Int):(zL l t).1.links.length<=12:=by
 rcases wF l t with⟨_,h2⟩ | ⟨j,G,_,h2⟩
 .rw[h2];simp[Ent.zero]
 .rw[h2];exact H _ (List.getElem_mem G)
theorem KH{l:List Ent}(H:∀ e∈l,e.links.length<=12)(kind:Int):∀ (ts:List Int) (s:List Bool×List Int),(ts.foldl (jk l kind) s).1.length=s.1.length/\(ts.foldl (jk l kind) s).2.length<=s.2.length+12*ts.length
 | [],s=>⟨rfl,by simp⟩
 |t::ts,s=>by
  have G:=KG l kind (zL l t).1.links s;have F:=BF H t;have h2:=KH H kind ts (jk l kind s t);rw[List.foldl_cons,List.length_cons];unfold jk at h2 ⊢;exact⟨h2.1.trans G.1,by omega⟩
theorem BG{l:List Ent}(H:∀ e∈l,e.links.length<=12)(id kind:Int):∀ n,(rN l id kind n).1.length=l.length/\(rN l id kind n).2.length<=12^n
 |0=>by simp[rN]
 |n+1=>by
  have h:=BG H id kind n;have h2:=KH H kind (rN l id kind n).2 ((rN l id kind n).1,[]);unfold rN BE;simp only[List.length_nil,Nat.zero_add] at h2;refine⟨h2.1.trans h.1,Nat.le_trans h2.2 ?_⟩
  rw[Nat.pow_succ];omega
theorem Ae(l:List Ent)(s:List Bool)(k:Nat):kT l s (k+1)=kT l s k++(if s[k]?.getD false=true then [((l[k]?).map Ent.id).getD 0] else []):=by
 unfold kT
 rw[List.range_succ,List.filter_append,List.map_append]
 congr 1
 by_cases h:s[k]?.getD false=true
 .simp[h]
 .simp[h]
theorem BH(l:List Ent)(s:List Bool)(k:Nat):(kT l s k).length<=k:=by
 unfold kT
 rw[List.length_map]
 have:=List.length_filter_le (λj=>s[j]?.getD false) (List.range k)
 simpa using this
def rB(l:List Bool):List (List D):=l.map λb=>[.bool b]
def rI(l:List Int):List (List D):=l.map λn=>[int n]
def rH(l:List Ent)(id kind:Int)(i:Nat):St:=
 {n:=110,next:=3,slots:=[(0,.d (zh l)),(1,.d (int id)),(2,.d (int kind)),(7,.ar 1),(8,.d (ints (rN l id kind i).2)),(9,.d (int i))],own:=[(1,.arr 4 1 (rB (rN l id kind i).1))],moved:=[3]}
def rM(l:List Ent)(id kind:Int)(i:Nat)(todo:List Int)(s:List Bool×List Int):St:=
 {n:=110,next:=4,slots:=[(0,.d (zh l)),(1,.d (int id)),(2,.d (int kind)),(7,.ar 1),(8,.d (ints todo)),(9,.d (int i)),(10,.ar 3)],own:=[(1,.arr 4 1 (rB s.1)),(3,.arr 3 1 (rI s.2))],moved:=[3]}
def Vt(l:List Ent)(id kind:Int)(i:Nat)(todo:List Int)(j:Nat)(s:List Bool×List Int):St:=
 {n:=110,next:=4,slots:=[(0,.d (zh l)),(1,.d (int id)),(2,.d (int kind)),(7,.ar 1),(8,.d (ints todo)),(9,.d (int i)),(10,.ar 3),(11,.d (int j))],own:=[(1,.arr 4 1 (rB s.1)),(3,.arr 3 1 (rI s.2))],moved:=[3]}
def rL(l:List Ent)(id kind:Int)(i:Nat)(todo:List Int)(j:Nat)(f:Int)(m:Nat)(s:List Bool×List Int):St:=
 {n:=110,next:=4,slots:=[(0,.d (zh l)),(1,.d (int id)),(2,.d (int kind)),(7,.ar 1),(8,.d (ints todo)),(9,.d (int i)),(10,.ar 3),(11,.d (int j)),(12,.d (int f)),(13,.d (int m))],own:=[(1,.arr 4 1 (rB s.1)),(3,.arr 3 1 (rI s.2))],moved:=[3]}
theorem BI(l:List Ent)(id kind:Int)(hl:l.length<=5)(hk:∀ e∈l,e.links.length<=12):zj Tryz.prog 155 [zh l,int id,int kind] (ints (Zd l id kind)):=by
 refine zn mixed Tryz.func155 rfl c_155 ?_
 simp+decide[Tryz.f155,int,zh]
 refine⟨by omega,by unfold maxLen;omega,?_⟩
 refine UW [2] ?_
 refine x9 mixed (rH l id kind) (λi=>i<=l.length+1) (λi=>l.length+1-i) 0 (by simp) (by simp+decide[rH,rN,int,ints,zh,rB]) ?_
 intro i hi
 obtain⟨n1,n2⟩:=BG hk id kind i
 have N:12^i<=12^6:=Nat.pow_le_pow_right (by omega) (by omega)
 by_cases W:i<l.length+1
 .have Q:(i:Int)<=l.length:=by omega
  refine ky mixed 1 (rH l id kind i) rfl (by simp+decide[rH,x8,ku,int,zh,Q]) ?_
  simp only[xB];refine US (Qz (ky mixed 2 (rM l id kind i (rN l id kind i).2 (rN l id kind (i+1))) rfl ?_ ?_)) mixed
  .unfold rH
   have n3:(rN l id kind i).2.length<=2985984:=Nat.le_trans n2 (Nat.le_trans N (by decide))
   have G:rN l id kind (i+1)=(rN l id kind i).2.foldl (jk l kind) ((rN l id kind i).1,[]):=rfl
   generalize rN l id kind (i+1)=nx at G;generalize rN l id kind i=cur at G n1 n2 n3 ⊢;obtain⟨seen,todo⟩:=cur;simp only at G n1 n2 n3
   simp+decide[rH,x8,int,zh];have A:(seen,[])=(([]:List Int).foldl (jk l kind) (seen,[])):=rfl
   refine zm mixed (λj:Nat=>Vt l id kind i todo j ((todo.take j).foldl (jk l kind) (seen,[]))) (λj=>j<=todo.length) (λj=>todo.length-j) 0 (by simp) (by simp+decide[Vt,int,ints,zh,rB,rI]) ?_
   intro j hj;obtain⟨m1,m2⟩:=KH hk kind (todo.take j) (seen,[]);rw[List.length_take] at m2;simp only[List.length_nil,Nat.zero_add] at m1 m2;by_cases K:j<todo.length
   case neg=>
    have:j=todo.length:=by omega
    subst this;rw[List.take_length,<-G];simp+decide[Vt,rM,int,ints,zh,ku];done
   have T:(j:Int)<todo.length:=by omega
   have hsn:(todo.take (j+1)).foldl (jk l kind) (seen,[])=jk l kind ((todo.take j).foldl (jk l kind) (seen,[])) todo[j]:=by rw[yr K,List.foldl_append];rfl
   obtain⟨t,et⟩:∃ t,todo[j]=t:=⟨_,rfl⟩;have et1:todo[j]?=some t:=by rw[List.getElem?_eq_getElem K,et]
   rw[et] at hsn;generalize (todo.take j).foldl (jk l kind) (seen,[])=s0 at hsn m1 m2;have hF:=Wb l t (by omega)
   have F:=BF hk t;have V:jk l kind s0 t=(zL l t).1.links.foldl (vR l kind) s0:=rfl
   rw[V] at hsn;simp+decide[Vt,int,ints,zh,K,T,et,et1];refine zg hF ?_
   simp+decide[int,ints,zh];refine zm mixed (λm:Nat=>rL l id kind i todo j (yF l t) m (((zL l t).1.links.take m).foldl (vR l kind) s0)) (λm=>m<=(zL l t).1.links.length) (λm=>(zL l t).1.links.length-m) 0 (by simp) (by simp+decide[rL,int,ints,zh,rB,rI]) ?_
   intro m hm;rcases wF l t with⟨f1,f2⟩ | ⟨q,hq,f1,f2⟩
   .have hz:(zL l t).1.links=[]:=by rw[f2];rfl
    rw[hz] at hm hsn ⊢;have P:m=0:=by simpa using hm
    subst P;have S:¬0<=yF l t:=by omega
    simp only[List.take_zero,List.foldl_nil] at hsn ⊢;simp+decide[rL,int,ints,zh,S,I64];exact⟨⟨by omega,by omega⟩,j+1,K,by omega,by omega,by rw[hsn],by rw[hsn]⟩
   .rw[f2] at hm hsn F ⊢
    simp only at hm hsn F ⊢
    rw[f1];obtain⟨e,ee⟩:∃ e,l[q]=e:=⟨_,rfl⟩;have eq1:l[q]?=some e:=by rw[List.getElem?_eq_getElem hq,ee]
    have B:(q:Int)<l.length:=by omega
    rw[ee] at hm hsn F ⊢;by_cases E:m<e.links.length
    case neg=>
     have:m=e.links.length:=by omega
     subst this;rw[List.take_length,<-hsn];simp+decide[rL,int,ints,zh,hq,B,ee,eq1,Ent.row,yE,I64];exact⟨⟨by omega,by omega⟩,j+1,K,by omega,by omega,rfl,rfl⟩
    have X:(m:Int)<e.links.length:=by omega
    obtain⟨p1,p2⟩:=KG l kind (e.links.take m) s0;rw[List.length_take] at p2;have H:(e.links.take (m+1)).foldl (vR l kind) s0=vR l kind ((e.links.take m).foldl (vR l kind) s0) e.links[m]:=by rw[yr E,List.foldl_append];rfl
    obtain⟨x,ex⟩:∃ x,e.links[m]=x:=⟨_,rfl⟩;have ex1:e.links[m]?=some x:=by rw[List.getElem?_eq_getElem E,ex]
    rw[ex] at H;generalize (e.links.take m).foldl (vR l kind) s0=s1 at H p1 p2;have hG:=Wb l x.dst (by omega)
    have J:vR l kind s1 x=if x.kind=kind/\0<=yF l x.dst/\s1.1[(yF l x.dst).toNat]?.getD true=false then (s1.1.set (yF l x.dst).toNat true,s1.2++[x.dst]) else s1:=rfl
    rw[J] at H;simp+decide[rL,int,ints,zh,hq,B,ee,eq1,Ent.row,yE,Lnk.row,I64,E,X,ex,ex1];refine zg hG ?_
    by_cases k1:x.kind=kind
    case neg=>
     rw[if_neg (λh=>k1 h.1)] at H
     simp+decide[int,k1,I64];exact⟨⟨by omega,by omega⟩,m+1,E,by omega,by omega,by rw[H],by rw[H]⟩
    rcases wF l x.dst with⟨g1,g2⟩ | ⟨u,hu,g1,g2⟩
    .have C:¬0<=yF l x.dst:=by omega
     rw[if_neg (λh=>C h.2.1)] at H
     simp+decide[int,k1,C,I64];exact⟨⟨by omega,by omega⟩,m+1,E,by omega,by omega,by rw[H],by rw[H]⟩
    .have Y:u<s1.1.length:=by omega
     obtain⟨b,eb⟩:∃ b,s1.1[u]=b:=⟨_,rfl⟩;have eb1:s1.1[u]?=some b:=by rw[List.getElem?_eq_getElem Y,eb]
     rw[g1] at H;simp only[Int.toNat_natCast,eb1,Option.getD_some] at H;have I:(u:Int)<s1.1.length:=by omega
     cases b with
     |true=>
      rw[if_neg (λh=>by cases h.2.2)] at H
      simp+decide[int,k1,g1,rB,Y,I,eb,eb1,I64];exact⟨⟨by omega,by omega⟩,m+1,E,by omega,by omega,by rw[H],by rw[H]⟩
     |false=>
      rw[if_pos ⟨k1,by omega,rfl⟩] at H
      simp+decide[int,k1,g1,rB,rI,Y,I,eb,eb1,I64];exact⟨by omega,by unfold maxLen;omega,⟨by omega,by omega⟩,m+1,E,by omega,by omega,by rw[H];simp[List.map_set],by rw[H];simp⟩
  .simp only[xB]
   refine UW [3] ?_
   refine ya mixed ?_
   simp+decide[rM,int,zh];exact⟨⟨by omega,by omega⟩,i+1,by omega,by omega,by simp+decide[rH,int,ints,zh,rB,rI]⟩
 .have:i=l.length+1:=by omega
  subst this;refine ya mixed ?_
  have hn:¬(l.length:Int)+1<=l.length:=by omega
  simp+decide[rH,int,zh,hn];have L:Zd l id kind=kT l (rN l id kind (l.length+1)).1 l.length:=rfl
  generalize (rN l id kind (l.length+1)).1=seen at L n1 ⊢;refine zm mixed (λk:Nat=>{n:=110,next:=4,slots:=[(0,.d (zh l)),(7,.ar 1),(16,.ar 3),(17,.d (int k))],own:=[(1,.arr 4 1 (rB seen)),(3,.arr 3 1 (rI (kT l seen k)))],moved:=[3]}) (λk=>k<=l.length) (λk=>l.length-k) 0 (by simp) (by simp+decide[int,ints,zh,rB,rI,kT]) ?_
  intro k H0;have H1:=BH l seen k;by_cases F:k<l.length
  .have M:(k:Int)<l.length:=by omega
   have Z:k<seen.length:=by omega
   have O:(k:Int)<seen.length:=by omega
   have hsn:=Ae l seen k;obtain⟨e,ee⟩:∃ e,l[k]=e:=⟨_,rfl⟩;have e1:l[k]?=some e:=by rw[List.getElem?_eq_getElem F,ee]
   obtain⟨b,eb⟩:∃ b,seen[k]=b:=⟨_,rfl⟩;have eb1:seen[k]?=some b:=by rw[List.getElem?_eq_getElem Z,eb]
   rw[e1,eb1] at hsn;cases b with
   |false=>
    simp only[Option.getD_some,Bool.false_eq_true,if_false,List.append_nil] at hsn;simp+decide[int,ints,zh,rB,F,M,Z,O,ee,e1,eb,eb1,I64];exact⟨⟨by omega,by omega⟩,k+1,F,by omega,by omega,by rw[hsn]⟩
   |true=>
    simp only[Option.getD_some,if_true,Option.map_some] at hsn;simp+decide[int,ints,zh,rB,rI,Ent.row,F,M,Z,O,ee,e1,eb,eb1,I64];exact⟨by omega,by unfold maxLen;omega,⟨by omega,by omega⟩,k+1,F,by omega,by omega,by rw[hsn];simp⟩
  .have:k=l.length:=by omega
   subst this;rw[L];simp+decide[int,ints,zh,rI]
theorem BJ(l:List Ent)(id kind:Int):(Zd l id kind).length<=l.length:=BH _ _ _
theorem Af(l:List Ent)(T:l.length<=5)(V:∀ e∈l,e.links.length<=12):xy Tryz.prog 91 [zh l] V4:=by
 refine qb mixed Tryz.func91 rfl c_91 ?_
 simp+decide[Tryz.f91,int,zh]
 refine zm mixed (λi:Nat=>{n:=91,next:=0,slots:=[(0,.d (zh l)),(3,.d (int i))],own:=[]}) (λi=>i<=l.length) (λi=>l.length-i) 0 (by simp) (by simp+decide[int,zh]) ?_
 intro i hi
 by_cases F:i<l.length
 .have H:(i:Int)<l.length:=by omega
  have M:=V l[i] (List.getElem_mem F);obtain⟨e,ee⟩:∃ e,l[i]=e:=⟨_,rfl⟩;have e1:l[i]?=some e:=by rw[List.getElem?_eq_getElem F,ee]
  rw[ee] at M;simp+decide[int,zh,H];refine zm mixed (λk:Nat=>{n:=91,next:=0,slots:=[(0,.d (zh l)),(3,.d (int i)),(4,.d (int k))],own:=[]}) (λk=>k<=e.links.length) (λk=>e.links.length-k) 0 (by simp) (by simp+decide[int,zh]) ?_
  intro k Q;by_cases J:k<e.links.length
  .have E:(k:Int)<e.links.length:=by omega
   obtain⟨x,ex⟩:∃ x,e.links[k]=x:=⟨_,rfl⟩;have ex1:e.links[k]?=some x:=by rw[List.getElem?_eq_getElem J,ex]
   simp+decide[int,zh,Ent.row,yE,Lnk.row,F,H,ee,e1,J,E,ex,ex1];refine zg (BB x.kind) ?_
   by_cases c1:XD x.kind<0
   .simp+decide[int,c1]
   simp+decide[int,zh,c1];refine zg (Wb l x.dst (by omega)) ?_
   rcases wF l x.dst with⟨g1,g2⟩ | ⟨u,X,g1,g2⟩
   .simp+decide[int,g1]
   .have L:(u:Int)<l.length:=by omega
    have O:=V l[u] (List.getElem_mem X);obtain⟨y,ey⟩:∃ y,l[u]=y:=⟨_,rfl⟩;have ey1:l[u]?=some y:=by rw[List.getElem?_eq_getElem X,ey]
    rw[ey] at O;have Y:=Ac y ⟨XD x.kind,e.id⟩ (by omega)
    rw[g1];simp+decide[int,zh,Ent.row,yE,Lnk.row,F,H,ee,e1,X,L,ey,ey1];refine scp (BB x.kind) ?_
    simp+decide[int,zh,Ent.row,yE,Lnk.row,F,H,ee,e1,X,L,ey,ey1];refine scp Y ?_
    cases Z:XE y ⟨XD x.kind,e.id⟩ with
    |false=>simp+decide[int]
    |true=>
     simp+decide[int,I64,zh];exact⟨⟨by omega,by omega⟩,k+1,J,by omega,by omega⟩
  .have E:¬(k:Int)<e.links.length:=by omega
   simp+decide[int,zh,Ent.row,yE,F,H,ee,e1,E,I64];exact⟨⟨by omega,by omega⟩,i+1,F,by omega,by omega⟩
 .have H:¬(i:Int)<l.length:=by omega
  simp+decide[int,zh,H];refine zm mixed (λi:Nat=>{n:=91,next:=0,slots:=[(0,.d (zh l)),(7,.d (int i))],own:=[]}) (λi=>i<=l.length) (λi=>l.length-i) 0 (by simp) (by simp+decide[int,zh]) ?_
  intro j A;by_cases K:j<l.length
  .have G:(j:Int)<l.length:=by omega
   obtain⟨e,ee⟩:∃ e,l[j]=e:=⟨_,rfl⟩;have e1:l[j]?=some e:=by rw[List.getElem?_eq_getElem K,ee]
   have r2:=BJ l e.id 2;have r4:=BJ l e.id 4;simp+decide[int,zh,Ent.row,K,G,ee,e1];refine scp (BI l e.id 2 T V) ?_
   simp+decide[int,ints,zh,Ent.row,K,G,ee,e1];refine scp (BD (Zd l e.id 2) e.id (by omega)) ?_
   by_cases m2:e.id∈Zd l e.id 2
   .simp+decide[int,m2]
   simp+decide[int,zh,Ent.row,K,G,ee,e1,m2];refine scp (BI l e.id 4 T V) ?_
   simp+decide[int,ints,zh,Ent.row,K,G,ee,e1,m2];refine scp (BD (Zd l e.id 4) e.id (by omega)) ?_
   by_cases m4:e.id∈Zd l e.id 4
   .simp+decide[int,m2,m4]
   .simp+decide[int,m2,m4,I64,zh]
    exact⟨⟨by omega,by omega⟩,j+1,K,by omega,by omega⟩
  .have G:¬(j:Int)<l.length:=by omega
   simp+decide[int,zh,G]
structure MainF(l:List Ent):Prop where
 main:∀ e∈l,e.main≠0->0<=yF l e.main
 ends:∀ e∈l,(qV l (l.length+1) e.id).length<=l.length
theorem Ah(l:List Ent)(J:l.length<=1048576):xy Tryz.prog 92 [zh l] (λx=>∃ n,x=int n/\(n=0->MainF l)):=by
 refine qb mixed Tryz.func92 rfl c_92 ?_
 simp+decide[Tryz.f92,int,zh]
 refine zm mixed (λi:Nat=>{n:=44,next:=0,slots:=[(0,.d (zh l)),(3,.d (int i))],own:=[]}) (λi=>i<=l.length/\∀ e∈l.take i,e.main≠0->0<=yF l e.main) (λi=>l.length-i) 0 (by simp) (by simp+decide[int,zh]) ?_
 intro i ⟨hi,L⟩
 by_cases H:i<l.length
 .have G:(i:Int)<l.length:=by omega
  obtain⟨e,ee⟩:∃ e,l[i]=e:=⟨_,rfl⟩;have e1:l[i]?=some e:=by rw[List.getElem?_eq_getElem H,ee]
  have hsn:=yr H;rw[ee] at hsn;have K:(e.main≠0->0<=yF l e.main)->∀ x∈l.take (i+1),x.main≠0->0<=yF l x.main:=by
   intro h x M;rw[hsn] at M;rcases List.mem_append.1 M with O | O
   .exact L x O
   .rw[List.mem_singleton] at O;rw[O];exact h
  by_cases Q:e.main=0
  .have T:=K (λh=>absurd Q h)
   simp+decide[int,zh,Ent.row,H,G,ee,e1,Q,I64];exact⟨⟨by omega,by omega⟩,i+1,⟨H,T⟩,by omega,by omega⟩
  .simp+decide[int,zh,Ent.row,H,G,ee,e1,Q,I64]
   refine zg (Wa l e.main (by omega)) ?_
   by_cases c1:yF l e.main<0
   .simp+decide[int,c1]
   .have T:=K (λ_=>by omega)
    simp+decide[int,c1,I64,zh];exact⟨⟨by omega,by omega⟩,i+1,⟨H,T⟩,by omega,by omega⟩
 .have:i=l.length:=by omega
  subst this;rw[List.take_length] at L;simp+decide[int,zh];refine zm mixed (λi:Nat=>{n:=44,next:=0,slots:=[(0,.d (zh l)),(4,.d (int i))],own:=[]}) (λi=>i<=l.length/\∀ e∈l.take i,(qV l (l.length+1) e.id).length<=l.length) (λi=>l.length-i) 0 (by simp) (by simp+decide[int,zh]) ?_
  intro j ⟨V,X⟩;by_cases F:j<l.length
  .have E:(j:Int)<l.length:=by omega
   obtain⟨e,ee⟩:∃ e,l[j]=e:=⟨_,rfl⟩;have e1:l[j]?=some e:=by rw[List.getElem?_eq_getElem F,ee]
   have hsn:=yr F;rw[ee] at hsn;simp+decide[int,zh,Ent.row,F,E,ee,e1,I64];refine zg (OO l e.id (by omega)) ?_
   by_cases c1:l.length<(qV l (l.length+1) e.id).length
   .have c1':(l.length:Int)<(qV l (l.length+1) e.id).length:=by omega
    simp+decide[int,ints,zh,c1,c1']
   .have c1':¬(l.length:Int)<(qV l (l.length+1) e.id).length:=by omega
    simp+decide[int,ints,zh,c1,c1',I64];refine⟨⟨by omega,by omega⟩,j+1,⟨F,λx M=>?_⟩,by omega,by omega⟩
    rw[hsn] at M;rcases List.mem_append.1 M with O | O
    .exact X x O
    .rw[List.mem_singleton] at O;rw[O];omega
  .have:j=l.length:=by omega
   subst this;rw[List.take_length] at X;simp+decide[int,zh];exact⟨L,X⟩
theorem KI{s:ByteArray}(h:yR s=true):0<s.size/\s.size<=32:=by
 unfold yR at h
 simp only[Bool.and_eq_true,decide_eq_true_eq] at h
 omega
structure UnitF(u:Grap):Prop where
 pos:0<u.graph.size
 size:u.graph.size<=32
 segs:1<=u.segs.length
 few:u.segs.length<=3
 lab:yR u.graph=true
theorem Ai(s:ByteArray)(hs:s.size<=1048576):xy Tryz.prog 145 [.str s] (λx=>∃ b,x = .bool b/\(b=true->yR s=true)):=by
 refine qb mixed Tryz.func145 rfl c_145 ?_
 simp+decide[Tryz.f145,int]
 refine zm mixed (λk:Nat=>{n:=16,next:=0,slots:=[(0,.d (.str s)),(3,.d (int k))],own:=[]})
  (λk=>k<=s.size) (λk=>s.size-k) 0 (by simp) (by simp+decide[int]) ?_
 intro k F
 by_cases G:k<s.size
 .have H:(k:Int)<s.size:=by omega
  have e1:byteAt s (k:Int)=(zp s k:Int):=uG s k
  by_cases b1:(zp s k:Int)=32
  .simp+decide[int,G,H,e1,b1]
  .simp+decide[int,G,H,e1,b1,I64]
   exact⟨⟨by omega,by omega⟩,k+1,G,by omega,by omega⟩
 .have H:¬(k:Int)<s.size:=by omega
  simp+decide[int,H];refine zg (DG s hs) ?_
  simp+decide[int]
theorem Aj(inv:List Phon)(o:Orth)(Q:OrthC o)(i:Nat)(hi:i<o.units.length)(T:inv.length<2^40):xy Tryz.prog 144 [.agg [zF inv],.agg o.cells,int i] (λx=>∃ n,x=int n/\(n=0->∀ u,o.units[i]?=some u->UnitF u)):=by
 refine qb mixed Tryz.func144 rfl c_144 ?_
 have M:(i:Int)<o.units.length:=by omega
 have V:=Q.units o.units[i] (List.getElem_mem hi)
 have O:=Q.few.1
 obtain⟨u,eu⟩:∃ u,o.units[i]=u:=⟨_,rfl⟩
 have eu1:o.units[i]?=some u:=by rw[List.getElem?_eq_getElem hi,eu]
 rw[eu] at V
 rw[eu1]
 simp+decide[Tryz.f144,int,Orth.cells,zG,hi,M,eu,eu1,Grap.row]
 refine zC.some (by rfl) (Ai u.graph V.1) ?_
 rintro r ⟨b,rfl,G⟩
 cases b with
 |false=>simp+decide[int]
 |true=>
  have G:=G rfl;simp+decide[int];refine zm mixed (λk:Nat=>{n:=67,next:=3,slots:=[(2,.d (int i)),(3,.bp 0 0),(4,.bp 1 0),(7,.bp 2 0),(8,.d (int k))],own:=[(0,.box 24 [.d (zF inv)]),(1,.box 28 (o.cells.map .d)),(2,.box 143 [.d (.str u.graph),.d (ints u.segs)])]})
   (λk=>k<=i) (λk=>i-k) 0 (by simp) (by simp+decide[int,ints,Orth.cells,zG,Grap.row]) ?_
  intro k X;by_cases E:k<i
  .have H:(k:Int)<i:=by omega
   have L:k<o.units.length:=by omega
   have K:(k:Int)<o.units.length:=by omega
   obtain⟨x,ex⟩:∃ x,o.units[k]=x:=⟨_,rfl⟩;have ex1:o.units[k]?=some x:=by rw[List.getElem?_eq_getElem L,ex]
   by_cases b1:x.graph=u.graph
   .simp+decide[int,ints,Orth.cells,zG,Grap.row,E,H,L,K,ex,ex1,b1]
   .simp+decide[int,ints,Orth.cells,zG,Grap.row,E,H,L,K,ex,ex1,b1,I64]
    first | exact λ_=>⟨⟨by omega,by omega⟩,k+1,E,by omega,by omega⟩ | exact⟨⟨by omega,by omega⟩,k+1,E,by omega,by omega⟩
  .have H:¬(k:Int)<i:=by omega
   by_cases c1:(u.segs.length:Int)<1
   .simp+decide[int,ints,Orth.cells,zG,Grap.row,E,H,c1]
   .by_cases c2:(3:Int)<u.segs.length
    .simp+decide[int,ints,Orth.cells,zG,Grap.row,E,H,c1,c2]
    .simp+decide[int,ints,Orth.cells,zG,Grap.row,E,H,c1,c2]
     refine zm mixed (λm:Nat=>{n:=67,next:=3,slots:=[(2,.d (int i)),(3,.bp 0 0),(4,.bp 1 0),(7,.bp 2 0),(9,.d (int m))],own:=[(0,.box 24 [.d (zF inv)]),(1,.box 28 (o.cells.map .d)),(2,.box 143 [.d (.str u.graph),.d (ints u.segs)])]})
      (λm=>m<=u.segs.length) (λm=>u.segs.length-m) 0 (by simp) (by simp+decide[int,ints,Orth.cells,zG,Grap.row]) ?_
     intro m Y;by_cases J:m<u.segs.length
     .have F:(m:Int)<u.segs.length:=by omega
      obtain⟨y,ey⟩:∃ y,u.segs[m]=y:=⟨_,rfl⟩;have ey1:u.segs[m]?=some y:=by rw[List.getElem?_eq_getElem J,ey]
      by_cases b1:y<1
      .simp+decide[int,ints,J,F,ey,ey1,b1]
      .by_cases b2:(inv.length:Int)<y
       .simp+decide[int,ints,zF,J,F,ey,ey1,b1,b2]
       .simp+decide[int,ints,zF,J,F,ey,ey1,b1,b2,I64]
        exact⟨⟨by omega,by omega⟩,m+1,J,by omega,by omega,by simp[Orth.cells,Sym.los,Sym.lo]⟩
     .have F:¬(m:Int)<u.segs.length:=by omega
      simp+decide[int,ints,F];exact⟨(KI G).1,(KI G).2,by omega,by omega,G⟩
theorem Ak(inv:List Phon)(o:Orth)(Y:OrthC o)(Z:inv.length<2^40):xy Tryz.prog 87 [.agg [zF inv],.agg o.cells] (λx=>∃ n,x=int n/\(n=0->∀ u∈o.units,UnitF u)):=by
 have Q:=Y.few
 refine qb mixed Tryz.func87 rfl c_87 ?_
 simp+decide[Tryz.f87,int,Orth.cells]
 refine zg (Dj o.name (by have:=Y.name;omega)) ?_
 cases X:nameP o.name with
 |false=>simp+decide[int]
 |true=>
  by_cases A:(100:Int)<o.units.length
  .simp+decide[int,zG,A]
  simp+decide[int,zG,A];refine zm mixed (λk:Nat=>{n:=79,next:=2,slots:=[(2,.bp 0 0),(3,.bp 1 0),(5,.d (int k))],own:=[(0,.box 24 [.d (zF inv)]),(1,.box 28 (o.cells.map .d))]})
   (λk=>k<=o.units.length/\∀ u∈o.units.take k,UnitF u) (λk=>o.units.length-k) 0 (by simp) (by simp+decide[int,zG,Orth.cells]) ?_
  intro k ⟨B,M⟩;by_cases K:k<o.units.length
  .have G:(k:Int)<o.units.length:=by omega
   simp+decide[int,zG,K,G,Orth.cells];refine zC.some (by rfl) (Aj inv o Y k K Z) ?_
   rintro r ⟨e,rfl,O⟩
   by_cases C:e=0
   .subst C
    simp+decide[int,I64];exact⟨⟨by omega,by omega⟩,k+1,⟨K,λu I=>by
     rw[yr K] at I;rcases List.mem_append.1 I with h | h
     .exact M u h
     .rw[List.mem_singleton] at h
      exact O rfl u (by rw[List.getElem?_eq_getElem K,h])⟩,by omega,by simp[Orth.cells,Sym.los,Sym.lo,zG]⟩
   .simp+decide[int,C]
  .have G:¬(k:Int)<o.units.length:=by omega
   have:k=o.units.length:=by omega
   subst this;rw[List.take_length] at M;by_cases N:(100:Int)<o.letters.length
   .simp+decide[int,zG,j3,G,N,Orth.cells]
   simp+decide[int,zG,j3,G,N,Orth.cells];refine zm mixed (λx:Nat×List ByteArray=>{n:=79,next:=3,slots:=[(2,.bp 0 0),(3,.bp 1 0),(7,.ar 2),(8,.d (int x.1))],own:=[(0,.box 24 [.d (zF inv)]),(1,.box 28 (o.cells.map .d)),(2,.arr 9 1 (x.2.map λs=>[.str s]))],moved:=[2]})
    (λx=>x.1<=o.letters.length/\x.2.length<=x.1*1048576) (λx=>o.letters.length-x.1) (0,[]) (by simp) (by simp+decide[int,zG,j3,Orth.cells]) ?_
   rintro⟨i,seen⟩ ⟨hi,hs⟩
   simp only at hi hs
   by_cases F:i<o.letters.length
   .have H:(i:Int)<o.letters.length:=by omega
    have P:=Y.letters o.letters[i] (List.getElem_mem F);obtain⟨L,eL⟩:∃ L,o.letters[i]=L:=⟨_,rfl⟩;have eL1:o.letters[i]?=some L:=by rw[List.getElem?_eq_getElem F,eL]
    rw[eL] at P;by_cases S:L.length=0
    .simp+decide[int,zG,j3,Orth.cells,F,H,eL,eL1,S]
    have T:¬(L.length:Int)=0:=by omega
    simp+decide[int,zG,j3,Orth.cells,F,H,eL,eL1,S,T];refine zm mixed (λx:Nat×List ByteArray=>{n:=79,next:=3,slots:=[(2,.bp 0 0),(3,.bp 1 0),(7,.ar 2),(8,.d (int i)),(9,.d (int x.1))],own:=[(0,.box 24 [.d (zF inv)]),(1,.box 28 (o.cells.map .d)),(2,.arr 9 1 (x.2.map λs=>[.str s]))],moved:=[2]})
     (λx=>x.1<=L.length/\x.2.length<=i*1048576+x.1) (λx=>L.length-x.1) (0,seen) (by simpa using hs) (by simp+decide[int,zG,j3,Orth.cells]) ?_
    rintro⟨m,sn⟩ ⟨W,V⟩
    simp only at W V
    by_cases J:m<L.length
    .have E:(m:Int)<L.length:=by omega
     have hS:=P.2 L[m] (List.getElem_mem J);obtain⟨y,ey⟩:∃ y,L[m]=y:=⟨_,rfl⟩;have ey1:L[m]?=some y:=by rw[List.getElem?_eq_getElem J,ey]
     rw[ey] at hS;simp+decide[int,zG,j3,Orth.cells,F,H,eL,eL1,J,E,ey,ey1];refine zC.some (by rfl) (P3 y hS) ?_
     rintro r ⟨b,rfl⟩
     cases b with
     |false=>simp+decide[int]
     |true=>
      simp+decide[int];refine zC.some (by rfl) (P5 sn y (by omega)) ?_
      rintro r ⟨b,rfl⟩
      cases b with
      |true=>simp+decide[int]
      |false=>
       simp+decide[int,I64];exact⟨by omega,by unfold maxLen;omega,⟨by omega,by omega⟩,m+1,sn++[y],⟨J,by rw[List.length_append];simp;omega⟩,by omega,by omega,by simp⟩
    .have E:¬(m:Int)<L.length:=by omega
     simp+decide[int,zG,j3,Orth.cells,F,H,eL,eL1,E,I64];exact⟨⟨by omega,by omega⟩,i+1,sn,⟨F,by omega⟩,by omega,by omega,rfl⟩
   .have H:¬(i:Int)<o.letters.length:=by omega
    simp+decide[int,zG,j3,H,Orth.cells];exact M
structure SmallL(l:List Ent):Prop where
 few:l.length<=5
 forms:∀ e∈l,e.form.length<=3/\e.alts.length<=1/\∀ w∈e.alts,w.length<=3
theorem Am(l:List Ent)(J:l.length<=1048576):xy Tryz.prog 38 [zh l] (λx=>∃ b,x = .bool b/\(b=true->SmallL l)):=by
 refine qb mixed Tryz.func38 rfl c_38 ?_
 by_cases L:(5:Int)<l.length
 .simp+decide[Tryz.f38,int,zh,L]
 simp+decide[Tryz.f38,int,zh,L]
 refine zm mixed (λi:Nat=>{n:=50,next:=0,slots:=[(0,.d (zh l)),(3,.d (int i))],own:=[]}) (λi=>i<=l.length/\∀ e∈l.take i,e.form.length<=3/\e.alts.length<=1/\∀ w∈e.alts,w.length<=3) (λi=>l.length-i) 0 (by simp) (by simp+decide[int,zh]) ?_
 intro i ⟨hi,M⟩
 by_cases G:i<l.length
 .have H:(i:Int)<l.length:=by omega
  obtain⟨e,ee⟩:∃ e,l[i]=e:=⟨_,rfl⟩;have e1:l[i]?=some e:=by rw[List.getElem?_eq_getElem G,ee]
  have hsn:=yr G;rw[ee] at hsn;by_cases c1:(3:Int)<e.form.length
  .simp+decide[int,ints,zh,Ent.row,G,H,ee,e1,c1]
  by_cases c2:(1:Int)<e.alts.length
  .simp+decide[int,ints,zh,xq,Ent.row,G,H,ee,e1,c1,c2]
  simp+decide[int,ints,zh,xq,Ent.row,G,H,ee,e1,c1,c2];refine zm mixed (λk:Nat=>{n:=50,next:=0,slots:=[(0,.d (zh l)),(3,.d (int i)),(4,.d (int k))],own:=[]}) (λk=>k<=e.alts.length/\∀ w∈e.alts.take k,w.length<=3) (λk=>e.alts.length-k) 0 (by simp) (by simp+decide[int,zh]) ?_
  intro k ⟨O,Q⟩;by_cases F:k<e.alts.length
  .have E:(k:Int)<e.alts.length:=by omega
   obtain⟨w,ew⟩:∃ w,e.alts[k]=w:=⟨_,rfl⟩;have ew1:e.alts[k]?=some w:=by rw[List.getElem?_eq_getElem F,ew]
   have K:=yr F;rw[ew] at K;by_cases c3:(3:Int)<w.length
   .simp+decide[int,ints,zh,xq,Ent.row,G,H,ee,e1,F,E,ew,ew1,c3]
   .simp+decide[int,ints,zh,xq,Ent.row,G,H,ee,e1,F,E,ew,ew1,c3,I64]
    refine⟨⟨by omega,by omega⟩,k+1,⟨F,λx T=>?_⟩,by omega,by omega⟩
    rw[K] at T;rcases List.mem_append.1 T with V | V
    .exact Q x V
    .rw[List.mem_singleton] at V;rw[V];omega
  .have:k=e.alts.length:=by omega
   subst this;rw[List.take_length] at Q;simp+decide[int,ints,zh,xq,Ent.row,G,H,ee,e1,I64];refine⟨⟨by omega,by omega⟩,i+1,⟨G,λx T=>?_⟩,by omega,by omega⟩
   rw[hsn] at T;rcases List.mem_append.1 T with V | V
   .exact M x V
   .rw[List.mem_singleton] at V;rw[V];exact⟨by omega,by omega,Q⟩
 .have:i=l.length:=by omega
  subst this;rw[List.take_length] at M;simp+decide[int,zh];exact⟨by omega,M⟩
structure LangC(g:Lang):Prop where
 inv:Dq g.inv
 orth:OrthC g.orth
 rules:RulesC g.rules
 steps:g.net.steps.length<=1048576
 final:g.net.final.length<=1048576
 lex:LexC g.lex
structure RightF(g:Lang):Prop where
 rules:∀ r∈g.rules,RuleL r
 YD:∀ r∈g.rules,V7 g.inv r
 net:NetF g.net
 lex:LexF g.inv g.lex
 main:MainF g.lex
 units1:∀ u∈g.orth.units,UnitF u
theorem RightF.graphs{g:Lang}(h:RightF g):∀ u∈g.orth.units,0<u.graph.size:=λu H=>(h.units1 u H).pos
theorem An(g:Lang)(G:LangC g)(F:g.lex.length<=5):xy Tryz.prog 39 [g.d] (λx=>∃ n,x=int n/\(n=0->RightF g)):=by
 have H:=G.inv.1
 refine qb mixed Tryz.func39 rfl c_39 ?_
 simp+decide[Tryz.f39,int,Lang.d]
 refine zC.some (by rfl) (Pq g.inv G.inv) ?_
 rintro r ⟨n,rfl⟩
 by_cases z1:n=0
 case neg=>simp+decide[int,z1]
 simp+decide[int,z1]
 refine zC.some (by rfl) (Ak g.inv g.orth G.orth (by omega)) ?_
 rintro r ⟨n,rfl,E⟩
 by_cases z2:n=0
 case neg=>simp+decide[int,z2]
 have E:=E z2
 simp+decide[int,z2]
 refine zC.some (by rfl) (PL g G.rules) ?_
 rintro r ⟨n,rfl,K⟩
 by_cases z3:n=0
 case neg=>simp+decide[int,z3]
 have K:=K z3
 simp+decide[int,z3]
 refine zC.some (by rfl) (PN g.net G.steps G.final) ?_
 rintro r ⟨n,rfl,J⟩
 by_cases z4:n=0
 case neg=>simp+decide[int,z4]
 have J:=J z4
 simp+decide[int,z4]
 refine zC.some (by rfl) (Ab g.inv g.lex G.lex) ?_
 rintro r ⟨n,rfl,L⟩
 by_cases z5:n=0
 case neg=>simp+decide[int,z5]
 have L:=L z5
 simp+decide[int,z5]
 refine zC.some (by rfl) (Af g.lex F λe M=>(L.each e M).links) ?_
 rintro r ⟨n,rfl⟩
 by_cases z6:n=0
 case neg=>simp+decide[int,z6]
 simp+decide[int,z6]
 refine zC.some (by rfl) (Ah g.lex (by omega)) ?_
 rintro r ⟨n,rfl,O⟩
 simp+decide[int]
 exact λh=>⟨λr Q=>(K r Q).1,λr Q=>(K r Q).2,J,L,O h,E⟩
structure LightF(g:Lang):Prop extends RightF g where
 small:SmallL g.lex
 segs:g.inv.length<=8
 units:g.orth.units.length<=10
 few:g.rules.length<=2
 states:g.net.states<=3
 steps:g.net.steps.length<=6
 final:g.net.final.length<=3
theorem Ao(g:Lang)(K:LangC g):xy Tryz.prog 12 [g.d] (λx=>∃ b,x = .bool b/\(b=true->LightF g)):=by
 have F:=K.lex.few
 have E:=K.rules.few
 refine qb mixed Tryz.func12 rfl c_12 ?_
 by_cases c1:(8:Int)<g.inv.length
 .simp+decide[Tryz.f12,int,Lang.d,zF,c1]
 by_cases c2:(10:Int)<g.orth.units.length
 .simp+decide[Tryz.f12,int,Lang.d,zF,zG,c1,c2]
 by_cases c3:(2:Int)<g.rules.length
 .simp+decide[Tryz.f12,int,Lang.d,zF,zG,xC,c1,c2,c3]
 by_cases c4:3<g.net.states
 .simp+decide[Tryz.f12,int,Lang.d,zF,zG,xC,c1,c2,c3,c4]
 by_cases c5:(6:Int)<g.net.steps.length
 .simp+decide[Tryz.f12,int,Lang.d,zF,zG,xC,stepsD,c1,c2,c3,c4,c5]
 by_cases c6:(3:Int)<g.net.final.length
 .simp+decide[Tryz.f12,int,ints,Lang.d,zF,zG,xC,stepsD,c1,c2,c3,c4,c5,c6]
 simp+decide[Tryz.f12,int,ints,Lang.d,zF,zG,xC,stepsD,c1,c2,c3,c4,c5,c6]
 refine zC.some (by rfl) (Am g.lex F) ?_
 rintro r ⟨b,rfl,J⟩
 cases b with
 |false=>simp+decide[int]
 |true=>
  have J:=J rfl;simp+decide[int];refine zm mixed (λk:Nat=>{n:=66,next:=1,slots:=[(1,.bp 0 0),(3,.d (int k))],own:=[(0,.box 36 (yi g.d))]})
   (λk=>k<=g.rules.length) (λk=>g.rules.length-k) 0 (by simp) (by simp+decide[int,ints,zF,zG,xC,stepsD,yi,Lang.d]) ?_
  intro k L;by_cases G:k<g.rules.length
  .have H:(k:Int)<g.rules.length:=by omega
   obtain⟨r,er⟩:∃ r,g.rules[k]=r:=⟨_,rfl⟩;have er1:g.rules[k]?=some r:=by rw[List.getElem?_eq_getElem G,er]
   by_cases d1:(8:Int)<r.src.length
   .simp+decide[int,ints,xC,yi,Lang.d,G,H,er,er1,Rule.row,d1]
   .simp+decide[int,ints,xC,yi,Lang.d,G,H,er,er1,Rule.row,d1,I64]
    exact⟨⟨by omega,by omega⟩,k+1,G,by omega,by omega⟩
  .have H:¬(k:Int)<g.rules.length:=by omega
   simp+decide[int,xC,yi,Lang.d,H];refine zC.some (by rfl) (An g K J.few) ?_
   rintro r ⟨n,rfl,M⟩
   simp+decide[int];by_cases z:n=0
   .exact .inr ⟨z,M z,J,by omega,by omega,by omega,by omega,by omega,by omega⟩
   .exact .inl z
theorem LightF.BK{g:Lang}(h:LightF g):NetL g.net:=
 {lo:=h.net.lo,hi:=h.states,steps:=λs hs=>⟨(h.net.steps s hs).1,(h.net.steps s hs).2.1,(h.net.steps s hs).2.2.1⟩,final:=h.net.final,few:=by have:=h.steps;omega,few2:=by have:=h.final;omega}
theorem LightF.BL{g:Lang}(h:LightF g)(G:LangC g):LangR g:=by
 have hs:=h.small
 have H:∀ e∈g.lex,∀ w∈e.forms,WordF g.inv w:=by
  intro e F w E;have K:=h.lex.each e F;rcases List.mem_cons.1 E with e1 | e1
  .rw[e1];exact K.form
  .exact K.alts w e1
 refine {lex:=⟨by have:=hs.few;omega,λe F=>by have:=(hs.forms e F).2.1;omega,λe F w E=>by have:=(H e F w E).len;omega,λe F=>by have:=(G.lex.each e F).senses.1;omega⟩,inv:=by have:=h.segs;omega,rules:=⟨λr J=>(h.rules r J).toRuleOk,by have:=h.few;omega⟩,net:=h.BK.ok,light:=h.BK,rulesL:=h.rules,nz:=λe F w E x L=>?_}
 have:=(H e F w E).segs x L
 simp only[xQ,Bool.and_eq_true,decide_eq_true_eq] at this
 omega
end Go.V
namespace Go.V
open Go Go.Proofs
section
variable (g:Lang) (w:List Int)
def Ap:Nat:=if FN g.rules=true then 24 else w.length
def Aq(b:List Prt):Bool:=decide (w.length<=(xM g.lex b).length)&&X1 g w b
def BM:Nat->List Prt->List (List Prt)
 |0,_=>[]
 |f+1,a=>g.lex.flatMap λe=>if e.cls∈A4 g.net (j7 g.lex a) 20 then ((List.range e.forms.length).flatMap λ(alt:Nat)=>
   if Ap g w<(xM g.lex (a++[⟨e.id,alt,0⟩])).length then [] else (if Aq g w (a++[⟨e.id,alt,0⟩])=true then [a++[⟨e.id,alt,0⟩]] else [])++BM f (a++[⟨e.id,alt,0⟩])) else []
def Ar(base:List Int):Bool:=decide (vM g.inv g.rules base≠[])&&decide (vM g.inv g.rules base=w)
end
end Go.V
namespace Go.V
open Go Go.Proofs
def keyS(base:List Int):ByteArray:=⟨(base.map λx=>UInt8.ofNat (IntKind.u8.wrap x).toNat).toArray⟩
def As(g:Lang)(w:List Int)(tr:List (List Int)):List (List D):=tr.map λb=>[.str (keyS b),.bool (Ar g w b)]
def BN(g:Lang)(w:List Int)(tr:List (List Int))(fn:Sym)(rest:List (Nat×Obj')):List (Nat×Obj'):=
 (0,.box 327 (yi g.d++[.d (ints w),.d (.bool (FN g.rules)),.d (u32 (j6 g.net.final)),.mp 1,fn]))::(1,.map 325 (As g w tr))::rest
structure RestOk(n:Nat)(fn:Sym)(rest:List (Nat×Obj')):Prop where
 two:2<=n
 keys:(rest.map (·.1)).Nodup
 ids:∀ id o,(id,o)∈rest->2<=id/\id<n/\o.lo n
 range:0::1::rest.map (·.1)=List.range n
 thawed:∀ k x,n<=k->xw k x rest=rest
 thawC:∀ k x,n<=k->thaw k x fn=fn
 fn:Sym.lo n fn
end Go.V
namespace Go.V
open Go Go.Proofs
section
variable {ρ:Nat->Nat} {m:Nat}
mutual
theorem Au(h:∀ i,i<m->ρ i=i):∀ {s:Sym},Sym.lo m s->ren ρ s=s
 |.bp i o,hl=>by simp only[Sym.lo] at hl;simp only[ren,h i hl]
 |.ar i,hl=>by simp only[Sym.lo] at hl;simp only[ren,h i hl]
 |.ap i s j o,hl=>by simp only[Sym.lo] at hl;simp only[ren,h i hl]
 |.aS i s j o,hl=>by simp only[Sym.lo] at hl;simp only[ren,h i hl]
 |.av i s j o,hl=>by simp only[Sym.lo] at hl;simp only[ren,h i hl]
 |.yd i,hl=>by simp only[Sym.lo] at hl;simp only[ren,h i hl]
 |.mp i,hl=>by simp only[Sym.lo] at hl;simp only[ren,h i hl]
 |.tup l,hl=>by simp only[Sym.lo] at hl;simp only[ren,Vu h hl]
 |.agg l,hl=>by simp only[Sym.lo] at hl;simp only[ren,Vu h hl]
 |.fn f l,hl=>by simp only[Sym.lo] at hl;simp only[ren,Vu h hl]
 |.d x,_=>rfl
 |.nils,_=>rfl
 |.junk,_=>rfl
theorem Vu(h:∀ i,i<m->ρ i=i):∀ {l:List Sym},Sym.los m l->yl ρ l=l
 | [],_=>rfl
 |s::l,hl=>by
  simp only[Sym.los] at hl;simp only[yl,Au h hl.1,Vu h hl.2]
end
mutual
theorem Av:∀ (s:Sym),zI [] s=s
 |.bp _ _=>by simp[zI]
 |.ar _=>by simp[zI]
 |.ap _ _ _ _=>by simp[zI]
 |.aS _ _ _ _=>by simp[zI]
 |.av _ _ _ _=>by simp[zI]
 |.yd _=>by simp[zI]
 |.mp _=>by simp[zI]
 |.tup l=>by simp[zI,Vv l]
 |.agg l=>by simp[zI,Vv l]
 |.fn f l=>by simp[zI,Vv l]
 |.d _=>by simp[zI]
 |.nils=>by simp[zI]
 |.junk=>by simp[zI]
theorem Vv:∀ (l:List Sym),qh [] l=l
 | []=>by simp[qh]
 |s::l=>by simp[qh,Av s,Vv l]
end
end
mutual
theorem Aw{k m:Nat}(h:m<=k):∀ {s:Sym},Sym.lo m s->zo k s=s
 |.bp i o,hl=>by simp only[Sym.lo] at hl;simp only[zo];rw[if_neg (by omega)]
 |.ar i,hl=>by simp only[Sym.lo] at hl;simp only[zo];rw[if_neg (by omega)]
 |.ap i s j o,hl=>by simp only[Sym.lo] at hl;simp only[zo];rw[if_neg (by omega)]
 |.aS i s j o,hl=>by simp only[Sym.lo] at hl;simp only[zo];rw[if_neg (by omega)]
 |.av i s j o,hl=>by simp only[Sym.lo] at hl;simp only[zo];rw[if_neg (by omega)]
 |.yd i,hl=>by simp only[Sym.lo] at hl;simp only[zo];rw[if_neg (by omega)]
 |.mp i,hl=>by simp only[Sym.lo] at hl;simp only[zo];rw[if_neg (by omega)]
 |.tup l,hl=>by simp only[Sym.lo] at hl;simp only[zo,Vw h hl]
 |.agg l,hl=>by simp only[Sym.lo] at hl;simp only[zo,Vw h hl]
 |.fn f l,hl=>by simp only[Sym.lo] at hl;simp only[zo,Vw h hl]
 |.d x,_=>rfl
 |.nils,_=>rfl
 |.junk,_=>rfl
theorem Vw{k m:Nat}(h:m<=k):∀ {l:List Sym},Sym.los m l->yk k l=l
 | [],_=>rfl
 |s::l,hl=>by
  simp only[Sym.los] at hl;simp only[yk,Aw h hl.1,Vw h hl.2]
end
end Go.V
namespace Go.V
open Go Go.Proofs
section
variable {σ:Type}
structure Clo(P:Program)(g:Lang)(w:List Int)(σ:Type) where
 F:σ->List Prt->List Int->σ×Bool
 rest:σ->List (Nat×Obj')
 fid:Nat
 caps:List Sym
 n:Nat
 mv:List Nat
 mvOk:∀ i∈mv,2<=i/\i<n
 mvCaps:qh mv caps=caps
 Inv:Nat->σ->Prop
 ok:∀ x,RestOk n (.fn fid caps) (rest x)
 mono:∀ k x,Inv k x->Inv (k+1) x
 call:∀ k x tr a base,Inv k x->k<2^20->a.length<=4->base.length<=24 ->
  zA P fid (.d (y9 a) :: .d (ints base)::caps) (BN g w tr (.fn fid caps) (rest x)) n (.d (.bool (F x a base).2)) n (BN g w tr (.fn fid caps) (rest (F x a base).1)) mv/\Inv (k+1) (F x a base).1
variable {P:Program} (g:Lang) (w:List Int) (C:Clo P g w σ)
end
end Go.V
namespace Go.V
open Go Go.Proofs
end Go.V
namespace Go.V
open Go Go.Proofs
section
variable {σ:Type}
def sF(F:σ->List Prt->List Int->σ×Bool):σ×Bool->List (List Prt×List Int)->σ×Bool
 |z,[]=>z
 |z,(p,b)::r=>if z.2=false then z else sF F (F z.1 p b) r
variable {P:Program} (g:Lang) (w:List Int) (C:Clo P g w σ)
end
def Ax(g:Lang)(w:List Int):List (List Prt):=if w.length=0\/24<w.length then [] else BM g w 4 []
end Go.V
namespace Go.V
open Go Go.Proofs
def KJ{α:Type}(lt:α->Bool)(l:List α):Nat->Nat
 |0=>0
 |i+1=>match l[i]? with
  |some y=>if lt y=true then KJ lt l i else i+1
  |none=>i+1
def insL{α:Type}(lt:α->Bool)(x:α)(l:List α):List α:=l.take (KJ lt l l.length)++x::l.drop (KJ lt l l.length)
noncomputable instance decBytes(k:ByteArray)(l:List ByteArray):Decidable (k∈l):=Classical.propDecidable _
end Go.V

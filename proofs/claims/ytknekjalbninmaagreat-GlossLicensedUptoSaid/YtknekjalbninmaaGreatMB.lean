/- Contracts and plain laws of this seat: part MB. It needs no conditions. -/
import Derived.Test.YtknekjalbninmaaGreatMA
import Derived.Test.YtknekjalbninmaaGreatU0
import Derived.Test.YtknekjalbninmaaGreatX9
import Derived.Test.YtknekjalbninmaaGreatProg
import Derived.KernelRfl
import Derived.Test.YtknekjalbninmaaGreatSh
import Derived.Test.YtknekjalbninmaaGreatSq
set_option maxHeartbeats 32000000
set_option linter.unusedVariables false
set_option linter.unusedSimpArgs false
set_option linter.unusedSectionVars false
set_option maxRecDepth 100000
namespace Go.V.Doc
open Go Go.Proofs
def zT(k:Int):Bool:=decide (k=0) || decide (k=1) || decide (k=2)
def Qg(l:List Tir)(i:Int):Bool:=decide (0<=i)&&decide (i<l.length)&&zT (l[i.toNat]?.getD default).kind
def ZI(l:List Tir)(name:ByteArray):Bool:=l.any λt=>decide (t.name=name)
def uf(l:List Tir)(role:Int):Bool:=!decide (role=0)&&l.any λt=>decide (t.role=role)
def gU(pr tk tr:Int):Int:=
 if tr=1 then (if tk=0 then 0 else 14) else if tr=2 then (if pr=1 then 0 else 13) else if tr=3 then (if tk=3 then (if pr=2 then 0 else 13) else 14)
 else if tr=4 then (if tk=4 then (if pr=3 then 0 else 13) else 14) else if tr=5 then (if tk=4 then (if pr=1 then 0 else 13) else 14) else 0
def qx(before:List Tir)(t:Tir):Int:=
 if nameP t.name=false then 7 else if ZI before t.name=true then 8 else if t.kind<0\/4<t.kind then 14 else if t.role<0\/5<t.role then 2
 else if uf before t.role=true then 8 else if t.kind=0 then (if t.par = -1 then gU (-1) t.kind t.role else 13)
 else if t.par<0\/before.length<=t.par then 13
 else if zT t.kind=true/\zT (before[t.par.toNat]?.getD default).kind=false then 13 else gU (before[t.par.toNat]?.getD default).role t.kind t.role
def gV(l:List Tir):Nat->Nat->Int
 |0,_=>0
 |n+1,i=>if h:i<l.length then (if qx (l.take i) l[i]=0 then gV l n (i+1) else qx (l.take i) l[i]) else 0
def wt(l:List Tir):Int:=if 12<l.length then 11 else gV l l.length 0
theorem gW(k:Int):zj Tryz.prog 189 [int k] (.bool (zT k)):=by
 refine zn mixed Tryz.func189 rfl c_189 ?_
 by_cases H:k=0
 .subst H;simp+decide[Tryz.f189,int,zT]
 by_cases G:k=1
 .subst G;simp+decide[Tryz.f189,int,zT]
 by_cases F:k=2
 .subst F;simp+decide[Tryz.f189,int,zT]
 simp+decide[Tryz.f189,int,zT,H,G,F]
def ug(r:Int):Int:=if r=1 then 0 else if r=3 then 3 else if r=4 then 4 else if r=5 then 4 else -1
def overR(r:Int):Int:=if r=2 then 1 else if r=5 then 1 else if r=3 then 2 else if r=4 then 3 else -1
theorem PT(r:Int):zj Tryz.prog 190 [int r] (int (ug r)):=by
 refine zn mixed Tryz.func190 rfl c_190 ?_
 by_cases H:r=1
 .subst H;simp+decide[Tryz.f190,int,ug]
 by_cases G:r=3
 .subst G;simp+decide[Tryz.f190,int,ug]
 by_cases F:r=4
 .subst F;simp+decide[Tryz.f190,int,ug]
 by_cases E:r=5
 .subst E;simp+decide[Tryz.f190,int,ug]
 simp+decide[Tryz.f190,int,ug,H,G,F,E]
theorem PU(r:Int):zj Tryz.prog 191 [int r] (int (overR r)):=by
 refine zn mixed Tryz.func191 rfl c_191 ?_
 by_cases H:r=2
 .subst H;simp+decide[Tryz.f191,int,overR]
 by_cases G:r=5
 .subst G;simp+decide[Tryz.f191,int,overR]
 by_cases F:r=3
 .subst F;simp+decide[Tryz.f191,int,overR]
 by_cases E:r=4
 .subst E;simp+decide[Tryz.f191,int,overR]
 simp+decide[Tryz.f191,int,overR,H,G,F,E]
theorem U3{α:Type}{l:List α}{p:α->Bool}{k:Nat}(h:k<l.length):(l.take (k+1)).any p=((l.take k).any p || p l[k]):=by
 rw[List.take_succ_eq_append_getElem h,List.any_append];simp
theorem PV{pr tk tr:Int}(h:0<=tr/\tr<=5):gU pr tk tr=if 0<=ug tr/\¬tk=ug tr then 14 else if 0<=overR tr/\¬pr=overR tr then 13 else 0:=by
 rcases(by omega:tr=0\/tr=1\/tr=2\/tr=3\/tr=4\/tr=5) with rfl | rfl | rfl | rfl | rfl | rfl <;> simp[gU,ug,overR] <;> (repeat' split) <;> simp_all
theorem PW(l:List Tir)(i:Nat)(hi:i<l.length)(Y:l.length<2^62)(hs:∀ t∈l,t.name.size<=9223372036854775807):zj Tryz.prog 131 [zK l,int i] (int (qx (l.take i) l[i])):=by
 refine zn mixed Tryz.func131 rfl c_131 ?_
 have V:(i:Int)<l.length:=by omega
 have ei:l[i]?=some l[i]:=List.getElem?_eq_getElem hi
 have F:(l.take i).length=i:=by rw[List.length_take];omega
 have Q:=hs _ (List.getElem_mem hi)
 obtain⟨t,et⟩:∃ t,l[i]=t:=⟨_,rfl⟩
 rw[et] at Q ei ⊢
 obtain⟨nm,kd,rl,pr⟩:=t
 simp+decide[Tryz.f131,zK,Tir.row,int,ei,et,hi,V]
 refine zg (Cd nm Q) ?_
 by_cases Z:nameP nm=true
 case neg=>simp+decide[Z,qx,int]
 simp+decide[Z,int]
 refine zr mixed (λk:Nat=>{n:=136,next:=1,slots:=[(0,.d (zK l)),(1,.d (int i)),(4,.d (int 0)),(5,.bp 0 0),(6,.d (.int .i64 k))],own:=[(0,.box 74 [.d (.str nm),.d (int kd),.d (int rl),.d (int pr)])]})
  (λk=>k<=i/\ZI (l.take k) nm=false) (λk=>i-k) 0 (by simp[ZI]) (by simp+decide[zK,int]) ?_
 rintro k ⟨A,B⟩
 by_cases X:k<i
 .have H:(k:Int)<i:=by omega
  have L:k<l.length:=by omega
  have E:(k:Int)<l.length:=by omega
  have e1:l[k]?=some l[k]:=List.getElem?_eq_getElem L
  have M:ZI (l.take (k+1)) nm=decide (l[k].name=nm):=by unfold ZI at B ⊢;rw[U3 L,B,Bool.false_or]
  by_cases C:l[k].name=nm
  .have I:ZI (l.take i) nm=true:=by
    unfold ZI;rw[List.any_eq_true];exact⟨l[k],by rw[List.mem_take_iff_getElem];exact⟨k,by omega,rfl⟩,by simp[C]⟩
   simp+decide[zK,Tir.row,int,e1,L,E,H,C,qx,Z,I]
  .simp+decide[zK,Tir.row,int,e1,L,E,H,C,I64]
   exact⟨by omega,k+1,⟨by omega,by rw[M];simp[C]⟩,by omega,by omega⟩
 have:k=i:=by omega
 subst this
 by_cases k1:kd<0
 .simp+decide[int,zK,k1,qx,Z,B]
 by_cases k2:4<kd
 .simp+decide[int,zK,k1,k2,qx,Z,B]
 by_cases r1:rl<0
 .simp+decide[int,zK,k1,k2,r1,qx,Z,B]
 by_cases r2:5<rl
 .simp+decide[int,zK,k1,k2,r1,r2,qx,Z,B]
 simp+decide[int,zK,k1,k2,r1,r2]
 refine zr mixed (λj:Nat=>{n:=136,next:=1,slots:=[(0,.d (zK l)),(1,.d (int k)),(4,.d (int 0)),(5,.bp 0 0),(7,.d (.int .i64 j))],own:=[(0,.box 74 [.d (.str nm),.d (int kd),.d (int rl),.d (int pr)])]})
  (λj=>j<=k/\uf (l.take j) rl=false) (λj=>k-j) 0 (by simp[uf]) (by simp+decide[zK,int]) ?_
 rintro j ⟨hj,N⟩
 by_cases X:j<k
 .have H:(j:Int)<k:=by omega
  have J:j<l.length:=by omega
  have G:(j:Int)<l.length:=by omega
  have e1:l[j]?=some l[j]:=List.getElem?_eq_getElem J
  by_cases z:rl=0
  .subst z
   simp+decide[zK,Tir.row,int,e1,J,G,H,I64];exact⟨by omega,j+1,⟨by omega,by simp[uf]⟩,by omega,by omega⟩
  have M:uf (l.take (j+1)) rl=decide (l[j].role=rl):=by
   unfold uf at N ⊢;simp only[z,decide_false,Bool.not_false,Bool.true_and] at N ⊢;rw[U3 J,N,Bool.false_or]
  by_cases C:l[j].role=rl
  .have I:uf (l.take k) rl=true:=by
    unfold uf;simp only[z,decide_false,Bool.not_false,Bool.true_and];rw[List.any_eq_true];exact⟨l[j],by rw[List.mem_take_iff_getElem];exact⟨j,by omega,rfl⟩,by simp[C]⟩
   simp+decide[zK,Tir.row,int,e1,J,G,H,C,qx,Z,B,I,k1,k2,r1,r2,z]
  .simp+decide[zK,Tir.row,int,e1,J,G,H,C,I64,z]
   exact⟨by omega,j+1,⟨by omega,by rw[M];simp[C]⟩,by omega,by omega⟩
 have:j=k:=by omega
 subst this
 have P:qx (l.take j) ⟨nm,kd,rl,pr⟩=if kd=0 then (if pr = -1 then gU (-1) kd rl else 13) else if pr<0\/(j:Int)<=pr then 13 else if zT kd=true/\zT ((l.take j)[pr.toNat]?.getD default).kind=false then 13 else gU ((l.take j)[pr.toNat]?.getD default).role kd rl:=by
  simp only[qx];rw[if_neg (by simp[Z]),if_neg (by simp[B]),if_neg (by omega),if_neg (by omega),if_neg (by simp[N]),F]
 rw[P]
 simp only[PV (show 0<=rl/\rl<=5 by omega)]
 clear P B N Z F
 have S:=PT rl
 have W:=PU rl
 generalize ug rl=K at S ⊢
 generalize overR rl=O at W ⊢
 by_cases k0:kd=0
 .subst k0
  by_cases p0:pr = -1
  case neg=>simp+decide[int,zK,Tir.row,p0]
  subst p0;have g4:0<=O->¬ -1=O:=by omega
  by_cases g2:0=K
  .subst g2
   by_cases g3:0<=O <;> (repeat first | refine scp S ?_ | refine scp W ?_ | refine scp (gW _) ?_ | refine zg (gW _) ?_ | simp+decide[int,zK,Tir.row,g3,g4])
  by_cases g1:0<=K <;> by_cases g3:0<=O <;> (repeat first | refine scp S ?_ | refine scp W ?_ | refine scp (gW _) ?_ | refine zg (gW _) ?_ | simp+decide[int,zK,Tir.row,g1,g2,g3,g4])
 by_cases p0:pr<0
 .simp+decide[int,zK,Tir.row,k0,p0]
 by_cases p1:(j:Int)<=pr
 .simp+decide[int,zK,Tir.row,k0,p0,p1]
 obtain⟨q,rfl⟩:∃ q:Nat,pr=q:=⟨pr.toNat,by omega⟩
 have C:q<l.length:=by omega
 have T:(q:Int)<l.length:=by omega
 obtain⟨u,eu'⟩:∃ u,l[q]=u:=⟨_,rfl⟩
 have eu:l[q]?=some u:=by rw[List.getElem?_eq_getElem C,eu']
 have et:(l.take j)[(q:Int).toNat]?=some u:=by rw[Int.toNat_natCast,List.getElem?_take,if_pos (by omega),eu]
 obtain⟨un,uk,ur,up⟩:=u
 rw[et]
 simp only[Option.getD_some]
 by_cases g2:kd=K
 .subst g2
  have g1:0<=kd:=by omega
  by_cases a1:zT kd=true <;> by_cases a2:zT uk=true <;> by_cases g3:0<=O <;> by_cases g4:ur=O <;>
   (repeat first | refine scp S ?_ | refine scp W ?_ | refine scp (gW _) ?_ | refine zg (gW _) ?_ | simp+decide[int,zK,Tir.row,k0,p0,p1,C,T,eu,eu',a1,a2,g1,g3,g4])
 by_cases a1:zT kd=true <;> by_cases a2:zT uk=true <;> by_cases g1:0<=K <;> by_cases g3:0<=O <;> by_cases g4:ur=O <;>
  (repeat first | refine scp S ?_ | refine scp W ?_ | refine scp (gW _) ?_ | refine zg (gW _) ?_ | simp+decide[int,zK,Tir.row,k0,p0,p1,C,T,eu,eu',a1,a2,g1,g2,g3,g4])
theorem PX(l:List Tir)(E:l.length<2^62)(hs:∀ t∈l,t.name.size<=9223372036854775807):zj Tryz.prog 79 [zK l] (int (wt l)):=by
 refine zn mixed Tryz.func79 rfl c_79 ?_
 by_cases K:12<l.length
 .have H:(12:Int)<l.length:=by omega
  simp+decide[Tryz.f79,zK,int,H,wt,K]
 have H:¬(12:Int)<l.length:=by omega
 simp+decide[Tryz.f79,zK,int,H,wt,K]
 refine zr mixed (λk:Nat=>{n:=20,next:=0,slots:=[(0,.d (zK l)),(3,.d (.int .i64 k))],own:=[]})
  (λk=>k<=l.length/\gV l l.length 0=gV l (l.length-k) k) (λk=>l.length-k) 0 (by simp) (by simp+decide[zK,int]) ?_
 intro k ⟨J,L⟩
 by_cases F:k<l.length
 .have G:(k:Int)<l.length:=by omega
  obtain⟨m,M⟩:∃ m,l.length-k=m+1:=⟨l.length-k-1,by omega⟩
  rw[M] at L;simp only[gV,dif_pos F] at L;simp+decide[zK,int,G];refine zg (PW l k F E hs) ?_
  by_cases O:qx (l.take k) l[k]=0
  .rw[if_pos O] at L
   simp+decide[int,O,I64];exact⟨by omega,k+1,⟨by omega,by rw[L];congr 1;omega⟩,by omega,by simp[zK]⟩
  .rw[if_neg O] at L
   simp+decide[int,O,L]
 .have:k=l.length:=by omega
  subst this;rw[Nat.sub_self] at L;simp+decide[zK,int,L,gV]
end Go.V.Doc
namespace Go.V
open Go Go.Proofs
def Ci(inv:List Phon):Prop:=inv.length<=1048576/\∀ p∈inv,p.name.size<=1048576
theorem PY(inv:List Phon)(hi:Ci inv):xU Tryz.prog 86 [.agg [zI inv]] Je:=by
 obtain⟨M,O⟩:=hi
 refine qV mixed Tryz.func86 rfl c_86 ?_
 by_cases Q:(60:Int)<inv.length
 .simp+decide[Tryz.f86,zI,Q]
 simp+decide[Tryz.f86,zI,Q]
 refine zr mixed (λk:Nat=>{n:=58,next:=1,slots:=[(1,.bp 0 0),(11,.d (int inv.length)),(12,.d (int k))],own:=[(0,.box 24 [.d (zI inv)])]})
  (λk=>k<=inv.length) (λk=>inv.length-k) 0 (by simp) (by simp+decide[int,zI]) ?_
 intro k T
 by_cases F:k<inv.length
 .have H:(k:Int)<inv.length:=by omega
  have J:=O inv[k] (List.getElem_mem F);obtain⟨x,ex⟩:∃ x,inv[k]=x:=⟨_,rfl⟩;have ex1:inv[k]?=some x:=by rw[List.getElem?_eq_getElem F,ex]
  rw[ex] at J;simp+decide[int,zI,F,H,ex,Phon.row];refine zF.some (by rfl) (Cc x.name J) ?_
  rintro r ⟨b,rfl⟩
  cases b with
  |false=>simp+decide
  |true=>
   simp+decide
   refine zr mixed (λm:Nat=>{n:=58,next:=1,slots:=[(1,.bp 0 0),(3,.d (int k)),(4,.d (int m)),(11,.d (int inv.length)),(12,.d (int k))],own:=[(0,.box 24 [.d (zI inv)])]})
    (λm=>m<=k) (λm=>k-m) 0 (by simp) (by simp+decide[int,zI]) ?_
   intro m V;by_cases L:m<k
   .have G:(m:Int)<k:=by omega
    have K:m<inv.length:=by omega
    have E:(m:Int)<inv.length:=by omega
    obtain⟨y,ey⟩:∃ y,inv[m]=y:=⟨_,rfl⟩;have ey1:inv[m]?=some y:=by rw[List.getElem?_eq_getElem K,ey]
    by_cases b1:y.name=x.name
    .simp+decide[int,zI,G,K,E,F,H,ex,ey,Phon.row,b1]
    .simp+decide[int,zI,G,K,E,F,H,ex,ey,Phon.row,I64]
     exact λ_=>⟨⟨by omega,by omega⟩,m+1,L,by omega,by omega⟩
   .have G:¬(m:Int)<k:=by omega
    by_cases b1:x.feat<0
    .simp+decide[int,zI,G,F,H,ex,Phon.row,b1]
    .by_cases b2:65536<=x.feat
     .simp+decide[int,zI,G,F,H,ex,Phon.row,b1,b2]
     .simp+decide[int,zI,G,F,H,ex,Phon.row,b1,b2,I64]
      exact⟨⟨by omega,by omega⟩,k+1,F,by omega,by omega⟩
 .have H:¬(k:Int)<inv.length:=by omega
  simp+decide[int,zI,H]
def jn(l:List (List ByteArray)):List ByteArray:=l.flatten
def yV(l:List Int)(n:Int):Nat:=(l.takeWhile λx=>decide (x<n)).length
def jP(l:List Int)(n:Int):List Int:=l.take (yV l n)++[n]++(if l[yV l n]?=some n then l.drop (yV l n+1) else l.drop (yV l n))
theorem U4{l:List Int}{n:Int}{k:Nat}(H:k<=l.length)(G:∀ x∈l.take k,x<n)(F:∀ h:k<l.length,¬l[k]<n):yV l n=k:=by
 unfold yV
 have e:l=l.take k++l.drop k:=(List.take_append_drop k l).symm
 have E:(l.takeWhile λx=>decide (x<n))=l.take k:=by
  conv=>lhs;rw[e]
  rw[List.takeWhile_append_of_pos (by intro a K;simpa using G a K)]
  by_cases J:k<l.length
  .rw[List.drop_eq_getElem_cons J,List.takeWhile_cons_of_neg (by simpa using F J),List.append_nil]
  .rw[List.drop_eq_nil_of_le (by omega)];simp
 rw[E,List.length_take];omega
theorem PZ(l:List Int)(n:Int)(K:l.length<2^40):zj Tryz.prog 230 [ints l,int n] (ints (jP l n)):=by
 refine Zs mixed Tryz.func230 rfl c_230 [1] ?_
 simp+decide[Tryz.f230,int,ints]
 refine zr mixed (λk:Nat=>{n:=51,next:=2,slots:=[(0,.d (ints l)),(1,.d (int n)),(5,.ar 1),(6,.d (int k))],own:=[(1,.arr 3 1 ((l.take k).map λx=>[int x]))],moved:=[1]})
  (λk=>k<=l.length/\∀ x∈l.take k,x<n) (λk=>l.length-k) 0 (by simp) (by simp+decide[int,ints]) ?_
 rintro k ⟨J,L⟩
 have E:(l.take k).length=k:=by rw[List.length_take];omega
 by_cases H:k<l.length
 .have G:(k:Int)<l.length:=by omega
  have em:l[k]?=some l[k]:=List.getElem?_eq_getElem H
  by_cases M:l[k]<n
  .simp+decide[int,ints,H,G,M,I64]
   refine⟨by omega,by unfold maxLen;omega,⟨by omega,by omega⟩,k+1,⟨H,λx F=>?_⟩,by omega,by omega,?_⟩
   .rw[yu H] at F
    rcases List.mem_append.1 F with h | h
    .exact L x h
    .rw[List.mem_singleton] at h;rw[h];exact M
   .rw[yu (by rw[List.length_map];exact H),List.getElem_map]
  .have O:jP l n=l.take k++[n]++(if l[k]?=some n then l.drop (k+1) else l.drop k):=by
    unfold jP;rw[U4 J L λ_=>M]
   rw[O,em];by_cases Q:l[k]=n
   .rw[if_pos (by rw[Q])]
    simp+decide[int,ints,H,G,Q,I64];refine⟨by omega,by unfold maxLen;omega,⟨by omega,by omega⟩,⟨by omega,by omega⟩,λr T=>?_,by omega,by unfold maxLen;omega,?_⟩
    .have:=List.mem_of_mem_take (List.mem_of_mem_drop T)
     rw[List.mem_map] at this;obtain⟨z,_,rfl⟩:=this;rfl
    .rw[List.take_of_length_le (by simp)]
   .rw[if_neg (by simpa using Q)]
    simp+decide[int,ints,H,G,M,Q];refine⟨by omega,by unfold maxLen;omega,by omega,λr T=>?_,by omega,by unfold maxLen;omega,?_⟩
    .have:=List.mem_of_mem_take (List.mem_of_mem_drop T)
     rw[List.mem_map] at this;obtain⟨z,_,rfl⟩:=this;rfl
    .rw[List.take_of_length_le (by simp)]
 .have:k=l.length:=by omega
  subst this;have O:jP l n=l.take l.length++[n]++[]:=by
   unfold jP;rw[U4 J L λh=>absurd h (by omega)]
   simp
  rw[O];simp+decide[int,ints];exact⟨by omega,by unfold maxLen;omega,by omega,by unfold maxLen;omega⟩
theorem R1(l:List Int)(n:Int):yV l n<=l.length:=(List.takeWhile_sublist _).length_le
theorem Cj{p:Int->Bool}:∀ {l:List Int} {x:Int},x∈l.takeWhile p->p x=true
 | [],x,h=>by cases h
 |a::r,x,h=>by
  by_cases e:p a=true
  .rw[List.takeWhile_cons_of_pos e] at h
   rcases List.mem_cons.1 h with rfl | h
   .exact e
   .exact Cj h
  .rw[List.takeWhile_cons_of_neg e] at h;cases h
theorem Ck(l:List Int)(n:Int):∀ x∈l.take (yV l n),x<n:=by
 intro x H
 have:l.take (yV l n)=l.takeWhile λx=>decide (x<n):=by
  unfold yV;have:=List.takeWhile_prefix (l:=l) λx=>decide (x<n)
  exact(List.prefix_iff_eq_take.1 this).symm
 rw[this] at H
 simpa using Cj H
theorem Cl{l:List Int}{n:Int}(h:yV l n<l.length):¬l[yV l n]<n:=by
 intro H
 have e1:(l.takeWhile λx=>decide (x<n))++(l.dropWhile λx=>decide (x<n))=l:=List.takeWhile_append_dropWhile
 cases G:l.dropWhile λx=>decide (x<n) with
 |nil=>
  rw[G,List.append_nil] at e1;have:yV l n=l.length:=by unfold yV;rw[e1]
  omega
 |cons y r=>
  have F:=List.head_dropWhile_not (λx=>decide (x<n)) (by rw[G];simp:l.dropWhile (λx=>decide (x<n))≠[])
  simp only[G,List.head_cons,decide_eq_false_iff_not] at F;have e0:∀ A B:List Int,B=y::r->(A++B)[A.length]?=some y:=by
   intro A B h;rw[h,List.getElem?_append_right (Nat.le_refl _),Nat.sub_self];rfl
  have e3:=e0 (l.takeWhile λx=>decide (x<n)) _ G
  rw[e1] at e3;change l[yV l n]?=some y at e3
  rw[List.getElem?_eq_getElem h] at e3;have:=Option.some.inj e3
  rw[this] at H;exact F H
theorem Cm{l:List Int}(hs:l.Pairwise λx y=>x<y)(n:Int):∀ x,x∈(if l[yV l n]?=some n then l.drop (yV l n+1) else l.drop (yV l n))↔x∈l/\n<x:=by
 intro x
 have K:=List.pairwise_iff_getElem.1 hs
 have H:x∈l->n<x->x∈l.drop (yV l n):=λL M=>by
  have F:=L;rw[<-List.take_append_drop (yV l n) l] at F;rcases List.mem_append.1 F with h | h
  .have:=Ck l n x h;omega
  .exact h
 by_cases G:yV l n<l.length
 .have J:=Cl G
  have E:∀ y∈l.drop (yV l n+1),l[yV l n]<y:=λy O=>by
   obtain⟨i,hi,rfl⟩:=List.mem_iff_getElem.1 O;rw[List.length_drop] at hi;rw[List.getElem_drop];exact K _ _ G (by omega) (by omega)
  rw[List.getElem?_eq_getElem G];by_cases e:l[yV l n]=n
  .rw[if_pos (by rw[e])]
   constructor
   .intro L
    have:=E x L
    exact⟨List.mem_of_mem_drop L,by omega⟩
   .rintro⟨L,M⟩
    have:=H L M
    rw[List.drop_eq_getElem_cons G] at this;rcases List.mem_cons.1 this with h | h
    .omega
    .exact h
  .rw[if_neg (by simpa using e)]
   constructor
   .intro L
    refine⟨List.mem_of_mem_drop L,?_⟩
    rw[List.drop_eq_getElem_cons G] at L;rcases List.mem_cons.1 L with h | h
    .omega
    .have:=E x h;omega
   .rintro⟨L,M⟩;exact H L M
 .have Q:l.drop (yV l n)=[]:=List.drop_eq_nil_of_le (by omega)
  rw[List.getElem?_eq_none (by omega),if_neg (by simp),Q]
  constructor
  .intro h;cases h
  .rintro⟨L,M⟩
   have:=H L M
   rwa [Q] at this
theorem R2{l:List Int}(hs:l.Pairwise λx y=>x<y){n x:Int}:x∈jP l n↔x=n\/x∈l:=by
 unfold jP
 rw[List.mem_append,List.mem_append,List.mem_singleton,Cm hs]
 constructor
 .rintro((h | h) | h)
  .exact .inr (List.mem_of_mem_take h)
  .exact .inl h
  .exact .inr h.1
 .rintro(h | h)
  .exact .inl (.inr h)
  .rcases Int.lt_trichotomy x n with q | q | q
   .have F:=h
    rw[<-List.take_append_drop (yV l n) l] at F;rcases List.mem_append.1 F with E | E
    .exact .inl (.inl E)
    .exfalso
     have H:=List.pairwise_iff_getElem.1 hs;obtain⟨i,hi,rfl⟩:=List.mem_iff_getElem.1 E;rw[List.length_drop] at hi;rw[List.getElem_drop] at q;have G:=Cl (l:=l) (n:=n) (by omega)
     rcases Nat.eq_zero_or_pos i with rfl | hi0
     .exact G q
     .have:=H (yV l n) (yV l n+i) (by omega) (by omega) (by omega)
      omega
   .exact .inl (.inr q)
   .exact .inr ⟨h,q⟩
theorem R7{l:List Int}(hs:l.Pairwise λx y=>x<y)(n:Int):(jP l n).Pairwise λx y=>x<y:=by
 unfold jP
 rw[List.pairwise_append,List.pairwise_append]
 have H:=Ck l n
 have G:=λx=>(Cm hs n x).1
 refine⟨⟨hs.sublist (List.take_sublist _ _),by simp,λa F b E=>?_⟩,?_,λa F b E=>?_⟩
 .rw[List.mem_singleton] at E;rw[E];exact H a F
 .split
  .exact hs.sublist (List.drop_sublist _ _)
  .exact hs.sublist (List.drop_sublist _ _)
 .have K:=(G b E).2
  rcases List.mem_append.1 F with h | h
  .have:=H a h;omega
  .rw[List.mem_singleton] at h;omega
def sortL(l:List Int):List Int:=l.foldl jP []
theorem Cn(l:List Int)(n:Int):sortL (l++[n])=jP (sortL l) n:=by unfold sortL;rw[List.foldl_append];rfl
theorem R9{l:List Int}(hs:l.Pairwise λx y=>x<y)(n:Int):(jP l n).length=l.length+(if n∈l then 0 else 1):=by
 have F:=R1 l n
 have H:n∈l↔l[yV l n]?=some n:=by
  constructor
  .intro E
   obtain⟨k,K,ek⟩:=List.mem_iff_getElem.1 E;have G:=List.pairwise_iff_getElem.1 hs;have:yV l n=k:=by
    refine U4 (Nat.le_of_lt K) (λx J=>?_) (λh=>by rw[ek];omega)
    obtain⟨i,hi,rfl⟩:=List.mem_iff_getElem.1 J;rw[List.length_take] at hi;rw[List.getElem_take,<-ek];exact G i k (by omega) K (by omega)
   rw[this,List.getElem?_eq_getElem K,ek]
  .intro h;exact List.mem_of_getElem? h
 unfold jP
 by_cases h:l[yV l n]?=some n
 .rw[if_pos h,if_pos (H.2 h)]
  have:yV l n<l.length:=by
   rcases Nat.lt_or_ge (yV l n) l.length with L | L
   .exact L
   .rw[List.getElem?_eq_none L] at h;cases h
  simp;omega
 .rw[if_neg h,if_neg (λL=>h (H.1 L))]
  simp;omega
theorem U5:∀ (m:Nat) (l:List Int),l.length=m->(sortL l).Pairwise (λx y=>x<y)/\(∀ x,x∈sortL l↔x∈l)/\(sortL l).length<=l.length/\((sortL l).length=l.length->l.Nodup)
 |0,l,h=>by
  have:l=[]:=List.length_eq_zero_iff.mp h
  subst this;exact⟨List.Pairwise.nil,λx=>Iff.rfl,Nat.le_refl _,λ_=>List.nodup_nil⟩
 |m+1,l,h=>by
  have H:l≠[]:=by intro e;subst e;cases h
  obtain⟨a,n,rfl⟩:∃ a n,l=a++[n]:=⟨l.dropLast,l.getLast H,(List.dropLast_concat_getLast H).symm⟩;have G:a.length=m:=by simpa using h
  obtain⟨F,E,K,J⟩:=U5 m a G;rw[Cn];have L:=R9 F n;refine⟨R7 F n,λx=>?_,?_,λhe=>?_⟩
  .rw[R2 F,E,List.mem_append,List.mem_singleton]
   exact Or.comm
  .rw[L,List.length_append];split <;> simp <;> omega
  .rw[L,List.length_append] at he
   simp only[List.length_singleton] at he;by_cases M:n∈sortL a
   .rw[if_pos M] at he;omega
   .rw[if_neg M] at he
    rw[List.nodup_append];refine⟨J (by omega),by simp,λx O y hy=>?_⟩
    rw[List.mem_singleton] at hy;subst hy;intro e;subst e;exact M ((E x).2 O)
theorem Ra{l:List Int}(h:(sortL l).length=l.length):l.Nodup:=(U5 _ l rfl).2.2.2 h
theorem Rb(l:List Int):(sortL l).length<=l.length:=(U5 _ l rfl).2.2.1
theorem U6(l:List Int)(E:l.length<2^40):zj Tryz.prog 198 [ints l] (ints (sortL l)):=by
 refine zn mixed Tryz.func198 rfl c_198 ?_
 simp+decide[Tryz.f198,ints]
 refine VL [1] ?_
 refine zr mixed (λk:Nat=>{n:=18,next:=2,slots:=[(0,.d (ints l)),(3,.d (ints (sortL (l.take k)))),(6,.d (int l.length)),(7,.d (int k))],own:=[],moved:=[]})
  (λk=>k<=l.length) (λk=>l.length-k) 0 (by simp) (by simp+decide[int,ints,sortL]) ?_
 intro k K
 by_cases H:k<l.length
 case neg=>
  have:k=l.length:=by omega
  subst this;rw[List.take_length];simp+decide[int,ints]
 have G:(k:Int)<l.length:=by omega
 have hsn:sortL (l.take (k+1))=jP (sortL (l.take k)) l[k]:=by rw[yu H,Cn]
 have F:=Rb (l.take k)
 rw[List.length_take] at F
 obtain⟨n,en⟩:∃ n,l[k]=n:=⟨_,rfl⟩
 have e1:l[k]?=some n:=by rw[List.getElem?_eq_getElem H,en]
 rw[en] at hsn
 have J:=PZ (sortL (l.take k)) n (by omega)
 rw[<-hsn] at J
 simp+decide[int,ints,H,G,en]
 refine zg J ?_
 simp+decide[ints]
 exact⟨⟨by omega,by omega⟩,k+1,H,by omega,rfl,by omega⟩
def uh(inv:List Phon)(r:Rule)(k:Nat):Bool:=!(yS inv (r.src[k]?.getD 0)) || (decide (r.dst[k]?.getD 0≠0) && !(yS inv (r.dst[k]?.getD 0)))
def gX(inv:List Phon)(r:Rule):Int:=
 if r.src.length=0\/r.dst.length≠r.src.length then 1 else if ((List.range r.src.length).any λk=>uh inv r k)=true then 19
 else if (sortL r.src).length≠r.src.length then 8 else if 2<r.left.length\/2<r.right.length then 5 else 0
theorem Rc(inv:List Phon)(r:Rule)(hs:r.src.length<=1048576)(Y:r.dst.length<=1048576):zj Tryz.prog 147 [.agg [zI inv],.agg r.row] (int (gX inv r)):=by
 obtain⟨src,dst,left,right,beg,fin⟩:=r
 simp only at hs Y
 have Z:=U6 src (by omega)
 refine zn mixed Tryz.func147 rfl c_147 ?_
 obtain⟨R,A⟩:∃ R,gX inv ⟨src,dst,left,right,beg,fin⟩=R:=⟨_,rfl⟩
 rw[A]
 unfold gX at A
 simp only at A
 by_cases B:src.length=0
 .have:R=1:=by rw[<-A,if_pos (.inl B)]
  subst this;have V:(src.length:Int)=0:=by omega
  simp+decide[Tryz.f147,int,ints,Rule.row,B];done
 have V:¬(src.length:Int)=0:=by omega
 by_cases C:dst.length=src.length
 case neg=>
  have:R=1:=by rw[<-A,if_pos (.inr C)]
  subst this;have Q:¬(dst.length:Int)=src.length:=by omega
  simp+decide[Tryz.f147,int,ints,Rule.row,B,Q];done
 have Q:(dst.length:Int)=src.length:=by omega
 rw[if_neg (by rintro(h | h);exact B h;exact h C)] at A
 simp+decide[Tryz.f147,int,ints,Rule.row,B,C]
 refine zr mixed (λk:Nat=>{n:=70,next:=2,slots:=[(2,.bp 0 0),(3,.bp 1 0),(21,.d (int src.length)),(22,.d (int k))],own:=[(0,.box 24 [.d (zI inv)]),(1,.box 90 [.d (ints src),.d (ints dst),.d (xc left),.d (xc right),.d (.bool beg),.d (.bool fin)])]})
  (λk=>k<=src.length/\∀ j,j<k->uh inv ⟨src,dst,left,right,beg,fin⟩ j=false) (λk=>src.length-k) 0 (by simp) (by simp+decide[int,ints]) ?_
 intro k ⟨I,N⟩
 by_cases F:k<src.length
 .have J:(k:Int)<src.length:=by omega
  have L:k<dst.length:=by omega
  have E:(k:Int)<dst.length:=by omega
  obtain⟨x,ex⟩:∃ x,src[k]=x:=⟨_,rfl⟩;obtain⟨y,ey⟩:∃ y,dst[k]=y:=⟨_,rfl⟩;have ex1:src[k]?=some x:=by rw[List.getElem?_eq_getElem F,ex]
  have ey1:dst[k]?=some y:=by rw[List.getElem?_eq_getElem L,ey]
  have P:=J2 inv x;have S:=J2 inv y;have X:uh inv ⟨src,dst,left,right,beg,fin⟩ k=(!(yS inv x) || (decide (y≠0) && !(yS inv y))):=by unfold uh;simp only;rw[ex1,ey1];rfl
  have G:uh inv ⟨src,dst,left,right,beg,fin⟩ k=true->R=19:=by
   intro h;rw[<-A,if_pos (List.any_eq_true.2 ⟨k,List.mem_range.2 F,h⟩)]
  have H:uh inv ⟨src,dst,left,right,beg,fin⟩ k=false->∀ j,j<k+1->uh inv ⟨src,dst,left,right,beg,fin⟩ j=false:=by
   intro h j hj;rcases Nat.lt_succ_iff_lt_or_eq.mp hj with W | W
   .exact N j W
   .rw[W];exact h
  rw[X] at G H;simp+decide[int,ints,F,J,ex];refine scp P ?_
  cases hx:yS inv x with
  |false=>
   rw[hx] at G;have:=G rfl
   subst this;simp+decide
  |true=>
   rw[hx] at G H;by_cases hy:y=0
   .rw[decide_eq_false (by simpa using hy)] at H
    have hg:=H rfl;simp+decide[L,E,ey,hy,I64];exact⟨⟨by omega,by omega⟩,k+1,⟨F,hg⟩,by omega,by omega⟩
   .rw[decide_eq_true (by simpa using hy)] at H G
    simp+decide[L,E,ey,hy];refine scp S ?_
    cases hz:yS inv y with
    |false=>
     rw[hz] at G;have:=G rfl
     subst this;simp+decide
    |true=>
     rw[hz] at H;have hg:=H rfl;simp+decide[I64];exact⟨⟨by omega,by omega⟩,k+1,⟨F,hg⟩,by omega,by omega⟩
 .have:k=src.length:=by omega
  subst this;have M:((List.range src.length).any λk=>uh inv ⟨src,dst,left,right,beg,fin⟩ k)=false:=by
   rw[List.any_eq_false];intro j hj;rw[N j (List.mem_range.1 hj)];decide
  rw[if_neg (by rw[M];decide)] at A
  simp+decide[int,ints];refine scp Z ?_
  by_cases hn:(sortL src).length=src.length
  .have T:((sortL src).length:Int)=src.length:=by omega
   rw[if_neg (by simpa using hn)] at A
   by_cases hl:2<left.length
   .have K:(2:Int)<left.length:=by omega
    rw[if_pos (.inl hl)] at A;subst A;simp+decide[ints,xc,hn,K]
   .have K:¬(2:Int)<left.length:=by omega
    by_cases hr:2<right.length
    .have O:(2:Int)<right.length:=by omega
     rw[if_pos (.inr hr)] at A;subst A;simp+decide[ints,xc,hn,K,O]
    .have O:¬(2:Int)<right.length:=by omega
     rw[if_neg (by rintro(h | h);exact hl h;exact hr h)] at A
     subst A;simp+decide[ints,xc,hn,K,O]
  .have T:¬((sortL src).length:Int)=src.length:=by omega
   rw[if_pos (by simpa using hn)] at A
   subst A;simp+decide[ints,xc,T]
theorem Re{inv:List Phon}{r:Rule}(h:gX inv r=0)(hs:r.src.length<=1048576):RuleL r:=by
 unfold gX at h
 split at h
 .cases h
 rename_i F
 split at h
 .cases h
 split at h
 .cases h
 rename_i E
 split at h
 .cases h
 rename_i K
 have H:r.dst.length=r.src.length:=Classical.byContradiction λe=>F (.inr e)
 have G:(sortL r.src).length=r.src.length:=Classical.byContradiction λe=>E e
 exact {src:=by omega,left:=by omega,right:=by omega,dst:=H,once:=Ra G }
def Jg(inv:List Phon)(r:Rule):Prop:=∀ x∈r.dst,x=0\/yS inv x=true
theorem Rh{inv:List Phon}{r:Rule}(h:gX inv r=0):Jg inv r:=by
 unfold gX at h
 split at h
 .cases h
 rename_i G
 split at h
 .cases h
 rename_i F
 have H:r.dst.length=r.src.length:=Classical.byContradiction λe=>G (.inr e)
 intro x E
 obtain⟨k,K,ek⟩:=List.mem_iff_getElem.1 E
 have J:((List.range r.src.length).any λk=>uh inv r k)=false:=by simpa using F
 rw[List.any_eq_false] at J
 have L:=J k (List.mem_range.2 (by omega))
 unfold uh at L
 rw[List.getElem?_eq_getElem K,ek,Option.getD_some] at L
 by_cases M:x=0
 .exact .inl M
 .right
  cases hs:yS inv x with
  |true=>rfl
  |false=>rw[hs] at L;simp[M] at L
structure RulesC(rs:List Rule):Prop where
 few:rs.length<=1048576
 each:∀ r∈rs,r.src.length<=1048576/\r.dst.length<=1048576
theorem Ri(g:Lang)(E:RulesC g.rules):xU Tryz.prog 88 [g.d] (λx=>∃ e,x=int e/\(e=0->∀ r∈g.rules,RuleL r/\Jg g.inv r)):=by
 have F:=E.few
 refine qV mixed Tryz.func88 rfl c_88 ?_
 by_cases K:(12:Int)<g.rules.length
 .simp+decide[Tryz.f88,Lang.d,int,yO,K]
 simp+decide[Tryz.f88,Lang.d,int,yO,K]
 refine zr mixed (λk:Nat=>{n:=27,next:=1,slots:=[(1,.bp 0 0),(3,.d (int k))],own:=[(0,.box 36 (zq g.d))]})
  (λk=>k<=g.rules.length/\∀ r∈g.rules.take k,RuleL r/\Jg g.inv r) (λk=>g.rules.length-k) 0 (by simp) (by simp+decide[int,yO,zq,Lang.d]) ?_
 intro k ⟨J,L⟩
 by_cases H:k<g.rules.length
 .have G:(k:Int)<g.rules.length:=by omega
  have M:=E.each g.rules[k] (List.getElem_mem H);obtain⟨r,er⟩:∃ r,g.rules[k]=r:=⟨_,rfl⟩;have er1:g.rules[k]?=some r:=by rw[List.getElem?_eq_getElem H,er]
  have hsn:=yu H;rw[er] at M hsn;have O:=Rc g.inv r M.1 M.2;simp+decide[int,yO,zq,Lang.d,H,G,er,Rule.row];refine scp O ?_
  by_cases Q:gX g.inv r=0
  .rw[Q]
   simp+decide[int,I64];refine⟨⟨by omega,by omega⟩,k+1,⟨H,λx T=>?_⟩,by omega,by omega⟩
   rw[hsn] at T;rcases List.mem_append.1 T with h | h
   .exact L x h
   .rw[List.mem_singleton] at h;rw[h];exact⟨Re Q M.1,Rh Q⟩
  .simp+decide[int,Q]
 .have:k=g.rules.length:=by omega
  subst this;rw[List.take_length] at L;simp+decide[int,yO,zq,Lang.d];exact L
theorem U7(n:Nett)(q:Int):zj Tryz.prog 148 [.agg n.cells,int q] (.bool (decide (0<=q/\q<n.states))):=by
 refine zn mixed Tryz.func148 rfl c_148 ?_
 by_cases H:0<=q
 .simp+decide[Tryz.f148,int,Nett.cells,H]
 .simp+decide[Tryz.f148,int,Nett.cells,H]
def Co(n:Nett)(s:Stp):Prop:=(0<=s.src/\s.src<n.states)/\(0<=s.dst/\s.dst<n.states)/\1<=s.cls/\s.cls<=20
structure NetF(n:Nett):Prop where
 lo:1<=n.states
 steps:∀ s∈n.steps,Co n s
 final:∀ q∈n.final,0<=q/\q<n.states
theorem Rj(n:Nett)(hs:n.steps.length<=1048576)(Y:n.final.length<=1048576):xU Tryz.prog 89 [.agg n.cells] (λx=>∃ e,x=int e/\(e=0->NetF n)):=by
 refine qV mixed Tryz.func89 rfl c_89 ?_
 by_cases Z:n.states<1
 .simp+decide[Tryz.f89,int,Nett.cells,Z]
 by_cases A:24<n.states
 .simp+decide[Tryz.f89,int,Nett.cells,Z,A]
 by_cases B:(200:Int)<n.steps.length
 .simp+decide[Tryz.f89,int,Nett.cells,stepsD,Z,A,B]
 simp+decide[Tryz.f89,int,Nett.cells,stepsD,Z,A,B]
 refine zr mixed (λk:Nat=>{n:=98,next:=1,slots:=[(1,.bp 0 0),(3,.d (int k))],own:=[(0,.box 33 (n.cells.map .d))]})
  (λk=>k<=n.steps.length/\∀ s∈n.steps.take k,Co n s) (λk=>n.steps.length-k) 0 (by simp) (by simp+decide[int,ints,stepsD,Nett.cells]) ?_
 intro k ⟨C,I⟩
 by_cases E:k<n.steps.length
 .have J:(k:Int)<n.steps.length:=by omega
  obtain⟨x,ex⟩:∃ x,n.steps[k]=x:=⟨_,rfl⟩;have ex1:n.steps[k]?=some x:=by rw[List.getElem?_eq_getElem E,ex]
  have hsn:=yu E;rw[ex] at hsn;have N:=U7 n x.src;have P:=U7 n x.dst;simp+decide[int,ints,stepsD,Nett.cells,E,J,ex,Stp.row];refine zg N ?_
  by_cases a1:0<=x.src/\x.src<n.states
  case neg=>simp+decide[a1]
  simp+decide[a1];refine zg P ?_
  by_cases a2:0<=x.dst/\x.dst<n.states
  case neg=>simp+decide[a2]
  by_cases a3:x.cls<1
  .simp+decide[a2,a3]
  by_cases a4:20<x.cls
  .simp+decide[a2,a3,a4]
  simp+decide[a2,a3,a4];refine zr mixed (λm:Nat=>{n:=98,next:=2,slots:=[(1,.bp 0 0),(3,.d (int k)),(4,.bp 1 0),(5,.d (int m))],own:=[(0,.box 33 (n.cells.map .d)),(1,.box 156 (x.row.map .d))]})
   (λm=>m<=k) (λm=>k-m) 0 (by simp) (by simp+decide[int,ints,stepsD,Nett.cells,Stp.row]) ?_
  intro m S;by_cases X:m<k
  .have G:(m:Int)<k:=by omega
   have T:m<n.steps.length:=by omega
   have L:(m:Int)<n.steps.length:=by omega
   obtain⟨y,ey⟩:∃ y,n.steps[m]=y:=⟨_,rfl⟩;have ey1:n.steps[m]?=some y:=by rw[List.getElem?_eq_getElem T,ey]
   simp+decide[int,ints,stepsD,Nett.cells,G,T,L,ey,Stp.row,I64];exact λ_=>⟨⟨by omega,by omega⟩,m+1,X,by omega,by omega⟩
  .have G:¬(m:Int)<k:=by omega
   simp+decide[int,ints,stepsD,Nett.cells,G,I64];refine⟨⟨by omega,by omega⟩,k+1,⟨E,λs V=>?_⟩,by omega,by omega⟩
   rw[hsn] at V;rcases List.mem_append.1 V with h | h
   .exact I s h
   .rw[List.mem_singleton] at h;rw[h];exact⟨a1,a2,by omega,by omega⟩
 .have:k=n.steps.length:=by omega
  subst this;rw[List.take_length] at I;simp+decide[int,ints,stepsD,Nett.cells];refine zr mixed (λk:Nat=>{n:=98,next:=1,slots:=[(1,.bp 0 0),(6,.d (int ((k:Int)+1)))],own:=[(0,.box 33 (n.cells.map .d))]})
   (λk=>k<=n.final.length) (λk=>n.final.length-k) 0 (by simp) (by simp+decide[int,ints,stepsD,Nett.cells]) ?_
  intro i hi;by_cases M:i+1<n.final.length
  .have H:(i:Int)+1<n.final.length:=by omega
   have O:i<n.final.length:=by omega
   have F:(i:Int)<n.final.length:=by omega
   obtain⟨u,eu⟩:∃ u,n.final[i+1]=u:=⟨_,rfl⟩;have eu1:n.final[i+1]?=some u:=by rw[List.getElem?_eq_getElem M,eu]
   obtain⟨v,ev⟩:∃ v,n.final[i]=v:=⟨_,rfl⟩;have ev1:n.final[i]?=some v:=by rw[List.getElem?_eq_getElem O,ev]
   have t1:((i:Int)+1).toNat=i+1:=by omega
   have t2:0<=(i:Int)+1:=by omega
   by_cases b1:u<=v
   .simp+decide[int,ints,stepsD,Nett.cells,M,H,O,F,eu,ev,t1,t2,b1,I64]
    omega
   .simp+decide[int,ints,stepsD,Nett.cells,M,H,O,F,eu,ev,t1,t2,b1,I64]
    exact⟨by omega,⟨by omega,by omega⟩,i+1,by omega,by omega,by omega⟩
  .have H:¬(i:Int)+1<n.final.length:=by omega
   simp+decide[int,ints,stepsD,Nett.cells,H];refine zr mixed (λk:Nat=>{n:=98,next:=1,slots:=[(1,.bp 0 0),(7,.d (int k))],own:=[(0,.box 33 (n.cells.map .d))]})
    (λk=>k<=n.final.length/\∀ q∈n.final.take k,0<=q/\q<n.states) (λk=>n.final.length-k) 0 (by simp) (by simp+decide[int,ints,stepsD,Nett.cells]) ?_
   intro j ⟨hj,W⟩;by_cases K:j<n.final.length
   .have Q:(j:Int)<n.final.length:=by omega
    obtain⟨u,eu⟩:∃ u,n.final[j]=u:=⟨_,rfl⟩;have eu1:n.final[j]?=some u:=by rw[List.getElem?_eq_getElem K,eu]
    have hsn:=yu K;rw[eu] at hsn;have hC:=U7 n u;simp+decide[int,ints,stepsD,Nett.cells,K,Q,eu];refine scp hC ?_
    by_cases a1:0<=u/\u<n.states
    .simp+decide[a1,I64]
     refine⟨⟨by omega,by omega⟩,j+1,⟨K,λq S=>?_⟩,by omega,by omega⟩
     rw[hsn] at S;rcases List.mem_append.1 S with h | h
     .exact W q h
     .rw[List.mem_singleton] at h;rw[h];exact a1
    .simp+decide[a1]
   .have:j=n.final.length:=by omega
    subst this;rw[List.take_length] at W;simp+decide[int,ints,stepsD,Nett.cells];exact⟨by omega,I,W⟩
def wR(n:Int):Bool:=decide (1<=n/\n<=1099511627776)
theorem Qh(n:Int):zj Tryz.prog 117 [int n] (.bool (wR n)):=by
 refine zn mixed Tryz.func117 rfl c_117 ?_
 by_cases H:1<=n
 .simp+decide[Tryz.f117,int,wR,H]
 .simp+decide[Tryz.f117,int,wR,H]
def vG(inv:List Phon)(w:List Int):Int:=if w.length=0 then 4 else if 24<w.length then 5 else if (w.all λx=>yS inv x)=true then 0 else 19
theorem Cp(inv:List Phon)(w:List Int)(J:w.length<=1048576):zj Tryz.prog 231 [.agg [zI inv],ints w] (int (vG inv w)):=by
 refine zn mixed Tryz.func231 rfl c_231 ?_
 obtain⟨R,L⟩:∃ R,vG inv w=R:=⟨_,rfl⟩
 rw[L]
 unfold vG at L
 by_cases M:w.length=0
 .rw[if_pos M] at L
  subst L;have K:(w.length:Int)=0:=by omega
  simp+decide[Tryz.f231,int,ints,M];done
 rw[if_neg M] at L
 have K:¬(w.length:Int)=0:=by omega
 by_cases O:24<w.length
 .rw[if_pos O] at L
  subst L;have F:(24:Int)<w.length:=by omega
  simp+decide[Tryz.f231,int,ints,M,F];done
 rw[if_neg O] at L
 have F:¬(24:Int)<w.length:=by omega
 simp+decide[Tryz.f231,int,ints,M,F]
 refine zr mixed (λk:Nat=>{n:=25,next:=1,slots:=[(1,.d (ints w)),(2,.bp 0 0),(13,.d (int w.length)),(14,.d (int k))],own:=[(0,.box 24 [.d (zI inv)])]})
  (λk=>k<=w.length/\∀ x∈w.take k,yS inv x=true) (λk=>w.length-k) 0 (by simp) (by simp+decide[int,ints]) ?_
 intro k ⟨Q,T⟩
 by_cases H:k<w.length
 .have E:(k:Int)<w.length:=by omega
  have G:=List.getElem_mem H;obtain⟨x,ex⟩:∃ x,w[k]=x:=⟨_,rfl⟩;have ex1:w[k]?=some x:=by rw[List.getElem?_eq_getElem H,ex]
  have hsn:=yu H;rw[ex] at hsn G;simp+decide[int,ints,H,E,ex];refine scp (J2 inv x) ?_
  cases hs:yS inv x with
  |false=>
   have:¬(w.all λx=>yS inv x)=true:=by
    rw[List.all_eq_true];intro h;rw[h x G] at hs;cases hs
   rw[if_neg this] at L;subst L;simp+decide
  |true=>
   simp+decide
   refine⟨⟨by omega,by omega⟩,k+1,⟨H,λy V=>?_⟩,by omega,by omega⟩
   rw[hsn] at V;rcases List.mem_append.1 V with h | h
   .exact T y h
   .rw[List.mem_singleton] at h;rw[h];exact hs
 .have:k=w.length:=by omega
  subst this;rw[List.take_length] at T;rw[if_pos (List.all_eq_true.2 T)] at L;subst L;simp+decide[int,ints]
structure WordF(inv:List Phon)(w:List Int):Prop where
 pos:1<=w.length
 len:w.length<=24
 segs:∀ x∈w,yS inv x=true
theorem Cq{inv:List Phon}{w:List Int}(h:vG inv w=0):WordF inv w:=by
 unfold vG at h
 split at h
 .cases h
 split at h
 .cases h
 split at h
 .rename_i H;exact⟨by omega,by omega,List.all_eq_true.1 H⟩
 .cases h
structure EntC(e:Ent):Prop where
 form:e.form.length<=1048576
 alts:e.alts.length<=1048576/\∀ w∈e.alts,w.length<=1048576
 senses:e.senses.length<=1048576/\∀ s∈e.senses,s.gloss.size<=1048576/\s.defn.size<=1048576
 links:e.links.length<=1048576
 refs:e.refs.length<=1048576
structure WordsF(inv:List Phon)(e:Ent):Prop where
 id:wR e.id=true
 form:WordF inv e.form
 cls:1<=e.cls/\e.cls<=20
 alts:∀ w∈e.alts,WordF inv w
theorem Rk(inv:List Phon)(e:Ent)(V:EntC e):xU Tryz.prog 199 [.agg [zI inv],.agg e.row] (λx=>∃ n,x=int n/\(n=0->WordsF inv e)):=by
 have M:=V.form
 have T:=V.alts.1
 refine qV mixed Tryz.func199 rfl c_199 ?_
 simp+decide[Tryz.f199,int,Ent.row]
 refine zg (Qh e.id) ?_
 cases hid:wR e.id with
 |false=>simp+decide
 |true=>
  simp+decide
  refine zg (Cp inv e.form M) ?_
  by_cases X:vG inv e.form=0
  case neg=>simp+decide[int,X]
  by_cases c1:e.cls<1
  .simp+decide[int,X,c1]
  by_cases c2:20<e.cls
  .simp+decide[int,X,c1,c2]
  by_cases c3:(3:Int)<e.alts.length
  .simp+decide[int,X,yl,c1,c2,c3]
  simp+decide[int,X,yl,c1,c2,c3];refine zr mixed (λk:Nat=>{n:=73,next:=2,slots:=[(2,.bp 0 0),(3,.bp 1 0),(6,.d (int k))],own:=[(0,.box 24 [.d (zI inv)]),(1,.box 102 (e.row.map .d))]})
   (λk=>k<=e.alts.length/\∀ w∈e.alts.take k,WordF inv w) (λk=>e.alts.length-k) 0 (by simp) (by simp+decide[int,ints,Ent.row,yl]) ?_
  intro k ⟨Y,Z⟩;by_cases H:k<e.alts.length
  .have G:(k:Int)<e.alts.length:=by omega
   have J:=V.alts.2 e.alts[k] (List.getElem_mem H);obtain⟨w,ew⟩:∃ w,e.alts[k]=w:=⟨_,rfl⟩;have ew1:e.alts[k]?=some w:=by rw[List.getElem?_eq_getElem H,ew]
   have hsn:=yu H;rw[ew] at hsn J;simp+decide[int,ints,yl,Ent.row,H,G,ew];refine scp (Cp inv w J) ?_
   by_cases A:vG inv w=0
   case neg=>simp+decide[int,A]
   simp+decide[int,A,H,G,ew];refine scp (KX w e.form (by omega) (by omega)) ?_
   by_cases hs:w=e.form
   .simp+decide[hs]
   simp+decide[hs];refine zr mixed (λm:Nat=>{n:=73,next:=2,slots:=[(2,.bp 0 0),(3,.bp 1 0),(6,.d (int k)),(8,.d (int m))],own:=[(0,.box 24 [.d (zI inv)]),(1,.box 102 (e.row.map .d))]})
    (λm=>m<=k) (λm=>k-m) 0 (by simp) (by simp+decide[int,ints,Ent.row,yl]) ?_
   intro m B;by_cases O:m<k
   .have F:(m:Int)<k:=by omega
    have E:m<e.alts.length:=by omega
    have K:(m:Int)<e.alts.length:=by omega
    have Q:=V.alts.2 e.alts[m] (List.getElem_mem E);obtain⟨y,ey⟩:∃ y,e.alts[m]=y:=⟨_,rfl⟩;have ey1:e.alts[m]?=some y:=by rw[List.getElem?_eq_getElem E,ey]
    rw[ey] at Q;simp+decide[int,ints,yl,Ent.row,F,E,K,H,G,ew,ey];refine scp (KX w y (by omega) (by omega)) ?_
    by_cases L:w=y
    .simp+decide[L]
    .simp+decide[L,I64]
     exact⟨⟨by omega,by omega⟩,m+1,O,by omega,by omega⟩
   .have F:¬(m:Int)<k:=by omega
    simp+decide[int,ints,yl,Ent.row,F,I64];refine⟨⟨by omega,by omega⟩,k+1,⟨H,λy C=>?_⟩,by omega,by omega⟩
    rw[hsn] at C;rcases List.mem_append.1 C with h | h
    .exact Z y h
    .rw[List.mem_singleton] at h;rw[h];exact Cq A
  .have:k=e.alts.length:=by omega
   subst this;rw[List.take_length] at Z;simp+decide[int,ints,yl,Ent.row];exact⟨hid,Cq X,⟨by omega,by omega⟩,Z⟩
def uJ(f:Nat->Bool)(s:ByteArray):Bool:=(List.range s.size).all λk=>f (zD s k)
theorem Jh{f:Nat->Bool}{s:ByteArray}{k:Nat}(H:k<s.size)(h:f (zD s k)=false):uJ f s=false:=by
 unfold uJ;rw[List.all_eq_false];exact⟨k,List.mem_range.2 H,by rw[h];decide⟩
theorem Cr{f:Nat->Bool}{s:ByteArray}(h:∀ j,j<s.size->f (zD s j)=true):uJ f s=true:=by
 unfold uJ;rw[List.all_eq_true];intro j hj;exact h j (List.mem_range.1 hj)
theorem Cs{p:Nat->Prop}{k:Nat}(h:∀ j,j<k->p j)(H:p k):∀ j,j<k+1->p j:=by
 intro j hj
 rcases Nat.lt_succ_iff_lt_or_eq.mp hj with G | G
 .exact h j G
 .rw[G];exact H
def gY(b:Nat):Bool:=decide (¬b<32)&&decide (¬b=127)
def xl(s:ByteArray):Bool:=uJ gY s&&((xP s s.size 0).isSome&&decide (1<=s.size)&&decide (s.size<=32))
theorem Ct(s:ByteArray)(hs:s.size<=1048576):zj Tryz.prog 142 [.str s] (.bool (xl s)):=by
 refine zn mixed Tryz.func142 rfl c_142 ?_
 simp+decide[Tryz.f142,int]
 refine zr mixed (λk:Nat=>{n:=38,next:=0,slots:=[(0,.d (.str s)),(3,.d (int k))],own:=[]})
  (λk=>k<=s.size/\∀ j,j<k->gY (zD s j)=true) (λk=>s.size-k) 0 (by simp) (by simp+decide[int]) ?_
 intro k ⟨E,K⟩
 by_cases G:k<s.size
 .have H:(k:Int)<s.size:=by omega
  have e1:byteAt s (k:Int)=(zD s k:Int):=gP s k
  by_cases b1:(zD s k:Int)<32
  .have:xl s=false:=by unfold xl;rw[Jh G (by simp[gY];omega)];rfl
   rw[this];simp+decide[int,G,H,e1,b1]
  .by_cases b2:(zD s k:Int)=127
   .have:xl s=false:=by unfold xl;rw[Jh G (by simp[gY];omega)];rfl
    rw[this];simp+decide[int,G,H,e1,b1,b2]
   .have J:=Cs K (show gY (zD s k)=true by simp[gY];omega)
    simp+decide[int,G,H,e1,b1,b2,I64];exact⟨⟨by omega,by omega⟩,k+1,⟨G,J⟩,by omega,by omega⟩
 .have H:¬(k:Int)<s.size:=by omega
  have F:uJ gY s=true:=Cr λj hj=>K j (by omega)
  simp+decide[int,H];refine zg (Jc s hs) ?_
  unfold xl;rw[F];cases K:xP s s.size 0 with
  |none=>simp+decide[wo,int]
  |some l=>
   by_cases c1:1<=s.size
   .have c1':(1:Int)<=s.size:=by omega
    simp+decide[wo,int,ints,c1,c1'];try omega
   .have c1':¬(1:Int)<=s.size:=by omega
    simp+decide[wo,int,ints,c1,c1']
def ZJ(b:Nat):Bool:=decide (¬b=32)&&decide (¬b=45)
def uK(s:ByteArray):Bool:=uJ ZJ s&&xl s
theorem Rl(s:ByteArray)(hs:s.size<=1048576):zj Tryz.prog 262 [.str s] (.bool (uK s)):=by
 refine zn mixed Tryz.func262 rfl c_262 ?_
 simp+decide[Tryz.f262,int]
 refine zr mixed (λk:Nat=>{n:=22,next:=0,slots:=[(0,.d (.str s)),(3,.d (int k))],own:=[]})
  (λk=>k<=s.size/\∀ j,j<k->ZJ (zD s j)=true) (λk=>s.size-k) 0 (by simp) (by simp+decide[int]) ?_
 intro k ⟨E,K⟩
 by_cases G:k<s.size
 .have H:(k:Int)<s.size:=by omega
  have e1:byteAt s (k:Int)=(zD s k:Int):=gP s k
  by_cases b1:(zD s k:Int)=32
  .have:uK s=false:=by unfold uK;rw[Jh G (by simp[ZJ];omega)];rfl
   rw[this];simp+decide[int,G,H,e1,b1]
  .by_cases b2:(zD s k:Int)=45
   .have:uK s=false:=by unfold uK;rw[Jh G (by simp[ZJ];omega)];rfl
    rw[this];simp+decide[int,G,H,e1,b1,b2]
   .have J:=Cs K (show ZJ (zD s k)=true by simp[ZJ];omega)
    simp+decide[int,G,H,e1,b1,b2,I64];exact⟨⟨by omega,by omega⟩,k+1,⟨G,J⟩,by omega,by omega⟩
 .have H:¬(k:Int)<s.size:=by omega
  have F:uJ ZJ s=true:=Cr λj hj=>K j (by omega)
  simp+decide[int,H];refine zg (Ct s hs) ?_
  unfold uK;rw[F];simp+decide[int]
def qy(p:Int):Bool:=decide (p<32) || decide (p=127)
def Qi(s:ByteArray):Int:=if 200<s.size then 5 else match xP s s.size 0 with
 |none=>3
 |some l=>if l.any qy=true then 3 else 0
theorem Rm(s:ByteArray):zj Tryz.prog 132 [.str s] (int (Qi s)):=by
 refine zn mixed Tryz.func132 rfl c_132 ?_
 unfold Qi
 by_cases K:200<s.size
 .have F:(200:Int)<s.size:=by omega
  simp+decide[Tryz.f132,F,K,int]
 have F:¬(200:Int)<s.size:=by omega
 simp+decide[Tryz.f132,F,K,int]
 refine zg (Jc s (by omega)) ?_
 cases J:xP s s.size 0 with
 |none=>simp+decide[wo,int]
 |some l=>
  have E:l.length<=s.size:=KZ s _ _ _ J
  simp+decide[wo,ints,int];refine zr mixed (λk:Nat=>{n:=34,next:=0,slots:=[(3,.d (ints l)),(5,.d (int k))],own:=[]})
   (λk=>k<=l.length/\∀ x∈l.take k,qy x=false) (λk=>l.length-k) 0 (by simp) (by simp+decide[int,ints]) ?_
  intro k ⟨L,M⟩;by_cases H:k<l.length
  .have e1:l[k]?=some l[k]:=List.getElem?_eq_getElem H
   have G:qy l[k]=true->l.any qy=true:=λO=>List.any_eq_true.2 ⟨l[k],List.getElem_mem H,O⟩
   by_cases b1:l[k]<32
   .have O:=G (by simp[qy,b1])
    simp+decide[ints,int,e1,H,b1];exact List.any_eq_true.1 O
   .by_cases b2:l[k]=127
    .have O:=G (by simp[qy,b2])
     simp+decide[ints,int,e1,H,b1,b2];exact List.any_eq_true.1 O
    .simp+decide[ints,int,e1,H,b1,b2,I64]
     refine⟨by omega,k+1,⟨H,?_⟩,by omega,by omega⟩
     rw[List.take_succ_eq_append_getElem H];intro x Q;rcases List.mem_append.1 Q with Q | Q
     .exact M x Q
     .simp at Q;rw[Q];simp[qy,b1,b2]
  .have:k=l.length:=by omega
   subst this;rw[List.take_length] at M;have O:l.any qy=false:=by rw[List.any_eq_false];intro x Q;simp[M x Q]
   simp+decide[ints,int];exact M
def YD(l:List Sens)(s:ByteArray):Bool:=l.any λx=>decide (x.gloss=s)
theorem Rn(l:List Sens)(s:ByteArray)(E:l.length<2^40):zj Tryz.prog 263 [zZ l,.str s] (.bool (YD l s)):=by
 refine zn mixed Tryz.func263 rfl c_263 ?_
 simp+decide[Tryz.f263,int,zZ]
 refine zr mixed (λk:Nat=>{n:=19,next:=0,slots:=[(0,.d (zZ l)),(1,.d (.str s)),(5,.d (int k))],own:=[]})
  (λk=>k<=l.length/\∀ x∈l.take k,¬x.gloss=s) (λk=>l.length-k) 0 (by simp) (by simp+decide[int,zZ]) ?_
 intro k ⟨K,J⟩
 by_cases H:k<l.length
 .have G:(k:Int)<l.length:=by omega
  have F:=List.getElem_mem H;have hsn:=yu H;obtain⟨x,ex⟩:∃ x,l[k]=x:=⟨_,rfl⟩;have e1:l[k]?=some x:=by rw[List.getElem?_eq_getElem H,ex]
  rw[ex] at F hsn;by_cases b1:x.gloss=s
  .have:YD l s=true:=List.any_eq_true.2 ⟨x,F,by simpa using b1⟩
   rw[this];simp+decide[int,zZ,Sens.row,H,G,e1,ex,b1]
  .simp+decide[int,zZ,Sens.row,H,G,e1,ex,b1,I64]
   first | refine⟨λh=>absurd (bytes_inj h) b1,λ_=>⟨⟨by omega,by omega⟩,k+1,⟨H,λy L=>?_⟩,by omega,by omega⟩⟩ | refine⟨⟨by omega,by omega⟩,k+1,⟨H,λy L=>?_⟩,by omega,by omega⟩
   rw[hsn] at L;rcases List.mem_append.1 L with h | h
   .exact J y h
   .rw[List.mem_singleton] at h;rw[h];exact b1
 .have:k=l.length:=by omega
  subst this;rw[List.take_length] at J;have:YD l s=false:=by unfold YD;rw[List.any_eq_false];intro x M;simpa using J x M
  rw[this];simp+decide[int,zZ]
def ZK(l:List Sens)(s:Sens):Int:=if uK s.gloss=false then 7 else if Qi s.defn≠0 then Qi s.defn else if YD l s.gloss=true then 8 else 0
theorem U8(l:List Sens)(s:Sens)(H:l.length<2^40)(hs:s.gloss.size<=1048576):zj Tryz.prog 232 [zZ l,.agg s.row] (int (ZK l s)):=by
 refine zn mixed Tryz.func232 rfl c_232 ?_
 have G:=Rn l s.gloss H
 unfold ZK
 simp+decide[Tryz.f232,int,Sens.row]
 refine zg (Rl s.gloss hs) ?_
 cases F:uK s.gloss with
 |false=>simp+decide[int]
 |true=>
  simp+decide[int];refine zg (Rm s.defn) ?_
  by_cases E:Qi s.defn=0
  case neg=>simp+decide[int,E]
  simp+decide[int,E];generalize YD l s.gloss=b at G ⊢;refine zg G ?_
  cases b <;> simp+decide[int]
theorem U9{l:List Sens}{s:Sens}(h:ZK l s=0):xl s.gloss=true:=by
 unfold ZK at h
 split at h
 .cases h
 .rename_i hg
  rw[Bool.not_eq_false] at hg;unfold uK at hg;rw[Bool.and_eq_true] at hg;exact hg.2
theorem Ua{l:List Sens}{k:Nat}(H:k<l.length)(h:∀ s∈l.take k,xl s.gloss=true)(hs:xl l[k].gloss=true):∀ s∈l.take (k+1),xl s.gloss=true:=by
 rw[List.take_succ_eq_append_getElem H]
 intro s G
 rcases List.mem_append.1 G with G | G
 .exact h s G
 .rw[List.mem_singleton] at G;rw[G];exact hs
theorem Ub{l:List Sens}{k:Nat}(H:k<=l.length)(G:¬k<l.length)(h:∀ s∈l.take k,xl s.gloss=true):∀ s∈l,xl s.gloss=true:=by
 rw[List.take_of_length_le (by omega)] at h;exact h
theorem Ro(e:Ent)(O:EntC e):xU Tryz.prog 200 [.agg e.row] (λx=>∃ n,x=int n/\(n=0->((e.senses≠[]\/e.main≠0)/\e.senses.length<=5)/\∀ s∈e.senses,xl s.gloss=true)):=by
 have M:=O.senses.1
 refine qV mixed Tryz.func200 rfl c_200 ?_
 by_cases Q:e.main=0
 .by_cases T:e.main=e.id
  .have K:e.id=0:=by omega
   simp+decide[Tryz.f200,int,Ent.row,Q,K]
  have K:¬0=e.id:=by omega
  by_cases V:(5:Int)<e.senses.length
  .simp+decide[Tryz.f200,int,Ent.row,zZ,Q,K,V]
  by_cases X:(e.senses.length:Int)=0
  .simp+decide[Tryz.f200,int,Ent.row,zZ,Q,K,V,X]
  simp+decide[Tryz.f200,int,Ent.row,zZ,Q,K,V,X];intro L;refine zr mixed (λk:Nat=>{n:=52,next:=1,slots:=[(1,.bp 0 0),(3,.d (int k))],own:=[(0,.box 102 (e.row.map .d))]})
   (λk=>k<=e.senses.length/\∀ s∈e.senses.take k,xl s.gloss=true) (λk=>e.senses.length-k) 0 (by simp) (by simp+decide[int,ints,Ent.row,zZ,Q]) ?_
  intro k ⟨Y,F⟩;by_cases G:k<e.senses.length
  .have H:(k:Int)<e.senses.length:=by omega
   have E:=O.senses.2 e.senses[k] (List.getElem_mem G);obtain⟨s,es⟩:∃ s,e.senses[k]=s:=⟨_,rfl⟩;have es1:e.senses[k]?=some s:=by rw[List.getElem?_eq_getElem G,es]
   rw[es] at E;have Z:=U8 (e.senses.take k) s (by rw[List.length_take];omega) E.1
   have eS:zZ (e.senses.take k) = .sl ((e.senses.map Sens.row).take k):=by simp[zZ,List.map_take]
   rw[eS] at Z;have J:∀ a∈e.senses,a.row.length=2:=λa _=>rfl
   simp+decide[int,ints,zZ,Ent.row,G,H,es,es1];refine⟨by omega,J,by rfl,by simp[Sens.row],?_⟩
   refine scp Z ?_
   by_cases A:ZK (e.senses.take k) s=0
   case neg=>simp+decide[int,A]
   rw[A];simp+decide[int,ints,zZ,Ent.row,I64];exact⟨⟨by omega,by omega⟩,k+1,⟨G,Ua G F (by rw[es];exact U9 A)⟩,by omega,by omega⟩
  .have H:¬(k:Int)<e.senses.length:=by omega
   simp+decide[int,ints,zZ,Ent.row,H];exact⟨⟨L,by omega⟩,Ub Y G F⟩
 .simp+decide[Tryz.f200,int,Ent.row,zZ,Q]
  refine zg (Qh e.main) ?_
  cases hid:wR e.main with
  |false=>simp+decide[int]
  |true=>
   by_cases T:e.main=e.id
   .simp+decide[int,T]
   by_cases V:(5:Int)<e.senses.length
   .simp+decide[int,zZ,T,V]
   by_cases X:(e.senses.length:Int)=0
   .simp+decide[int,zZ,Q,T,V,X]
    refine zr mixed (λk:Nat=>{n:=52,next:=1,slots:=[(1,.bp 0 0),(3,.d (int k))],own:=[(0,.box 102 (e.row.map .d))]})
     (λk=>k<=e.senses.length/\∀ s∈e.senses.take k,xl s.gloss=true) (λk=>e.senses.length-k) 0 (by simp) (by simp+decide[int,ints,Ent.row,zZ,Q]) ?_
    intro k ⟨Y,F⟩;by_cases G:k<e.senses.length
    .have H:(k:Int)<e.senses.length:=by omega
     have E:=O.senses.2 e.senses[k] (List.getElem_mem G);obtain⟨s,es⟩:∃ s,e.senses[k]=s:=⟨_,rfl⟩;have es1:e.senses[k]?=some s:=by rw[List.getElem?_eq_getElem G,es]
     rw[es] at E;have Z:=U8 (e.senses.take k) s (by rw[List.length_take];omega) E.1
     have eS:zZ (e.senses.take k) = .sl ((e.senses.map Sens.row).take k):=by simp[zZ,List.map_take]
     rw[eS] at Z;have J:∀ a∈e.senses,a.row.length=2:=λa _=>rfl
     simp+decide[int,ints,zZ,Ent.row,G,H,es,es1];refine⟨by omega,J,by rfl,by simp[Sens.row],?_⟩
     refine scp Z ?_
     by_cases A:ZK (e.senses.take k) s=0
     case neg=>simp+decide[int,A]
     rw[A];simp+decide[int,ints,zZ,Ent.row,I64];exact⟨⟨by omega,by omega⟩,k+1,⟨G,Ua G F (by rw[es];exact U9 A)⟩,by omega,by omega⟩
    .have H:¬(k:Int)<e.senses.length:=by omega
     simp+decide[int,ints,zZ,Ent.row,H];exact⟨by omega,Ub Y G F⟩
   .have L:¬e.senses=[]:=by intro h;rw[h] at X;simp at X
    simp+decide[int,zZ,Q,T,V,X,L];refine zr mixed (λk:Nat=>{n:=52,next:=1,slots:=[(1,.bp 0 0),(3,.d (int k))],own:=[(0,.box 102 (e.row.map .d))]})
     (λk=>k<=e.senses.length/\∀ s∈e.senses.take k,xl s.gloss=true) (λk=>e.senses.length-k) 0 (by simp) (by simp+decide[int,ints,Ent.row,zZ,Q]) ?_
    intro k ⟨Y,F⟩;by_cases G:k<e.senses.length
    .have H:(k:Int)<e.senses.length:=by omega
     have E:=O.senses.2 e.senses[k] (List.getElem_mem G);obtain⟨s,es⟩:∃ s,e.senses[k]=s:=⟨_,rfl⟩;have es1:e.senses[k]?=some s:=by rw[List.getElem?_eq_getElem G,es]
     rw[es] at E;have Z:=U8 (e.senses.take k) s (by rw[List.length_take];omega) E.1
     have eS:zZ (e.senses.take k) = .sl ((e.senses.map Sens.row).take k):=by simp[zZ,List.map_take]
     rw[eS] at Z;have J:∀ a∈e.senses,a.row.length=2:=λa _=>rfl
     simp+decide[int,ints,zZ,Ent.row,G,H,es,es1];refine⟨by omega,J,by rfl,by simp[Sens.row],?_⟩
     refine scp Z ?_
     by_cases A:ZK (e.senses.take k) s=0
     case neg=>simp+decide[int,A]
     rw[A];simp+decide[int,ints,zZ,Ent.row,I64];exact⟨⟨by omega,by omega⟩,k+1,⟨G,Ua G F (by rw[es];exact U9 A)⟩,by omega,by omega⟩
    .have H:¬(k:Int)<e.senses.length:=by omega
     simp+decide[int,ints,zZ,Ent.row,H];exact⟨by omega,Ub Y G F⟩
end Go.V
namespace Go.V.Doc
open Go Go.Proofs
end Go.V.Doc
namespace Go.V.Doc
open Go Go.Proofs Go.Lib
theorem Rp{s:ByteArray}{pos:Nat}(h:pos<s.size):validD (s.data.toList.drop pos)=match ub s pos with
  |none=>false
  |some r=>validD (s.data.toList.drop (pos+r.2)):=by
 have H:s.size=s.data.toList.length:=by rw[Array.length_toList];rfl
 have G:s.data.toList.drop pos≠[]:=by
  intro e;have:=congrArg List.length e;rw[List.length_drop] at this;simp at this;omega
 have F:decodeL (s.data.toList.drop pos)=decodeN (s.size-pos) (zD s pos) (zD s (pos+1)) (zD s (pos+2)) (zD s (pos+3)):=by
  rw[decodeL_N,List.length_drop,<-H,getD_dropU,getD_dropU,getD_dropU,getD_dropU];rfl
 rw[validD_step _ G,F]
 have E:=Jb h
 cases K:ub s pos with
 |none=>rw[K] at E;simp only at E;rw[E];simp
 |some r=>
  rw[K] at E;simp only at E;obtain⟨J,L,_,_⟩:=E;rw[J,if_neg L,List.drop_drop]
theorem Rq(n b0 b1 b2 b3:Nat)(H:b0<256)(G:b1<256)(F:b2<256)(E:b3<256)(K:¬((decodeN n b0 b1 b2 b3).1=65533/\(decodeN n b0 b1 b2 b3).2=1)):
  (decodeN n b0 b1 b2 b3=(b0,1))\/(128<=(decodeN n b0 b1 b2 b3).1/\128<=b0/\(1<(decodeN n b0 b1 b2 b3).2->128<=b1)/\(2<(decodeN n b0 b1 b2 b3).2->128<=b2)/\(3<(decodeN n b0 b1 b2 b3).2->128<=b3)/\(decodeN n b0 b1 b2 b3).2<=4):=by
 revert K
 unfold decodeN
 repeat' split
 all_goals intro K
 all_goals first | (left;rfl) | (exfalso;exact K ⟨rfl,rfl⟩) | (right;simp only;refine⟨by omega,by omega,λ_=>by omega,λ_=>by omega,λ_=>by omega,by omega⟩)
theorem Rr{s:ByteArray}{pos:Nat}(h:pos<s.size){r:Nat×Nat}(H:ub s pos=some r):
  qy (r.1:Int)=true↔∃ j,pos<=j/\j<pos+r.2/\badByte (zD s j)=true:=by
 have G:=Jb h
 rw[H] at G
 simp only at G
 obtain⟨F,E,K,J⟩:=G
 have L:=Rq (s.size-pos) (zD s pos) (zD s (pos+1)) (zD s (pos+2)) (zD s (pos+3)) (UInt8.toNat_lt _) (UInt8.toNat_lt _) (UInt8.toNat_lt _) (UInt8.toNat_lt _) (by rw[F];exact E)
 rw[F] at L
 rcases L with L | ⟨g1,g2,g3,g4,g5,g6⟩
 .rw[L]
  simp only[qy,badByte,Bool.or_eq_true,decide_eq_true_eq];constructor
  .intro hb;exact⟨pos,by omega,by omega,by omega⟩
  .rintro⟨j,a,b,c⟩
   obtain rfl:j=pos:=by omega
   omega
 .simp only[qy,badByte,Bool.or_eq_true,decide_eq_true_eq]
  constructor
  .intro hb;omega
  .rintro⟨j,a,b,c⟩
   exfalso
   have hj:j=pos\/j=pos+1\/j=pos+2\/j=pos+3:=by omega
   rcases hj with rfl | rfl | rfl | rfl
   .omega
   .have:=g3 (by omega);omega
   .have:=g4 (by omega);omega
   .have:=g5 (by omega);omega
theorem Uc(s:ByteArray):∀ (m pos:Nat),s.size<=pos+m->pos<=s.size->validD (s.data.toList.drop pos)=(xP s m pos).isSome /\
  ∀ l,xP s m pos=some l->(l.any qy=true↔∃ j,pos<=j/\j<s.size/\badByte (zD s j)=true)
 |0,pos,F,hp=>by
  have H:s.size=s.data.toList.length:=by rw[Array.length_toList];rfl
  rw[List.drop_eq_nil_of_le (by omega),validD_nil]
  refine⟨rfl,λl E=>?_⟩
  simp only[xP,Option.some.injEq] at E;subst E;simp only[List.any_nil,Bool.false_eq_true,false_iff];rintro⟨j,_,_,_⟩;omega
 |m+1,pos,F,hp=>by
  have H:s.size=s.data.toList.length:=by rw[Array.length_toList];rfl
  by_cases h:pos<s.size
  .rw[Rp h]
   simp only[xP,if_pos h];have K:=Jb h;cases J:ub s pos with
   |none=>exact⟨rfl,λl E=>by cases E⟩
   |some r=>
    rw[J] at K;simp only at K
    obtain⟨i1,i2⟩:=Uc s m (pos+r.2) (by omega) (by omega)
    simp only
    refine⟨by rw[i1];cases xP s m (pos+r.2) <;> rfl,λl E=>?_⟩
    rw[Option.map_eq_some_iff] at E;obtain⟨l',G,rfl⟩:=E;rw[List.any_cons,Bool.or_eq_true,i2 l' G,Rr h J];constructor
    .rintro(⟨j,a,b,c⟩ | ⟨j,a,b,c⟩)
     .exact⟨j,by omega,by omega,c⟩
     .exact⟨j,by omega,b,c⟩
    .rintro⟨j,a,b,c⟩
     rcases Nat.lt_or_ge j (pos+r.2) with hj | hj
     .exact .inl ⟨j,a,hj,c⟩
     .exact .inr ⟨j,hj,b,c⟩
  .rw[List.drop_eq_nil_of_le (by omega),validD_nil]
   simp only[xP,if_neg h];refine⟨rfl,λl E=>?_⟩
   simp only[Option.some.injEq] at E;subst E;simp only[List.any_nil,Bool.false_eq_true,false_iff];rintro⟨j,_,_,_⟩;omega
theorem Rs(s:ByteArray):textE s=if 200<s.size then 5 else match xP s s.size 0 with
  |none=>3
  |some l=>if l.any qy=true then 3 else 0:=by
 unfold textE
 split
 .rfl
 .obtain⟨H,G⟩:=Uc s s.size 0 (by omega) (by omega)
  rw[List.drop_zero] at H;have F:U0 s=(xP s s.size 0).isSome:=H
  rw[F];cases E:xP s s.size 0 with
  |none=>rfl
  |some l=>
   simp only[Option.isSome_some,if_true];have:=G l E
   have K:Jf s=true↔l.any qy=true:=by
    rw[this];unfold Jf;rw[List.any_eq_true];constructor
    .rintro⟨j,hj,K⟩;exact⟨j,by omega,by simpa using hj,K⟩
    .rintro⟨j,_,hj,K⟩;exact⟨j,by simpa using hj,K⟩
   by_cases h:l.any qy=true
   .rw[if_pos h,if_pos (K.2 h)]
   .rw[if_neg h,if_neg (λJ=>h (K.1 J))]
end Go.V.Doc
namespace Go.V
open Go Go.Proofs
end Go.V
namespace Go.V.Doc
open Go Go.Proofs Go.Sort Go.RowKit
def qm:Nt->Nt->Bool:=ltOf ZF
theorem Rt:∀ args w,(callFunc 113 args).run Tryz.prog w = .ok (.enter 113 args) w:=enters_of Tryz.func113 (by kernel_rfl) rfl
theorem Cu:∀ w,(isAgg 72).run Tryz.prog w = .ok true w:=λw=>by kernel_rfl
theorem Cv:∀ w,(Go.sizeOf 72).run Tryz.prog w = .ok 7 w:=λw=>by kernel_rfl
def Ud:Nat->Nat->Array Nt->Array Nt
 |0,_,d=>d
 |k+1,i,d=>Ud k (i+1) (insInner qm 0 i d)
theorem Cw(b:Nat):∀ (k i:Nat) (d:Array Nt),k=b-i->insOuter qm 0 b i d=Ud k i d
 |0,i,d,h=>by unfold insOuter;rw[if_neg (by omega)];rfl
 |k+1,i,d,h=>by unfold insOuter;rw[if_pos (by omega),Cw b k (i+1) _ (by omega)];rfl
def qY(l:List Nt):List Nt:=(Ud (l.length-1) 1 l.toArray).toList
theorem Cx(l:List Nt):(Sort.insertionSort qm l.toArray 0 l.length)=(qY l).toArray:=by
 unfold Sort.insertionSort qY
 rw[Cw l.length (l.length-1) (0+1) _ (by omega)]
theorem Ru(T:Nat)(l:List Nt)(F:l≠[])(K:l.length<4611686018427387904)(hs:(qY l).length=l.length):
  zJ Tryz.prog 172 [.ar 0,.d (int 0),.d (int l.length),.fn 113 []] [(0,.arr T 7 (l.map Nt.row))] 1 (.d (.tup [])) 1 [(0,.arr T 7 ((qY l).map Nt.row))] []:=by
 refine GK gQ c_172 F hs ?_
 intro w E β vs G H g cap J L M
 simp only[zh,Sm,R,int] at G
 obtain⟨_,_,rfl,rfl,_,_,rfl,rfl,_,_,rfl,⟨_,rfl,rfl⟩,rfl⟩:=G
 have:=AnyQ.insertionSortCmpFunc Tryz.zjb 7 Cu Cv Nt.enc gQ.len gQ.one ZF 113 #[] g 0 cap 0 l.length l.toArray w Rt
  (PS H L) M J (Nat.zero_le _) (by simp) (by simpa using K)
 change Calls Tryz.prog 172 _ _ _ at this
 rw[show ltOf ZF=qm from rfl,Cx] at this
 simpa using this
end Go.V.Doc
namespace Go.V.Doc
open Go Go.Proofs
theorem Cy(s:ByteArray):zj Tryz.prog 132 [.str s] (int (textE s)):=by
 refine zn mixed Tryz.func132 rfl c_132 ?_
 rw[Rs]
 by_cases K:200<s.size
 .have F:(200:Int)<s.size:=by omega
  simp+decide[Tryz.f132,F,K,int]
 have F:¬(200:Int)<s.size:=by omega
 simp+decide[Tryz.f132,F,K,int]
 refine zg (Jc s (by omega)) ?_
 cases J:xP s s.size 0 with
 |none=>simp+decide[wo]
 |some l=>
  have E:l.length<=s.size:=KZ s _ _ _ J
  simp+decide[wo,ints];refine zr mixed (λk:Nat=>{n:=34,next:=0,slots:=[(3,.d (ints l)),(5,.d (int k))],own:=[]})
   (λk=>k<=l.length/\∀ x∈l.take k,qy x=false) (λk=>l.length-k) 0 (by simp) (by simp+decide[int,ints]) ?_
  intro k ⟨L,M⟩;by_cases H:k<l.length
  .have e1:l[k]?=some l[k]:=List.getElem?_eq_getElem H
   have G:qy l[k]=true->l.any qy=true:=λO=>List.any_eq_true.2 ⟨l[k],List.getElem_mem H,O⟩
   by_cases b1:l[k]<32
   .have O:=G (by simp[qy,b1])
    simp+decide[ints,int,H,b1];exact List.any_eq_true.1 O
   .by_cases b2:l[k]=127
    .have O:=G (by simp[qy,b2])
     simp+decide[ints,int,H,b2];exact List.any_eq_true.1 O
    .simp+decide[ints,int,H,b1,b2,I64]
     refine⟨by omega,k+1,⟨H,?_⟩,by omega,by omega⟩
     rw[List.take_succ_eq_append_getElem H];intro x Q;rcases List.mem_append.1 Q with Q | Q
     .exact M x Q
     .simp at Q;rw[Q];simp[qy,b1,b2]
  .have:k=l.length:=by omega
   subst this;rw[List.take_length] at M;have O:l.any qy=false:=by rw[List.any_eq_false];intro x Q;simp[M x Q]
   simp+decide[ints,int];exact M
def yJ(f t:Int):Bool:=decide (0<=f)&&decide (f<t)&&decide (t<=86400000)
def zu(d:Dc)(i:Int):Tir:=d.tiers[i.toNat]?.getD default
def jr(d:Dc)(n p:Nt):Bool:=
 if Qg d.tiers n.tier=true then yJ n.fr n.tO&&(if (zu d n.tier).kind=0 then decide (0<=n.fr)&&decide (n.tO<=d.len) else decide (p.fr<=n.fr)&&decide (n.tO<=p.tO))
 else decide (n.fr=0)&&decide (n.tO=0)
def Qj(d:Dc)(n:Nt):Int:=
 if textE n.text=0 then
  (if (if (zu d n.tier).kind=0 then decide (n.par=0) else (zp d.notes n.par).2&&decide ((zp d.notes n.par).1.tier=(zu d n.tier).par))=true then
   (if jr d n (zp d.notes n.par).1=true then (if n.rank<0\/(n.rank≠0/\(zu d n.tier).kind≠3) then 1 else 0) else 12)
  else 13)
 else textE n.text
end Go.V.Doc
namespace Go.V.Doc
open Go Go.Proofs Go.Sort Go.RowKit
theorem Ue{a b:Nt}:qm a b=true↔a.par<b.par\/(a.par=b.par/\(a.fr<b.fr\/(a.fr=b.fr/\a.rank<b.rank))):=by
 unfold qm ltOf ZF
 rw[decide_eq_true_eq]
 simp only[ud,xK]
 repeat' split
 all_goals omega
theorem Ji{a b:Nt}:qm a b=false↔¬(a.par<b.par\/(a.par=b.par/\(a.fr<b.fr\/(a.fr=b.fr/\a.rank<b.rank)))):=by
 rw[<-Ue,Bool.not_eq_true]
theorem Cz:SWO qm where
 irrefl:=λx=>by rw[Ji];omega
 trans:=λx y z H h2=>by rw[Ue] at *;omega
 ntrans:=λx y z H h2=>by rw[Ji] at *;omega
def xx(l:List Nt):List Nt:=(pdq qm l.toArray 0 l.length (Lib.bitLen l.length) true true).toList
theorem Uf(l:List Nt):PermIn 0 l.length l.toArray (pdq qm l.toArray 0 l.length (Lib.bitLen l.length) true true)/\SortedIn qm 0 l.length (pdq qm l.toArray 0 l.length (Lib.bitLen l.length) true true):=
 pdq_sorts qm Cz l.toArray 0 l.length (Lib.bitLen l.length) true true (Nat.zero_le _) (by simp) (Or.inl rfl)
theorem Jj(l:List Nt):(xx l).length=l.length:=by
 have:=(Uf l).1.1
 unfold xx
 rw[Array.length_toList,this];simp
theorem CB(l:List Nt):(xx l).Perm l:=by
 obtain⟨H,_,G⟩:=(Uf l).1
 unfold xx
 generalize pdq qm l.toArray 0 l.length (Lib.bitLen l.length) true true=A at H G
 have e1:A.extract 0 l.length=A:=by rw[show l.length=A.size by rw[H];simp];simp
 have e2:l.toArray.extract 0 l.length=l.toArray:=by rw[show l.length=l.toArray.size by simp];simp
 rw[e1,e2] at G
 simpa using G
theorem Rv(l:List Nt):(xx l).Pairwise λa b=>qm b a=false:=by
 have hs:=(Uf l).2
 have G:=Jj l
 unfold xx at G ⊢
 generalize pdq qm l.toArray 0 l.length (Lib.bitLen l.length) true true=A at hs G
 rw[List.pairwise_iff_getElem]
 intro i j hi hj H
 rw[Array.length_toList] at G
 have:=hs i j (Nat.zero_le _) H (by rw[Array.length_toList] at hj;omega)
 rw[Array.length_toList] at hi hj
 simpa[getElem!_pos,hi,hj] using this
abbrev Ug:List (Nat×Obj'):=[(0,.arr 72 7 [])]
theorem Rw:zJ Tryz.prog 172 [.ar 0,.d (int 0),.d (int 0),.fn 113 []] Ug 1 (.tup []) 1 Ug []:=by
 refine xW mixed Tryz.func172 rfl c_172 (by simp[Sym.los,Sym.lo]) ?_
 simp+decide[Tryz.f172,int]
 refine⟨by unfold I64;omega,zr mixed (λ_:Unit=>{n:=53,next:=1,slots:=[(2,.d (int 0)),(8,.d (int 1))],own:=Ug,base:=1})
  (λ_=>True) (λ_=>0) () trivial (by simp+decide[int]) ?_⟩
 intro _ _
 simp+decide[int]
theorem Rx:zj Tryz.prog 181 [.int .u64 0] (int 0):=by
 refine zn mixed Tryz.func181 rfl c_181 ?_
 simp+decide[Tryz.f181,int,byteAt,jD,show IntKind.u8.wrap 0=0 from rfl]
 rw[show IntKind.i64.wrap 0=0 from rfl];unfold I64;omega
theorem Ry:zj Tryz.prog 122 [.int .u64 0] (int 0):=by
 refine zn mixed Tryz.func122 rfl c_122 ?_
 simp+decide[Tryz.f122,int]
 refine zg (Rx) ?_
 simp+decide[int]
theorem zJ.unit{P:Program}{f:Nat}{args:List Sym}{own:List (Nat×Obj')}{n nx:Nat}{own':List (Nat×Obj')}{mv:List Nat}(h:zJ P f args own n (.tup []) nx own' mv):zJ P f args own n (.d (.tup [])) nx own' mv:=by
 refine⟨h.1,λX w0 β w vs hβ H hs=>(h.2 X w0 β w vs hβ H hs).mono λe w' G=>?_⟩
 obtain⟨β',v,F,E,K,J⟩:=G
 refine⟨β',v,F,E,by simp[Sym.lo],?_⟩
 simp only[Sm,zh] at J
 obtain⟨vs',rfl,rfl⟩:=J
 simp[Sm,R,zH]
end Go.V.Doc
namespace Go.V.Doc
open Go Go.Proofs
def y7(l:List Nt)(t:Int):List Nt:=l.filter λn=>decide (n.tier=t)
def yK(s:List Nt)(i:Nat):Bool:=decide (i=0) || !decide ((s[i-1]?.getD default).par=(s[i]?.getD default).par)
def lastB(s:List Nt)(i:Nat):Bool:=decide (i+1=s.length) || !decide ((s[i+1]?.getD default).par=(s[i]?.getD default).par)
def ZL(notes:List Nt)(kind:Int)(s:List Nt):Nat->Nat->Int->Int
 |0,_,why=>why
 |m+1,i,why=>if i<s.length then
   (let n:=s[i]?.getD default
    let pv:=s[i-1]?.getD default
    let p:=(zp notes n.par).1
    if kind=0\/kind=1\/kind=2 then
     (if yK s i=false/\n.fr<pv.tO then 15
     else ZL notes kind s m (i+1) (if kind=1/\((yK s i=true/\n.fr≠p.fr)\/(yK s i=false/\pv.tO≠n.fr)\/(lastB s i=true/\n.tO≠p.tO)) then 16 else why))
    else if kind=3 then ZL notes kind s m (i+1) (if (yK s i=true/\n.rank≠0)\/(yK s i=false/\n.rank≠IntKind.i64.wrap (pv.rank+1)) then 10 else why)
    else if kind=4 then ZL notes kind s m (i+1) (if yK s i=false then 8 else why)
    else ZL notes kind s m (i+1) why)
  else why
def Qk(d:Dc)(t:Int):Int:=ZL d.notes (zu d t).kind (xx (y7 d.notes t)) (y7 d.notes t).length 0 0
def vp(d:Dc):Nat->Nat->Int
 |0,_=>0
 |m+1,i=>if i<d.notes.length then
   (let n:=d.notes[i]?.getD default
    if n.id<1\/1099511627776<n.id then 2 else if i≠0/\n.id<=(d.notes[i-1]?.getD default).id then 10
    else if n.tier<0\/(d.tiers.length:Int)<=n.tier then 2 else if Qj d n=0 then vp d m (i+1) else Qj d n)
  else 0
def Jk(d:Dc):Nat->Nat->Int
 |0,_=>0
 |m+1,i=>if i<d.tiers.length then (if Qk d i=0 then Jk d m (i+1) else Qk d i) else 0
def Uh(d:Dc):Int:=
 if wt d.tiers≠0 then wt d.tiers else if d.len<0\/86400000<d.len then 12 else if 300<d.notes.length then 11
 else if vp d d.notes.length 0≠0 then vp d d.notes.length 0 else Jk d d.tiers.length 0
theorem qJ(k:Int):zj Tryz.prog 135 [int k] (.bool (zT k)):=by
 refine zn mixed Tryz.func135 rfl c_135 ?_
 by_cases H:k=0
 .subst H;simp+decide[Tryz.f135,int,zT]
 by_cases G:k=1
 .subst G;simp+decide[Tryz.f135,int,zT]
 by_cases F:k=2
 .subst F;simp+decide[Tryz.f135,int,zT]
 simp+decide[Tryz.f135,int,zT,H,G,F]
theorem xQ(f t:Int):zj Tryz.prog 193 [.agg [int f,int t]] (.bool (yJ f t)):=by
 refine zn mixed Tryz.func193 rfl c_193 ?_
 by_cases H:0<=f
 case neg=>simp+decide[Tryz.f193,int,yJ,H]
 by_cases G:f<t
 case neg=>simp+decide[Tryz.f193,int,yJ,H,G]
 simp+decide[Tryz.f193,int,yJ,H,G]
def wu(d:Dc)(n:Nt):Int:=
 if (if (zu d n.tier).kind=0 then decide (n.par=0) else (zp d.notes n.par).2&&decide ((zp d.notes n.par).1.tier=(zu d n.tier).par))=true then
  (if jr d n (zp d.notes n.par).1=true then (if n.rank<0\/(n.rank≠0/\(zu d n.tier).kind≠3) then 1 else 0) else 12)
 else 13
theorem YE(d:Dc)(n:Nt):Qj d n=if textE n.text=0 then wu d n else textE n.text:=rfl
theorem Rz(d:Dc)(n:Nt)(E:d.tiers.length<2^62)(K:d.notes.length<2^62)(J:0<=n.tier)(L:n.tier<d.tiers.length):
  zj Tryz.prog 133 [zw d,.agg n.row] (int (wu d n)):=by
 refine zn mixed Tryz.func133 rfl c_133 ?_
 obtain⟨ni,nt,np,nf,nto,nr,nx⟩:=n
 simp only at J L
 obtain⟨k,rfl⟩:∃ k:Nat,nt=k:=⟨nt.toNat,by omega⟩
 have M:k<d.tiers.length:=by omega
 obtain⟨t,ek⟩:∃ t,d.tiers[k]=t:=⟨_,rfl⟩
 have e1:d.tiers[k]?=some t:=by rw[List.getElem?_eq_getElem M,ek]
 have et:zu d (k:Int)=t:=by simp[zu,e1]
 obtain⟨tn,kd,tr,tp⟩:=t
 have F:Qg d.tiers (k:Int)=zT kd:=by
  unfold Qg;rw[decide_eq_true (by omega),decide_eq_true (by omega),Int.toNat_natCast,e1];rfl
 simp+decide[Tryz.f133,zw,Dc.row,Nt.row,Tir.row,int,ints,zy,zK,M,e1,ek]
 refine zg (ZH d np K) ?_
 have H:wu d ⟨ni,k,np,nf,nto,nr,nx⟩=if (if kd=0 then decide (np=0) else (zp d.notes np).2&&decide ((zp d.notes np).1.tier=tp))=true then
  (if jr d ⟨ni,k,np,nf,nto,nr,nx⟩ (zp d.notes np).1=true then (if nr<0\/(nr≠0/\kd≠3) then 1 else 0) else 12) else 13:=by
  simp only[wu,et]
 rw[H]
 have G:∀ q:Nt,jr d ⟨ni,k,np,nf,nto,nr,nx⟩ q=if zT kd=true then yJ nf nto&&(if kd=0 then decide (0<=nf)&&decide (nto<=d.len) else decide (q.fr<=nf)&&decide (nto<=q.tO))
   else decide (nf=0)&&decide (nto=0):=by
  intro q;simp only[jr,et,F]
 simp only[G]
 clear H G
 obtain⟨⟨p,ok⟩,eg⟩:∃ g,zp d.notes np=g:=⟨_,rfl⟩
 rw[eg]
 obtain⟨pi,pt,pp,pf,pto,prr,px⟩:=p
 simp only[getD']
 by_cases k0:kd=0
 .subst k0
  have ak:zT 0=true:=rfl
  by_cases p0:np=0
  case neg=>
   repeat first | refine zg (qJ _) ?_ | refine zg (xQ _ _) ?_ | simp+decide[int,Nt.row,Tir.row,ak,p0]
  subst p0;by_cases O:yJ nf nto=true
  case neg=>
   repeat first | refine zg (qJ _) ?_ | refine zg (xQ _ _) ?_ | simp+decide[int,Nt.row,Tir.row,ak,O]
  have Q:0<=nf:=by simp only[yJ,Bool.and_eq_true,decide_eq_true_eq] at O;omega
  by_cases T:nto<=d.len
  case neg=>
   repeat first | refine zg (qJ _) ?_ | refine zg (xQ _ _) ?_ | simp+decide[int,Nt.row,Tir.row,ak,O,Q,T]
  by_cases r1:nr<0
  .skip
   repeat first | refine zg (qJ _) ?_ | refine zg (xQ _ _) ?_ | simp+decide[int,Nt.row,Tir.row,ak,O,Q,T,r1]
  by_cases r2:nr=0
  .skip
   repeat first | refine zg (qJ _) ?_ | refine zg (xQ _ _) ?_ | simp+decide[int,Nt.row,Tir.row,ak,O,Q,T,r1,r2]
  repeat first | refine zg (qJ _) ?_ | refine zg (xQ _ _) ?_ | simp+decide[int,Nt.row,Tir.row,ak,O,Q,T,r1,r2]
 cases ok with
 |false=>
  repeat first | refine zg (qJ _) ?_ | refine zg (xQ _ _) ?_ | simp+decide[int,Nt.row,Tir.row,k0]
 |true=>
  by_cases pq:pt=tp
  case neg=>
   repeat first | refine zg (qJ _) ?_ | refine zg (xQ _ _) ?_ | simp+decide[int,Nt.row,Tir.row,k0,pq]
  by_cases V:zT kd=true
  .skip
   have k3:¬kd=3:=by rintro rfl;exact absurd V (by decide)
   by_cases O:yJ nf nto=true
   case neg=>
    repeat first | refine zg (qJ _) ?_ | refine zg (xQ _ _) ?_ | simp+decide[int,Nt.row,Tir.row,k0,pq,V,O]
   by_cases b1:pf<=nf
   case neg=>
    repeat first | refine zg (qJ _) ?_ | refine zg (xQ _ _) ?_ | simp+decide[int,Nt.row,Tir.row,k0,pq,V,O,b1]
   by_cases b2:nto<=pto
   case neg=>
    repeat first | refine zg (qJ _) ?_ | refine zg (xQ _ _) ?_ | simp+decide[int,Nt.row,Tir.row,k0,pq,V,O,b1,b2]
   by_cases r1:nr<0
   .skip
    repeat first | refine zg (qJ _) ?_ | refine zg (xQ _ _) ?_ | simp+decide[int,Nt.row,Tir.row,k0,pq,V,O,b1,b2,k3,r1]
   by_cases r2:nr=0
   .skip
    repeat first | refine zg (qJ _) ?_ | refine zg (xQ _ _) ?_ | simp+decide[int,Nt.row,Tir.row,k0,pq,V,O,b1,b2,k3,r1,r2]
   repeat first | refine zg (qJ _) ?_ | refine zg (xQ _ _) ?_ | simp+decide[int,Nt.row,Tir.row,k0,pq,V,O,b1,b2,k3,r1,r2]
  by_cases z1:nf=0
  case neg=>
   repeat first | refine zg (qJ _) ?_ | refine zg (xQ _ _) ?_ | simp+decide[int,Nt.row,Tir.row,k0,pq,V,z1]
  by_cases z2:nto=0
  case neg=>
   repeat first | refine zg (qJ _) ?_ | refine zg (xQ _ _) ?_ | simp+decide[int,Nt.row,Tir.row,k0,pq,V,z1,z2]
  by_cases r1:nr<0
  .skip
   repeat first | refine zg (qJ _) ?_ | refine zg (xQ _ _) ?_ | simp+decide[int,Nt.row,Tir.row,k0,pq,V,z1,z2,r1]
  by_cases r2:nr=0
  .skip
   repeat first | refine zg (qJ _) ?_ | refine zg (xQ _ _) ?_ | simp+decide[int,Nt.row,Tir.row,k0,pq,V,z1,z2,r1,r2]
  by_cases r3:kd=3
  .skip
   subst r3;repeat first | refine zg (qJ _) ?_ | refine zg (xQ _ _) ?_ | simp+decide[int,Nt.row,Tir.row,k0,pq,V,z1,z2,r1,r2]
  repeat first | refine zg (qJ _) ?_ | refine zg (xQ _ _) ?_ | simp+decide[int,Nt.row,Tir.row,k0,pq,V,z1,z2,r1,r2,r3]
def js(d:Dc)(i:Nat):Int:=
 let n:=d.notes[i]?.getD default
 if n.id<1\/1099511627776<n.id then 2 else if i≠0/\n.id<=(d.notes[i-1]?.getD default).id then 10
 else if n.tier<0\/(d.tiers.length:Int)<=n.tier then 2 else Qj d n
theorem Ui(d:Dc):∀ (m i:Nat),vp d (m+1) i=if i<d.notes.length then (if js d i=0 then vp d m (i+1) else js d i) else 0:=by
 intro m i
 simp only[vp,js]
 split
 .split
  .simp
  .split
   .simp
   .split
    .simp
    .rfl
 .rfl
theorem RA(d:Dc)(i:Nat)(hi:i<d.notes.length)(L:d.tiers.length<2^62)(M:d.notes.length<2^62)(O:∀ n∈d.notes,n.text.size<=9223372036854775807):
  zj Tryz.prog 80 [zw d,int i] (int (js d i)):=by
 refine zn mixed Tryz.func80 rfl c_80 ?_
 have H:(i:Int)<d.notes.length:=by omega
 obtain⟨n,en'⟩:∃ n,d.notes[i]=n:=⟨_,rfl⟩
 have en:d.notes[i]?=some n:=by rw[List.getElem?_eq_getElem hi,en']
 have K:=O n (by rw[<-en'];exact List.getElem_mem hi)
 have E:=λa b=>Rz d n L M a b
 have Q:js d i=if n.id<1\/1099511627776<n.id then 2 else if i≠0/\n.id<=(d.notes[i-1]?.getD default).id then 10
  else if n.tier<0\/(d.tiers.length:Int)<=n.tier then 2 else if textE n.text=0 then wu d n else textE n.text:=by
  simp only[js,en,Option.getD_some,YE]
 rw[Q]
 clear Q
 have B:True:=trivial
 by_cases a1:n.id<1
 .simp+decide[Tryz.f80,zw,Dc.row,zy,Nt.row,int,ints,hi,H,en,en',a1]
 by_cases a2:1099511627776<n.id
 .simp+decide[Tryz.f80,zw,Dc.row,zy,Nt.row,int,ints,hi,H,en,en',a1,a2]
 have fin:∀ (J:¬(i≠0/\n.id<=(d.notes[i-1]?.getD default).id)),True:=λ_=>trivial
 cases i with
 |zero=>
  by_cases b1:n.tier<0
  .simp+decide[Tryz.f80,zw,Dc.row,zy,Nt.row,int,ints,hi,H,en,en',a1,a2,b1]
  by_cases b2:(d.tiers.length:Int)<=n.tier
  .simp+decide[Tryz.f80,zw,Dc.row,zy,Nt.row,int,ints,zK,hi,H,en,en',a1,a2,b1,b2]
  simp+decide[Tryz.f80,zw,Dc.row,zy,Nt.row,int,ints,zK,hi,H,en,en',a1,a2,b1,b2];refine zg (Cy n.text) ?_
  by_cases T:textE n.text=0
  case neg=>simp+decide[int,T]
  simp+decide[int,T];refine zg (E (by omega) (by omega)) ?_
  simp+decide[int]
 |succ j=>
  have F:j<d.notes.length:=by omega
  have G:(j:Int)<d.notes.length:=by omega
  obtain⟨pv,ep'⟩:∃ pv,d.notes[j]=pv:=⟨_,rfl⟩;have ep:d.notes[j]?=some pv:=by rw[List.getElem?_eq_getElem F,ep']
  have j0:(0:Int)<(j:Int)+1:=by omega
  have j1:(j:Int)+1-1=j:=by omega
  have jz:¬(j:Int)+1=0:=by omega
  have V:(j:Int)+1<d.notes.length:=by omega
  have tn1:((j:Int)+1).toNat=j+1:=by omega
  have g0:(0:Int)<=(j:Int)+1:=by omega
  have g1 : -9223372036854775808<=(j:Int):=by omega
  have g2:(j:Int)<=9223372036854775807:=by omega
  by_cases c1:n.id<=pv.id
  .simp+decide[Tryz.f80,zw,Dc.row,zy,Nt.row,int,ints,hi,H,en,en',a1,a2,F,G,ep,ep',j0,j1,V,tn1,c1,I64,g0,g1,g2]
  by_cases b1:n.tier<0
  .simp+decide[Tryz.f80,zw,Dc.row,zy,Nt.row,int,ints,hi,H,en,en',a1,a2,F,G,ep,ep',j0,j1,V,tn1,c1,I64,g0,g1,g2,b1]
  by_cases b2:(d.tiers.length:Int)<=n.tier
  .simp+decide[Tryz.f80,zw,Dc.row,zy,Nt.row,int,ints,zK,hi,H,en,en',a1,a2,F,G,ep,ep',j0,j1,V,tn1,c1,I64,g0,g1,g2,b1,b2]
  simp+decide[Tryz.f80,zw,Dc.row,zy,Nt.row,int,ints,zK,hi,H,en,en',a1,a2,F,G,ep,ep',j0,j1,V,tn1,c1,I64,g0,g1,g2,b1,b2];refine zg (Cy n.text) ?_
  by_cases T:textE n.text=0
  case neg=>simp+decide[int,T]
  simp+decide[int,T];refine zg (E (by omega) (by omega)) ?_
  simp+decide[int]
structure Sp where
 (fr:Int)
 (tO : Int)
 deriving Inhabited,DecidableEq
def Sp.row(s:Sp):List D:=[int s.fr,int s.tO]
def xy(l:List Sp):D:=.sl (l.map Sp.row)
abbrev Sp.rt(s:Sp):Bool:=yJ s.fr s.tO
def wS(x s:Sp):List Sp:=(if yJ x.fr (min x.tO s.fr)=true then [⟨x.fr,min x.tO s.fr⟩] else [])++(if yJ (max x.fr s.tO) x.tO=true then [⟨max x.fr s.tO,x.tO⟩] else [])
def qn(l:List Sp)(s:Sp):List Sp:=l.flatMap λx=>wS x s
def qK(a b:List Sp):List Sp:=b.foldl (λout y=>if y.rt=true then qn out y else out) a
def wv(l:List Sp)(s:Sp):Bool:=s.rt&&(qK [s] l).isEmpty
theorem RB(x s:Sp):(wS x s).length<=2:=by
 unfold wS;split <;> split <;> simp
theorem RD(l:List Sp)(s:Sp):(qn l s).length<=2*l.length:=by
 unfold qn
 induction l with
 |nil=>simp
 |cons x r ih=>
  have:=RB x s
  rw[List.flatMap_cons,List.length_append,List.length_cons];omega
theorem RE{l:List Sp}{s:Sp}{k:Nat}(h:k<l.length):qn (l.take (k+1)) s=qn (l.take k) s++wS l[k] s:=by
 unfold qn
 rw[take_snoc' h,List.flatMap_append];simp
def qL(l:List Sp):Int:=(l.map λx=>x.tO-x.fr).sum
theorem RF(a b:List Sp):qL (a++b)=qL a+qL b:=by simp[qL]
theorem RG{x s:Sp}(H:x.rt=true)(hs:s.rt=true):qL (wS x s)<=x.tO-x.fr:=by
 simp only[Sp.rt,yJ,Bool.and_eq_true,decide_eq_true_eq] at H hs
 unfold wS
 split <;> split <;> simp[qL] <;> omega
theorem RH(x s:Sp):∀ y∈wS x s,y.rt=true:=by
 intro y H
 unfold wS at H
 rcases List.mem_append.1 H with h | h
 .split at h
  .rename_i e;simp at h;subst h;exact e
  .cases h
 .split at h
  .rename_i e;simp at h;subst h;exact e
  .cases h
theorem CG{l:List Sp}{s:Sp}:∀ y∈qn l s,y.rt=true:=by
 intro y H
 unfold qn at H
 obtain⟨x,_,h⟩:=List.mem_flatMap.1 H
 exact RH x s y h
theorem CH{s:Sp}(hs:s.rt=true):∀ {l:List Sp},(∀ x∈l,x.rt=true)->qL (qn l s)<=qL l
 | [],_=>by simp[qn,qL]
 |x::r,h=>by
  have H:=RG (h x (by simp)) hs
  have G:=CH hs (l:=r) (λy F=>h y (by simp[F]))
  have e1:qn (x::r) s=wS x s++qn r s:=by unfold qn;rw[List.flatMap_cons]
  have e2:qL (x::r)=(x.tO-x.fr)+qL r:=by simp[qL]
  rw[e1,RF,e2];omega
theorem CJ:∀ {l:List Sp},(∀ x∈l,x.rt=true)->(l.length:Int)<=qL l
 | [],_=>by simp[qL]
 |x::r,h=>by
  have H:=h x (by simp)
  simp only[Sp.rt,yJ,Bool.and_eq_true,decide_eq_true_eq] at H;have G:=CJ (l:=r) (λy F=>h y (by simp[F]))
  have e2:qL (x::r)=(x.tO-x.fr)+qL r:=by simp[qL]
  rw[e2,List.length_cons];omega
theorem Jl:∀ (b a:List Sp),(∀ x∈a,x.rt=true)->(∀ x∈qK a b,x.rt=true)/\qL (qK a b)<=qL a
 | [],a,h=>⟨h,Int.le_refl _⟩
 |y::r,a,h=>by
  have e:qK a (y::r)=qK (if y.rt=true then qn a y else a) r:=rfl
  rw[e];by_cases H:y.rt=true
  .rw[if_pos H]
   have G:=Jl r (qn a y) CG;have F:=CH H h;exact⟨G.1,by omega⟩
  .rw[if_neg H];exact Jl r a h
theorem RI{s:Sp}(hs:s.rt=true)(b:List Sp):(qK [s] b).length<=86400000:=by
 obtain⟨H,G⟩:=Jl b [s] (by simpa using hs)
 have F:=CJ H
 simp only[Sp.rt,yJ,Bool.and_eq_true,decide_eq_true_eq] at hs
 have E:qL [s]=s.tO-s.fr:=by simp[qL]
 omega
theorem RJ{a b:List Sp}{k:Nat}(h:k<b.length):qK a (b.take (k+1))=if b[k].rt=true then qn (qK a (b.take k)) b[k] else qK a (b.take k):=by
 unfold qK
 rw[take_snoc' h,List.foldl_append];rfl
theorem RL(s:Sp):zj Tryz.prog 259 [xy [],.agg s.row] (xy [s]):=by
 refine Zs mixed Tryz.func259 rfl c_259 [2] ?_
 simp+decide[Tryz.f259,xy,Sp.row,int]
 refine zr mixed (λk:Nat=>{n:=69,next:=4,slots:=[(0,.d (.sl [])),(3,.bp 0 0),(5,.ar 2),(6,.ar 3),(7,.d (.int .i64 k))],own:=[(0,.box 70 [.d (int s.fr),.d (int s.tO)]),(2,.arr 70 2 []),(3,.arr 70 2 [])]})
  (λk=>k=0) (λk=>0) 0 (by simp) (by simp+decide[int]) ?_
 rintro k rfl
 simp+decide[int,maxLen]
theorem RN(l:List Sp)(s:Sp)(E:l.length<2^40):zj Tryz.prog 228 [xy l,.agg s.row] (xy (qn l s)):=by
 refine Zs mixed Tryz.func228 rfl c_228 [2] ?_
 simp+decide[Tryz.f228,Sp.row,int]
 refine zr mixed (λk:Nat=>{n:=57,next:=3,slots:=[(0,.d (xy l)),(3,.bp 0 0),(5,.ar 2),(6,.d (.int .i64 k))],own:=[(0,.box 70 [.d (int s.fr),.d (int s.tO)]),(2,.arr 70 2 ((qn (l.take k) s).map Sp.row))],moved:=[2]})
  (λk=>k<=l.length) (λk=>l.length-k) 0 (by simp) (by simp+decide[int,qn]) ?_
 intro k K
 by_cases H:k<l.length
 .have G:(k:Int)<l.length:=by omega
  obtain⟨x,ex'⟩:∃ x,l[k]=x:=⟨_,rfl⟩;have ex:l[k]?=some x:=by rw[List.getElem?_eq_getElem H,ex']
  have hsn:=RE (s:=s) H;rw[ex'] at hsn;have J:=RD (l.take k) s;have F:(l.take k).length=k:=by rw[List.length_take];omega
  rw[F] at J;generalize qn (l.take k) s=W at J hsn ⊢;simp+decide[int,xy,G];have m1:(if s.fr<x.tO then s.fr else x.tO)=min x.tO s.fr:=by rw[Int.min_def];split <;> split <;> omega
  have m2:(if x.fr<s.tO then s.tO else x.fr)=max x.fr s.tO:=by rw[Int.max_def];split <;> split <;> omega
  refine VK mixed 16 [] (by rfl) (by rfl) (by rfl) (by rfl) ?_
  simp+decide[int,Sp.row,H,G,ex'];refine⟨by rfl,?_⟩
  refine VK mixed 16 [] (by rfl) (by rfl) (by rfl) (by rfl) ?_
  simp+decide[int,Sp.row,H,G,ex'];refine⟨by rfl,?_⟩
  rw[m1,m2];have L:wS x s=(if yJ x.fr (min x.tO s.fr)=true then [⟨x.fr,min x.tO s.fr⟩] else [])++(if yJ (max x.fr s.tO) x.tO=true then [⟨max x.fr s.tO,x.tO⟩] else []):=rfl
  generalize min x.tO s.fr=mn at L ⊢;generalize max x.fr s.tO=mx at L ⊢;refine zg (xQ _ _) ?_
  by_cases r1:yJ x.fr mn=true
  .rw[if_pos r1] at L
   simp+decide[r1];refine⟨by omega,by unfold maxLen;omega,?_⟩
   refine zg (xQ _ _) ?_
   by_cases r2:yJ mx x.tO=true
   .rw[if_pos r2] at L
    rw[L] at hsn;simp+decide[r2,I64];refine⟨by omega,by unfold maxLen;omega,by omega,k+1,H,by omega,by omega,?_⟩
    rw[hsn];simp[Sp.row,int]
   .rw[if_neg r2] at L
    rw[L] at hsn;simp+decide[r2,I64];refine⟨by omega,k+1,H,by omega,by omega,?_⟩
    rw[hsn];simp[Sp.row,int]
  .rw[if_neg r1] at L
   simp+decide[r1];refine zg (xQ _ _) ?_
   by_cases r2:yJ mx x.tO=true
   .rw[if_pos r2] at L
    rw[L] at hsn;simp+decide[r2,I64];refine⟨by omega,by unfold maxLen;omega,by omega,k+1,H,by omega,by omega,?_⟩
    rw[hsn];simp[Sp.row,int]
   .rw[if_neg r2] at L
    rw[L] at hsn;simp+decide[r2,I64];refine⟨by omega,k+1,H,by omega,by omega,?_⟩
    rw[hsn];simp
 .have:k=l.length:=by omega
  subst this;rw[List.take_length];simp+decide[int,xy]
theorem RO(s:Sp)(hs:s.rt=true):zj Tryz.prog 227 [xy [s]] (xy [s]):=by
 refine zn mixed Tryz.func227 rfl c_227 ?_
 simp+decide[Tryz.f227]
 refine zr mixed (λk:Nat=>match k with
   |0=>{n:=24,next:=2,slots:=[(0,.d (xy [s])),(3,.ar 1),(4,.d (int 0))],own:=[(1,.arr 70 2 [])]}
   |_+1=>{n:=24,next:=2,slots:=[(0,.d (xy [s])),(3,.d (xy [s])),(4,.d (int 1))],own:=[]})
  (λk=>k<=1) (λk=>1-k) 0 (by simp) (by simp+decide[int]) ?_
 intro k H
 cases k with
 |zero=>
  simp+decide[int,xy,Sp.row];refine zg (xQ _ _) ?_
  simp+decide[hs];refine FU (by rfl) (RL s) (by simp) ?_
  simp+decide[I64];exact⟨1,by simp,by simp,by simp+decide[int,Sp.row,xy]⟩
 |succ j=>
  simp+decide[int,xy,Sp.row]
theorem RP(s:Sp)(hs:s.rt=true)(b:List Sp)(E:b.length<2^62):zj Tryz.prog 194 [xy [s],xy b] (xy (qK [s] b)):=by
 refine zn mixed Tryz.func194 rfl c_194 ?_
 simp+decide[Tryz.f194]
 refine zg (RO s hs) ?_
 simp+decide
 refine zr mixed (λk:Nat=>{n:=27,next:=1,slots:=[(1,.d (xy b)),(5,.d (xy (qK [s] (b.take k)))),(6,.d (int k))],own:=[]})
  (λk=>k<=b.length) (λk=>b.length-k) 0 (by simp) (by simp+decide[int,qK]) ?_
 intro k K
 by_cases H:k<b.length
 .have G:(k:Int)<b.length:=by omega
  obtain⟨y,ey'⟩:∃ y,b[k]=y:=⟨_,rfl⟩;have ey:b[k]?=some y:=by rw[List.getElem?_eq_getElem H,ey']
  have hsn:=RJ (a:=[s]) H;rw[ey'] at hsn;have F:=RI hs (b.take k);generalize qK [s] (b.take k)=W at F hsn ⊢;simp+decide[int,xy,Sp.row,H,G,ey'];refine zg (xQ _ _) ?_
  by_cases r1:yJ y.fr y.tO=true
  .rw[if_pos r1] at hsn
   simp+decide[int,Sp.row,r1,H,G,ey'];refine zg (RN W y (by omega)) ?_
   simp+decide[xy,I64];exact⟨by omega,k+1,H,by omega,by rw[hsn],by omega⟩
  .rw[if_neg r1] at hsn
   simp+decide[r1,I64];exact⟨by omega,k+1,H,by omega,by rw[hsn],by omega⟩
 .have:k=b.length:=by omega
  subst this;rw[List.take_length];simp+decide[int,xy]
theorem RQ(l:List Sp)(s:Sp)(H:l.length<2^62):zj Tryz.prog 137 [xy l,.agg s.row] (.bool (wv l s)):=by
 refine zn mixed Tryz.func137 rfl c_137 ?_
 simp+decide[Tryz.f137,int,Sp.row]
 refine zg (xQ _ _) ?_
 by_cases r1:yJ s.fr s.tO=true
 case neg=>simp+decide[r1,wv]
 simp+decide[r1]
 refine FU (by rfl) (RP s r1 l H) (by simp) ?_
 simp+decide[xy]
 cases G:qK [s] l with
 |nil=>simp+decide[wv,r1,G]
 |cons y r=>
  have:¬(r.length:Int)+1=0:=by omega
  simp+decide[wv,r1,G]
def yc(l:List Nt)(t p:Int):List Nt:=l.filter λn=>decide (n.tier=t)&&decide (n.par=p)
theorem CL(l:List Nt)(t p:Int):(yc l t p).length<=l.length:=List.length_filter_le _ _
theorem RR(d:Dc)(t p:Int)(K:d.notes.length<2^40):zj Tryz.prog 134 [zw d,int t,int p] (zy (yc d.notes t p)):=by
 refine Zs mixed Tryz.func134 rfl c_134 [2] ?_
 simp+decide[Tryz.f134,zw,Dc.row,int,ints,zK]
 refine zr mixed (λk:Nat=>{n:=44,next:=3,slots:=[(1,.d (int t)),(2,.d (int p)),(3,.bp 0 0),(7,.ar 2),(8,.d (.int .i64 k))],own:=[(0,.box 53 (yh d)),(2,.arr 72 7 ((yc (d.notes.take k) t p).map Nt.row))],moved:=[2]})
  (λk=>k<=d.notes.length) (λk=>d.notes.length-k) 0 (by simp) (by simp+decide[int,ints,zK,zy,yc]) ?_
 intro k J
 by_cases H:k<d.notes.length
 .have G:(k:Int)<d.notes.length:=by omega
  obtain⟨n,en'⟩:∃ n,d.notes[k]=n:=⟨_,rfl⟩;have en:d.notes[k]?=some n:=by rw[List.getElem?_eq_getElem H,en']
  have hsn:yc (d.notes.take (k+1)) t p=yc (d.notes.take k) t p++(if n.tier=t/\n.par=p then [n] else []):=by
   rw[take_snoc' H];unfold yc;rw[List.filter_append,en'];by_cases L:n.tier=t <;> by_cases M:n.par=p <;> simp[L,M]
  have F:=CL (d.notes.take k) t p;have E:(d.notes.take k).length=k:=by rw[List.length_take];omega
  rw[E] at F;generalize yc (d.notes.take k) t p=W at hsn F ⊢;by_cases L:n.tier=t
  .by_cases M:n.par=p
   .rw[if_pos ⟨L,M⟩] at hsn
    simp+decide[zy,Nt.row,int,H,G,en',I64,L,M];refine⟨by omega,by unfold maxLen;omega,by omega,k+1,H,by omega,by omega,?_⟩
    rw[hsn];simp[Nt.row,int,L,M]
   .rw[if_neg (λh=>M h.2),List.append_nil] at hsn
    simp+decide[zy,Nt.row,int,H,G,en',I64,L,M];exact⟨by omega,k+1,H,by omega,by omega,by rw[hsn]⟩
  .rw[if_neg (λh=>L h.1),List.append_nil] at hsn
   simp+decide[zy,Nt.row,int,H,G,en',I64,L];exact⟨by omega,k+1,H,by omega,by omega,by rw[hsn]⟩
 .have:k=d.notes.length:=by omega
  subst this;rw[List.take_length];simp+decide[zy,int]
def spansOf(l:List Nt):List Sp:=l.map λn=>⟨n.fr,n.tO⟩
theorem RS(l:List Nt)(E:l.length<2^40):zj Tryz.prog 138 [zy l] (xy (spansOf l)):=by
 refine Zs mixed Tryz.func138 rfl c_138 [1] ?_
 simp+decide[Tryz.f138]
 refine zr mixed (λk:Nat=>{n:=21,next:=2,slots:=[(0,.d (zy l)),(3,.ar 1),(4,.d (.int .i64 k))],own:=[(1,.arr 70 2 ((spansOf (l.take k)).map Sp.row))],moved:=[1]})
  (λk=>k<=l.length) (λk=>l.length-k) 0 (by simp) (by simp+decide[zy,spansOf]) ?_
 intro k K
 by_cases H:k<l.length
 .have G:(k:Int)<l.length:=by omega
  obtain⟨n,en'⟩:∃ n,l[k]=n:=⟨_,rfl⟩;have en:l[k]?=some n:=by rw[List.getElem?_eq_getElem H,en']
  have hsn:spansOf (l.take (k+1))=spansOf (l.take k)++[⟨n.fr,n.tO⟩]:=by
   rw[take_snoc' H];unfold spansOf;rw[List.map_append,en'];rfl
  have F:(spansOf (l.take k)).length=k:=by unfold spansOf;rw[List.length_map,List.length_take];omega
  generalize spansOf (l.take k)=W at hsn F ⊢;simp+decide[zy,Nt.row,int,H,G,en',I64];refine⟨by omega,by unfold maxLen;omega,by omega,k+1,H,by omega,by omega,?_⟩
  rw[hsn];simp[Sp.row,int]
 .have:k=l.length:=by omega
  subst this;rw[List.take_length];simp+decide[zy,xy]
def uL(l:List Nt)(i k:Nat):Bool:=decide ((l[i]?.getD default).fr<(l[k]?.getD default).tO)&&decide ((l[k]?.getD default).fr<(l[i]?.getD default).tO)
def qM(l:List Nt):Bool:=(List.range l.length).any λi=>(List.range i).any λk=>uL l i k
theorem Uj{l:List Nt}:qM l=false↔∀ i,i<l.length->∀ k,k<i->uL l i k=false:=by
 unfold qM
 rw[List.any_eq_false]
 refine⟨λh i hi k H=>?_,λh i hi=>?_⟩
 .have:=h i (List.mem_range.2 hi)
  rw[Bool.not_eq_true,List.any_eq_false] at this;simpa using this k (List.mem_range.2 H)
 .rw[Bool.not_eq_true,List.any_eq_false]
  intro k H;simpa using h i (List.mem_range.1 hi) k (List.mem_range.1 H)
theorem RU{l:List Nt}{i k:Nat}(hi:i<l.length)(H:k<i)(h:uL l i k=true):qM l=true:=by
 cases e:qM l with
 |true=>rfl
 |false=>rw[Uj] at e;rw[e i hi k H] at h;cases h
theorem Uk(l:List Nt)(L:l.length<2^40):zj Tryz.prog 136 [zy l] (.bool (qM l)):=by
 refine zn mixed Tryz.func136 rfl c_136 ?_
 simp+decide[Tryz.f136]
 refine zr mixed (λi:Nat=>{n:=44,next:=0,slots:=[(0,.d (zy l)),(3,.d (.int .i64 i))],own:=[]})
  (λi=>i<=l.length/\∀ j,j<i->∀ k,k<j->uL l j k=false) (λi=>l.length-i) 0 (by simp) (by simp+decide[zy]) ?_
 rintro i ⟨hi,M⟩
 by_cases E:i<l.length
 .have H:(i:Int)<l.length:=by omega
  obtain⟨n,en'⟩:∃ n,l[i]=n:=⟨_,rfl⟩;have en:l[i]?=some n:=by rw[List.getElem?_eq_getElem E,en']
  simp+decide[zy,H];refine zr mixed (λk:Nat=>{n:=44,next:=0,slots:=[(0,.d (zy l)),(3,.d (.int .i64 i)),(4,.d (.int .i64 k))],own:=[]})
   (λk=>k<=i/\∀ j,j<k->uL l i j=false) (λk=>i-k) 0 (by simp) (by simp+decide[zy]) ?_
  rintro k ⟨O,Q⟩
  by_cases J:k<i
  .have G:(k:Int)<i:=by omega
   have K:k<l.length:=by omega
   have F:(k:Int)<l.length:=by omega
   obtain⟨m,em'⟩:∃ m,l[k]=m:=⟨_,rfl⟩;have em:l[k]?=some m:=by rw[List.getElem?_eq_getElem K,em']
   have T:uL l i k=(decide (n.fr<m.tO)&&decide (m.fr<n.tO)):=by simp only[uL,en,em,Option.getD_some]
   by_cases c1:n.fr<m.tO
   .by_cases c2:m.fr<n.tO
    .have:=RU E J (by rw[T];simp[c1,c2])
     simp+decide[zy,Nt.row,int,E,H,G,K,F,en',em',c1,c2,this]
    .simp+decide[zy,Nt.row,int,E,H,G,K,F,en',em',c1,c2,I64]
     refine⟨by omega,k+1,⟨by omega,λj hj=>?_⟩,by omega,by omega⟩
     rcases Nat.lt_or_ge j k with h | h
     .exact Q j h
     .have:j=k:=by omega
      subst this;rw[T];simp[c2]
   .simp+decide[zy,Nt.row,int,E,H,G,K,F,en',em',c1,I64]
    refine⟨by omega,k+1,⟨by omega,λj hj=>?_⟩,by omega,by omega⟩
    rcases Nat.lt_or_ge j k with h | h
    .exact Q j h
    .have:j=k:=by omega
     subst this;rw[T];simp[c1]
  .have:k=i:=by omega
   subst this;simp+decide[zy,I64];refine⟨by omega,k+1,⟨by omega,λj hj=>?_⟩,by omega,by omega⟩
   rcases Nat.lt_or_ge j k with h | h
   .exact M j h
   .have:j=k:=by omega
    subst this;exact Q
 .have:i=l.length:=by omega
  subst this;simp+decide[zy,Uj.2 M]
def jQ(l:List Nt):Bool:=(List.range l.length).all λn=>l.any λm=>decide (m.rank=n)
theorem Ql{l:List Nt}:jQ l=true↔∀ n:Nat,n<l.length->(l.any λm=>decide (m.rank=n))=true:=by
 unfold jQ
 rw[List.all_eq_true]
 exact⟨λh n H=>h n (List.mem_range.2 H),λh n H=>h n (List.mem_range.1 H)⟩
theorem RV(l:List Nt)(K:l.length<2^40):zj Tryz.prog 139 [zy l] (.bool (jQ l)):=by
 refine zn mixed Tryz.func139 rfl c_139 ?_
 simp+decide[Tryz.f139]
 refine zr mixed (λi:Nat=>{n:=30,next:=0,slots:=[(0,.d (zy l)),(3,.d (.int .i64 i))],own:=[]})
  (λi=>i<=l.length/\∀ n:Nat,n<i->(l.any λm=>decide (m.rank=n))=true) (λi=>l.length-i) 0 (by simp) (by simp+decide[zy]) ?_
 rintro i ⟨hi,J⟩
 by_cases E:i<l.length
 .have F:(i:Int)<l.length:=by omega
  simp+decide[zy,F];refine zr mixed (λk:Nat=>{n:=30,next:=0,slots:=[(0,.d (zy l)),(3,.d (.int .i64 i)),(4,.d (.bool ((l.take k).any λm=>decide (m.rank=i)))),(5,.d (.int .i64 k))],own:=[]})
   (λk=>k<=l.length) (λk=>l.length-k) 0 (by simp) (by simp+decide[zy]) ?_
  intro k L;by_cases H:k<l.length
  .have G:(k:Int)<l.length:=by omega
   obtain⟨m,em'⟩:∃ m,l[k]=m:=⟨_,rfl⟩;have em:l[k]?=some m:=by rw[List.getElem?_eq_getElem H,em']
   have hsn:((l.take (k+1)).any λm=>decide (m.rank=i))=(((l.take k).any λm=>decide (m.rank=i)) || decide (m.rank=i)):=by rw[U3 H,em']
   cases M:(l.take k).any λm=>decide (m.rank=i)
   .rw[M,Bool.false_or] at hsn
    by_cases c1:m.rank=i
    .rw[decide_eq_true c1] at hsn
     simp+decide[zy,Nt.row,int,H,G,em',c1,I64];exact⟨by omega,k+1,H,by omega,by simpa using hsn,by omega⟩
    .rw[decide_eq_false c1] at hsn
     simp+decide[zy,Nt.row,int,H,G,em',c1,I64];exact⟨by omega,k+1,H,by omega,by simpa using hsn,by omega⟩
   .rw[M,Bool.true_or] at hsn
    simp+decide[zy,G,I64];exact⟨by omega,k+1,H,by omega,by simpa using hsn,by omega⟩
  .have:k=l.length:=by omega
   subst this;rw[List.take_length];cases M:l.any λm=>decide (m.rank=i)
   .have:jQ l=false:=by
     cases e:jQ l with
     |false=>rfl
     |true=>rw[Ql] at e;rw[e i E] at M;cases M
    simp+decide[zy,this]
   .simp+decide[zy,I64]
    refine⟨by omega,i+1,⟨by omega,λj hj=>?_⟩,by omega,by omega⟩
    rcases Nat.lt_or_ge j i with h | h
    .simpa using J j h
    .have:j=i:=by omega
     subst this;simpa using M
 .have:i=l.length:=by omega
  subst this;simp+decide[zy,Ql.2 J]
def Qm(d:Dc)(t kind:Int)(n:Nt)(out:Int):Int:=
 if kind=1 then (if wv (spansOf (yc d.notes t n.par)) ⟨(zp d.notes n.par).1.fr,(zp d.notes n.par).1.tO⟩=true then out else 16)
 else if kind=3 then (if jQ (yc d.notes t n.par)=true then out else 10)
 else if kind=4 then (if 1<(yc d.notes t n.par).length then 8 else out) else out
def wx(d:Dc)(t kind:Int):List Nt->Int->Int
 | [],out=>out
 |n::r,out=>if n.tier=t then (if zT kind=true/\qM (yc d.notes t n.par)=true then 15 else wx d t kind r (Qm d t kind n out)) else wx d t kind r out
def wy(d:Dc)(t:Int):Int:=wx d t (zu d t).kind d.notes 0
theorem RX(d:Dc)(t:Nat)(O:t<d.tiers.length)(Q:d.notes.length<2^40):zj Tryz.prog 81 [zw d,int t] (int (wy d t)):=by
 refine zn mixed Tryz.func81 rfl c_81 ?_
 have J:(t:Int)<d.tiers.length:=by omega
 obtain⟨tt,et'⟩:∃ tt,d.tiers[t]=tt:=⟨_,rfl⟩
 have et:d.tiers[t]?=some tt:=by rw[List.getElem?_eq_getElem O,et']
 have L:(zu d (t:Int))=tt:=by simp[zu,et]
 unfold wy
 rw[L]
 obtain⟨tn,kd,tr,tp⟩:=tt
 simp+decide[Tryz.f81,zw,Dc.row,int,ints,zK,Tir.row,O,J,et']
 refine zr mixed (λx:Nat×Int=>{n:=77,next:=1,slots:=[(1,.d (int t)),(2,.bp 0 0),(5,.d (int kd)),(6,.d (int x.2)),(7,.d (.int .i64 x.1))],own:=[(0,.box 53 (yh d))]})
  (λx=>x.1<=d.notes.length/\wx d t kd d.notes 0=wx d t kd (d.notes.drop x.1) x.2) (λx=>d.notes.length-x.1) (0,0) (by simp) (by simp+decide[int,ints,zK,zy]) ?_
 rintro⟨k,out⟩ ⟨T,V⟩
 simp only at T V
 by_cases G:k<d.notes.length
 case neg=>
  have:k=d.notes.length:=by omega
  subst this;rw[List.drop_length] at V;simp+decide[int,zy,V,wx]
 have F:(k:Int)<d.notes.length:=by omega
 obtain⟨n,en'⟩:∃ n,d.notes[k]=n:=⟨_,rfl⟩
 have en:d.notes[k]?=some n:=by rw[List.getElem?_eq_getElem G,en']
 rw[List.drop_eq_getElem_cons G,en'] at V
 simp only[wx] at V
 by_cases X:n.tier=t
 case neg=>
  rw[if_neg X] at V;simp+decide[int,zy,Nt.row,G,F,en',X,I64];exact⟨by omega,k+1,out,⟨G,V⟩,by omega,by omega⟩
 rw[if_pos X] at V
 simp+decide[int,zy,Nt.row,G,F,en',X]
 have M:=CL d.notes t n.par
 refine zg (RR d t n.par Q) ?_
 generalize Y:yc d.notes t n.par=S at V M ⊢
 simp+decide
 refine zg (qJ kd) ?_
 have fin:∀ out',Qm d t kd n out=out'->(zT kd=true->qM S=false)->wx d t kd d.notes 0=wx d t kd (d.notes.drop (k+1)) out':=by
  intro out' e h;rw[if_neg (by rintro⟨a,b⟩;rw[h a] at b;cases b),e] at V
  exact V
 have E:zT kd=true->qM S=true->wx d t kd d.notes 0=15:=by
  intro a b;rw[if_pos ⟨a,b⟩] at V;exact V
 have H:Qm d t kd n out=if kd=1 then (if wv (spansOf S) ⟨(zp d.notes n.par).1.fr,(zp d.notes n.par).1.tO⟩=true then out else 16)
  else if kd=3 then (if jQ S=true then out else 10) else if kd=4 then (if 1<S.length then 8 else out) else out:=by
  simp only[Qm,Y]
 clear V
 generalize Z:wx d t kd d.notes 0=TT at fin E ⊢
 by_cases k0:kd=0
 .subst k0
  have A:zT 0=true:=rfl
  simp+decide[A];refine zg (Uk S (by omega)) ?_
  cases B:qM S with
  |true=>simp+decide[E A B]
  |false=>
   have HO:zT 0=true->qM S=false:=λ_=>B
   simp+decide[int,zy];refine zg (ZH d n.par (by omega)) ?_
   obtain⟨⟨p,ok⟩,eg⟩:∃ g,zp d.notes n.par=g:=⟨_,rfl⟩;rw[eg] at H ⊢;obtain⟨pi,pt,pp,pf,pto,prr,px⟩:=p;simp only[getD',Nt.row] at H ⊢;simp at H
   simp+decide[int,I64];exact⟨by omega,k+1,out,⟨G,fin _ H HO⟩,by omega,by omega⟩
 by_cases k1:kd=1
 .subst k1
  have A:zT 1=true:=rfl
  simp+decide[A];refine zg (Uk S (by omega)) ?_
  cases B:qM S with
  |true=>simp+decide[E A B]
  |false=>
   have HO:zT 1=true->qM S=false:=λ_=>B
   simp+decide[int,zy];refine zg (ZH d n.par (by omega)) ?_
   obtain⟨⟨p,ok⟩,eg⟩:∃ g,zp d.notes n.par=g:=⟨_,rfl⟩;rw[eg] at H ⊢;obtain⟨pi,pt,pp,pf,pto,prr,px⟩:=p;simp only[getD',Nt.row] at H ⊢;simp+decide[int];refine scp (RS S (by omega)) ?_
   simp+decide
   refine scp (RQ (spansOf S) ⟨pf,pto⟩ (by unfold spansOf;rw[List.length_map];omega)) ?_
   by_cases C:wv (spansOf S) ⟨pf,pto⟩=true
   .simp[C] at H
    simp+decide[I64,C];exact⟨by omega,k+1,out,⟨G,fin _ H HO⟩,by omega,by omega⟩
   .simp[C] at H
    simp+decide[I64,C];exact⟨by omega,k+1,16,⟨G,fin _ H HO⟩,by omega,by omega⟩
 by_cases k2:kd=2
 .subst k2
  have A:zT 2=true:=rfl
  simp+decide[A];refine zg (Uk S (by omega)) ?_
  cases B:qM S with
  |true=>simp+decide[E A B]
  |false=>
   have HO:zT 2=true->qM S=false:=λ_=>B
   simp+decide[int,zy];refine zg (ZH d n.par (by omega)) ?_
   obtain⟨⟨p,ok⟩,eg⟩:∃ g,zp d.notes n.par=g:=⟨_,rfl⟩;rw[eg] at H ⊢;obtain⟨pi,pt,pp,pf,pto,prr,px⟩:=p;simp only[getD',Nt.row] at H ⊢;simp at H
   simp+decide[int,I64];exact⟨by omega,k+1,out,⟨G,fin _ H HO⟩,by omega,by omega⟩
 by_cases k3:kd=3
 .subst k3
  have A:zT 3=false:=rfl
  have HO:zT 3=true->qM S=false:=λh=>by rw[A] at h;cases h
  simp+decide[int,A,zy];refine zg (ZH d n.par (by omega)) ?_
  obtain⟨⟨p,ok⟩,eg⟩:∃ g,zp d.notes n.par=g:=⟨_,rfl⟩;rw[eg] at H ⊢;obtain⟨pi,pt,pp,pf,pto,prr,px⟩:=p;simp only[getD',Nt.row] at H ⊢;simp+decide[int];refine zg (RV S (by omega)) ?_
  by_cases C:jQ S=true
  .simp[C] at H
   simp+decide[I64,C];exact⟨by omega,k+1,out,⟨G,fin _ H HO⟩,by omega,by omega⟩
  .simp[C] at H
   simp+decide[I64,C];exact⟨by omega,k+1,10,⟨G,fin _ H HO⟩,by omega,by omega⟩
 by_cases k4:kd=4
 .subst k4
  have A:zT 4=false:=rfl
  have HO:zT 4=true->qM S=false:=λh=>by rw[A] at h;cases h
  simp+decide[int,A,zy];refine zg (ZH d n.par (by omega)) ?_
  obtain⟨⟨p,ok⟩,eg⟩:∃ g,zp d.notes n.par=g:=⟨_,rfl⟩;rw[eg] at H ⊢;obtain⟨pi,pt,pp,pf,pto,prr,px⟩:=p;simp only[getD',Nt.row] at H ⊢;by_cases C:1<S.length
  .have K:(1:Int)<S.length:=by omega
   simp[C] at H;simp+decide[int,I64,K];exact⟨by omega,k+1,8,⟨G,fin _ H HO⟩,by omega,by omega⟩
  .have K:¬(1:Int)<S.length:=by omega
   simp[C] at H;simp+decide[int,I64,K];exact⟨by omega,k+1,out,⟨G,fin _ H HO⟩,by omega,by omega⟩
 have A:zT kd=false:=by simp[zT,k0,k1,k2]
 have HO:zT kd=true->qM S=false:=λh=>by rw[A] at h;cases h
 simp+decide[int,A,zy]
 refine zg (ZH d n.par (by omega)) ?_
 obtain⟨⟨p,ok⟩,eg⟩:∃ g,zp d.notes n.par=g:=⟨_,rfl⟩
 rw[eg] at H ⊢
 obtain⟨pi,pt,pp,pf,pto,prr,px⟩:=p
 simp only[getD',Nt.row] at H ⊢
 simp[k1,k3,k4] at H
 simp+decide[int,I64,k1,k3,k4]
 exact⟨by omega,k+1,out,⟨G,fin _ H HO⟩,by omega,by omega⟩
def wz(d:Dc):Nat->Nat->Int
 |0,_=>0
 |m+1,i=>if i<d.tiers.length then (if wy d i=0 then wz d m (i+1) else wy d i) else 0
def wT(d:Dc):Int:=
 if wt d.tiers≠0 then wt d.tiers else if d.len<0\/86400000<d.len then 12 else if 300<d.notes.length then 11
 else if vp d d.notes.length 0≠0 then vp d d.notes.length 0 else wz d d.tiers.length 0
theorem Jm(d:Dc)(K:d.tiers.length<2^40)(J:d.notes.length<2^40)(hs:∀ t∈d.tiers,t.name.size<=9223372036854775807)(L:∀ n∈d.notes,n.text.size<=9223372036854775807):
  zj Tryz.prog 32 [zw d] (int (wT d)):=by
 refine zn mixed Tryz.func32 rfl c_32 ?_
 simp+decide[Tryz.f32,zw,Dc.row]
 refine zg (PX d.tiers (by omega) hs) ?_
 by_cases M:wt d.tiers=0
 case neg=>simp+decide[int,M,wT]
 by_cases O:d.len<0
 .simp+decide[int,M,O,wT]
 by_cases Q:86400000<d.len
 .simp+decide[int,M,O,Q,wT]
 by_cases T:300<d.notes.length
 .have F:(300:Int)<d.notes.length:=by omega
  simp+decide[int,M,O,Q,T,F,wT,zy]
 have F:¬(300:Int)<d.notes.length:=by omega
 have V:wT d=if vp d d.notes.length 0=0 then wz d d.tiers.length 0 else vp d d.notes.length 0:=by
  simp only[wT];rw[if_neg (by simpa using M),if_neg (by omega),if_neg T]
  by_cases h:vp d d.notes.length 0=0 <;> simp[h]
 rw[V]
 simp+decide[int,M,O,Q,F,zy]
 refine zr mixed (λi:Nat=>{n:=54,next:=1,slots:=[(1,.bp 0 0),(4,.d (.int .i64 i))],own:=[(0,.box 53 (yh d))]})
  (λi=>i<=d.notes.length/\vp d d.notes.length 0=vp d (d.notes.length-i) i) (λi=>d.notes.length-i) 0 (by simp) (by simp+decide[int,zy,zK,ints]) ?_
 rintro i ⟨hi,X⟩
 by_cases G:i<d.notes.length
 .obtain⟨m,Y⟩:∃ m,d.notes.length-i=m+1:=⟨d.notes.length-i-1,by omega⟩
  have E:d.notes.length-(i+1)=m:=by omega
  rw[Y,Ui,if_pos G] at X;have H:(i:Int)<d.notes.length:=by omega
  simp+decide[int,zy,H];refine zg (RA d i G (by omega) (by omega) L) ?_
  by_cases Z:js d i=0
  .rw[if_pos Z] at X
   simp+decide[int,Z,I64];exact⟨by omega,i+1,⟨by omega,by rw[X,E]⟩,by omega,by simp⟩
  .rw[if_neg Z] at X
   simp+decide[int,Z,X]
 .have:i=d.notes.length:=by omega
  subst this;rw[Nat.sub_self] at X;rw[X];simp+decide[int,vp,zK,zy];refine zr mixed (λi:Nat=>{n:=54,next:=1,slots:=[(1,.bp 0 0),(6,.d (.int .i64 i))],own:=[(0,.box 53 (yh d))]})
   (λi=>i<=d.tiers.length/\wz d d.tiers.length 0=wz d (d.tiers.length-i) i) (λi=>d.tiers.length-i) 0 (by simp) (by simp+decide) ?_
  rintro i ⟨hi,X⟩
  by_cases G:i<d.tiers.length
  .have H:(i:Int)<d.tiers.length:=by omega
   obtain⟨m,Y⟩:∃ m,d.tiers.length-i=m+1:=⟨d.tiers.length-i-1,by omega⟩
   have E:d.tiers.length-(i+1)=m:=by omega
   rw[Y] at X;simp only[wz,if_pos G] at X;simp+decide[int,zK,H];refine zg (RX d i G (by omega)) ?_
   by_cases Z:wy d i=0
   .rw[if_pos Z] at X
    simp+decide[int,Z,I64];exact⟨by omega,i+1,⟨by omega,by rw[X,E]⟩,by omega,by simp⟩
   .rw[if_neg Z] at X
    simp+decide[int,Z,X]
  .have:i=d.tiers.length:=by omega
   subst this;rw[Nat.sub_self] at X;simp+decide[int,zK,X,wz]
def wU(d:Dc):Bool:=decide (d.notes.length<=14)&&decide (d.tiers.length<=6)&&decide (d.spk.length<=6)&&decide (wT d=0)
theorem RY(d:Dc)(hs:∀ t∈d.tiers,t.name.size<=9223372036854775807)(H:∀ n∈d.notes,n.text.size<=9223372036854775807):
  zj Tryz.prog 17 [zw d] (.bool (wU d)):=by
 refine zn mixed Tryz.func17 rfl c_17 ?_
 by_cases G:d.notes.length<=14
 case neg=>
  have g1:¬(d.notes.length:Int)<=14:=by omega
  simp+decide[Tryz.f17,zw,Dc.row,zy,zK,ints,int,wU,G,g1]
 have g1:(d.notes.length:Int)<=14:=by omega
 by_cases F:d.tiers.length<=6
 case neg=>
  have g2:¬(d.tiers.length:Int)<=6:=by omega
  simp+decide[Tryz.f17,zw,Dc.row,zy,zK,ints,int,wU,G,g1,F,g2]
 have g2:(d.tiers.length:Int)<=6:=by omega
 by_cases E:d.spk.length<=6
 case neg=>
  have g3:¬(d.spk.length:Int)<=6:=by omega
  simp+decide[Tryz.f17,zw,Dc.row,zy,zK,ints,int,wU,G,g1,F,g2,E,g3]
 have g3:(d.spk.length:Int)<=6:=by omega
 simp+decide[Tryz.f17,zw,Dc.row,zy,zK,ints,int,g1,g2,g3]
 refine zg (Jm d (by omega) (by omega) hs H) ?_
 by_cases K:wT d=0
 .simp+decide[int,K,wU,G,F,E]
 .simp+decide[int,K,wU,G,F,E]
def uM(l:List Sp)(v:Int):Prop:=∃ y∈l,y.fr<=v/\v<y.tO
theorem CM{s:Sp}:s.rt=true↔0<=s.fr/\s.fr<s.tO/\s.tO<=86400000:=by
 simp only[Sp.rt,yJ,Bool.and_eq_true,decide_eq_true_eq,and_assoc]
theorem CN{x s:Sp}(H:x.rt=true)(hs:s.rt=true)(v:Int):uM (wS x s) v↔(x.fr<=v/\v<x.tO)/\¬(s.fr<=v/\v<s.tO):=by
 rw[CM] at H hs
 obtain⟨a1,a2,a3⟩:=H
 obtain⟨b1,b2,b3⟩:=hs
 have e1:yJ x.fr (min x.tO s.fr)=true↔x.fr<min x.tO s.fr:=by
  simp only[yJ,Bool.and_eq_true,decide_eq_true_eq];omega
 have e2:yJ (max x.fr s.tO) x.tO=true↔max x.fr s.tO<x.tO:=by
  simp only[yJ,Bool.and_eq_true,decide_eq_true_eq];omega
 unfold uM wS
 constructor
 .rintro⟨y,G,F,E⟩
  rcases List.mem_append.1 G with h | h
  .split at h
   .simp at h;subst h;simp only at F E;omega
   .cases h
  .split at h
   .simp at h;subst h;simp only at F E;omega
   .cases h
 .rintro⟨⟨F,E⟩,K⟩
  by_cases J:v<s.fr
  .refine⟨⟨x.fr,min x.tO s.fr⟩,?_,F,by simp only;omega⟩
   rw[if_pos (e1.2 (by omega))];simp
  .refine⟨⟨max x.fr s.tO,x.tO⟩,?_,by simp only;omega,E⟩
   rw[if_pos (e2.2 (by omega))];simp
theorem RZ{s:Sp}(hs:s.rt=true)(v:Int){l:List Sp}(H:∀ x∈l,x.rt=true):uM (qn l s) v↔uM l v/\¬(s.fr<=v/\v<s.tO):=by
 unfold qn
 constructor
 .rintro⟨y,G,F⟩
  obtain⟨x,E,h⟩:=List.mem_flatMap.1 G;have:=(CN (H x E) hs v).1 ⟨y,h,F⟩
  exact⟨⟨x,E,this.1⟩,this.2⟩
 .rintro⟨⟨x,E,F⟩,K⟩
  obtain⟨y,G,J⟩:=(CN (H x E) hs v).2 ⟨F,K⟩;exact⟨y,List.mem_flatMap.2 ⟨x,E,G⟩,J⟩
theorem Jn(v:Int):∀ (b a:List Sp),(∀ x∈a,x.rt=true)->(uM (qK a b) v↔uM a v/\∀ y∈b,y.rt=true->¬(y.fr<=v/\v<y.tO))
 | [],a,h=>by simp[qK]
 |y::r,a,h=>by
  have e:qK a (y::r)=qK (if y.rt=true then qn a y else a) r:=rfl
  rw[e];by_cases H:y.rt=true
  .rw[if_pos H,Jn v r _ CG,RZ H v h]
   constructor
   .rintro⟨⟨G,F⟩,E⟩
    refine⟨G,λz K J=>?_⟩
    rcases List.mem_cons.1 K with rfl | K
    .exact F
    .exact E z K J
   .rintro⟨G,E⟩
    exact⟨⟨G,E y (by simp) H⟩,λz K J=>E z (by simp[K]) J⟩
  .rw[if_neg H,Jn v r _ h]
   constructor
   .rintro⟨G,E⟩
    refine⟨G,λz K J=>?_⟩
    rcases List.mem_cons.1 K with rfl | K
    .exact absurd J H
    .exact E z K J
   .rintro⟨G,E⟩
    exact⟨G,λz K J=>E z (by simp[K]) J⟩
theorem CO{l:List Sp}{s:Sp}:wv l s=true↔s.rt=true/\∀ v,s.fr<=v->v<s.tO->∃ y∈l,y.rt=true/\y.fr<=v/\v<y.tO:=by
 unfold wv
 rw[Bool.and_eq_true]
 constructor
 .rintro⟨hs,F⟩
  refine⟨hs,λv E K=>?_⟩
  have J:=Jn v l [s] (by simpa using hs)
  rw[List.isEmpty_iff.1 F] at J;have L:¬uM [] v:=by rintro⟨y,M,_⟩;cases M
  have:¬(uM [s] v/\∀ y∈l,y.rt=true->¬(y.fr<=v/\v<y.tO)):=λh=>L (J.2 h)
  apply Classical.byContradiction
  intro O;exact this ⟨⟨s,by simp,E,K⟩,λy M Q T=>O ⟨y,M,Q,T⟩⟩
 .rintro⟨hs,h⟩
  refine⟨hs,?_⟩
  have H:=(Jl l [s] (by simpa using hs)).1
  cases J:qK [s] l with
  |nil=>rfl
  |cons y r=>
   exfalso
   have M:=CM.1 (H y (by rw[J];simp))
   have G:uM (qK [s] l) y.fr:=⟨y,by rw[J];simp,Int.le_refl _,M.2.1⟩
   obtain⟨⟨z,V,E,K⟩,X⟩:=(Jn y.fr l [s] (by simpa using hs)).1 G
   simp at V;subst V
   obtain⟨u,Y,Q,T⟩:=h _ E K;exact X u Y Q T
theorem CP{α:Type}{q:α->Bool}:∀ {s:List α} {i:Nat} (h:i<s.length),q s[i]=true->(s.filter q)[((s.take i).filter q).length]?=some s[i]
 |x::r,0,h,G=>by
  have H:q x=true:=G
  simp[H]
 |x::r,i+1,h,G=>by
  have F:i<r.length:=by simpa using h
  have ih:=CP (q:=q) F G;by_cases E:q x=true
  .simp only[List.take_succ_cons,List.filter_cons_of_pos E,List.length_cons,List.getElem?_cons_succ,List.getElem_cons_succ]
   exact ih
  .simp only[List.take_succ_cons,List.filter_cons_of_neg E,List.getElem_cons_succ]
   exact ih
theorem Ul{α:Type}{q:α->Bool}:∀ {s:List α} {j:Nat},j<(s.filter q).length->∃ i,∃ h:i<s.length,q s[i]=true/\((s.take i).filter q).length=j
 | [],j,h=>by simp at h
 |x::r,j,h=>by
  by_cases H:q x=true
  .cases j with
   |zero=>exact⟨0,by simp,H,by simp⟩
   |succ j=>
    rw[List.filter_cons_of_pos H,List.length_cons] at h;obtain⟨i,hi,G,F⟩:=Ul (q:=q) (s:=r) (j:=j) (by omega)
    exact⟨i+1,by simpa using hi,G,by rw[List.take_succ_cons,List.filter_cons_of_pos H,List.length_cons,F]⟩
  .rw[List.filter_cons_of_neg H] at h
   obtain⟨i,hi,G,F⟩:=Ul (q:=q) (s:=r) h;exact⟨i+1,by simpa using hi,G,by rw[List.take_succ_cons,List.filter_cons_of_neg H,F]⟩
theorem CQ:∀ (l:List Int) (c:Int),l.Pairwise (·<=·)->(∀ n:Nat,n<=l.length->c+n∈l)->False
 | [],c,_,h=>by have:=h 0 (by simp);simp at this
 |x::r,c,H,h=>by
  rw[List.pairwise_cons] at H;have G:x<=c:=by
   have:=h 0 (by simp)
   rcases List.mem_cons.1 this with e | e
   .simp at e;omega
   .have:=H.1 _ e;simp at this;exact this
  refine CQ r (c+1) H.2 λn hn=>?_
  have:=h (n+1) (by simp;omega)
  rcases List.mem_cons.1 this with e | e
  .exfalso;push_cast at e;omega
  .have e2:c+1+(n:Int)=c+((n+1:Nat):Int):=by push_cast;omega
   rw[e2];exact e
theorem CS:∀ (l:List Int) (c:Int),l.Pairwise (·<=·)->(∀ n:Nat,n<l.length->c+n∈l)->∀ j:Nat,j<l.length->l[j]?=some (c+j)
 | [],c,_,h,j,hj=>by simp at hj
 |x::r,c,F,h,j,hj=>by
  rw[List.pairwise_cons] at F;have E:x<=c:=by
   have:=h 0 (by simp)
   rcases List.mem_cons.1 this with e | e
   .simp at e;omega
   .have:=F.1 _ e;simp at this;exact this
  have H:x=c:=by
   apply Classical.byContradiction
   intro G;refine CQ r c F.2 λn K=>?_
   have:=h n (by simp;omega)
   rcases List.mem_cons.1 this with e | e
   .exfalso;omega
   .exact e
  cases j with
  |zero=>simp[H]
  |succ j=>
   have:=CS r (c+1) F.2 (λn K=>by
    have:=h (n+1) (by simp;omega)
    rcases List.mem_cons.1 this with e | e
    .exfalso;push_cast at e;omega
    .have e2:c+1+(n:Int)=c+((n+1:Nat):Int):=by push_cast;omega
     rw[e2];exact e) j (by simpa using hj)
   rw[List.getElem?_cons_succ,this];congr 1;push_cast;omega
end Go.V.Doc
namespace Go.V.Doc
open Go Go.Proofs
def gN(s:List Nt)(i:Nat):Nt:=s[i]?.getD default
theorem qo{s:List Nt}{i:Nat}(h:i<s.length):gN s i=s[i]:=by unfold gN;rw[List.getElem?_eq_getElem h];rfl
theorem jt{s:List Nt}{i:Nat}(h:i<s.length):gN s i∈s:=by rw[qo h];exact List.getElem_mem h
def gZ{α:Type}(ov bad:α->Bool)(c:Int):List α->Int->Int
 | [],out=>out
 |x::r,out=>if ov x=true then 15 else gZ ov bad c r (if bad x=true then c else out)
theorem Um{α:Type}(ov bad:α->Bool)(c:Int):∀ (l:List α) (out:Int),gZ ov bad c l out=if l.any ov=true then 15 else if l.any bad=true then c else out
 | [],out=>by simp[gZ]
 |x::r,out=>by
  simp only[gZ];rw[Um ov bad c r];simp only[List.any_cons];have h:∀ a b e g:Bool,(if a=true then (15:Int) else if e=true then 15 else if g=true then c else if b=true then c else out)=if (a || e)=true then 15 else if (b || g)=true then c else out:=by
   intro a b e g;cases a <;> cases b <;> cases e <;> cases g <;> simp
  exact h _ _ _ _
def Z1(kd:Int):Int:=if kd=1 then 16 else if kd=3 then 10 else 8
def YF(kd:Int)(s:List Nt)(i:Nat):Bool:=zT kd&&(!yK s i&&decide ((gN s i).fr<(gN s (i-1)).tO))
def kD(notes:List Nt)(kd:Int)(s:List Nt)(i:Nat):Bool:=
 (decide (kd=1)&&((yK s i && !decide ((gN s i).fr=(zp notes (gN s i).par).1.fr)) || (!yK s i && !decide ((gN s (i-1)).tO=(gN s i).fr)) || (lastB s i && !decide ((gN s i).tO=(zp notes (gN s i).par).1.tO)))) ||
 (decide (kd=3)&&((yK s i && !decide ((gN s i).rank=0)) || (!yK s i && !decide ((gN s i).rank=IntKind.i64.wrap ((gN s (i-1)).rank+1))))) ||
 (decide (kd=4) && !yK s i)
theorem CU(notes:List Nt)(kd:Int)(s:List Nt):∀ (m i:Nat) (why:Int),i+m<=s.length->ZL notes kd s m i why=gZ (YF kd s) (kD notes kd s) (Z1 kd) (List.range' i m) why
 |0,i,why,_=>rfl
 |m+1,i,why,h=>by
  have ih:=λw=>CU notes kd s m (i+1) w (by omega)
  rw[List.range'_succ];simp only[ZL,gZ];rw[if_pos (show i<s.length by omega)]
  simp only[ih];have e1:(s[i]?.getD default)=gN s i:=rfl
  have e2:(s[i-1]?.getD default)=gN s (i-1):=rfl
  rw[e1,e2];unfold YF kD Z1;generalize gN s i=n;generalize gN s (i-1)=pv;generalize (zp notes n.par).1=p;generalize yK s i=F;generalize lastB s i=L;by_cases k0:kd=0
  .subst k0
   cases F <;> simp[zT]
  by_cases k1:kd=1
  .subst k1
   cases F <;> cases L <;> simp[zT]
  by_cases k2:kd=2
  .subst k2
   cases F <;> simp[zT]
  by_cases k3:kd=3
  .subst k3
   cases F <;> simp[zT]
  by_cases k4:kd=4
  .subst k4
   cases F <;> simp[zT]
  simp[zT,k0,k1,k2,k3,k4]
theorem S0(d:Dc)(t:Int):Qk d t=if (List.range' 0 (xx (y7 d.notes t)).length).any (YF (zu d t).kind (xx (y7 d.notes t)))=true then 15
  else if (List.range' 0 (xx (y7 d.notes t)).length).any (kD d.notes (zu d t).kind (xx (y7 d.notes t)))=true then Z1 (zu d t).kind else 0:=by
 unfold Qk
 rw[<-Jj (y7 d.notes t),CU _ _ _ _ _ _ (by simp),Um]
def wA(d:Dc)(t kd:Int)(n:Nt):Bool:=zT kd&&qM (yc d.notes t n.par)
def badR(d:Dc)(t kd:Int)(n:Nt):Bool:=
 (decide (kd=1) && !wv (spansOf (yc d.notes t n.par)) ⟨(zp d.notes n.par).1.fr,(zp d.notes n.par).1.tO⟩) || (decide (kd=3) && !jQ (yc d.notes t n.par)) || (decide (kd=4)&&decide (1<(yc d.notes t n.par).length))
theorem CV(d:Dc)(t kd:Int):∀ (l:List Nt) (out:Int),wx d t kd l out=gZ (wA d t kd) (badR d t kd) (Z1 kd) (y7 l t) out
 | [],out=>rfl
 |n::r,out=>by
  have ih:=λw=>CV d t kd r w
  simp only[wx];by_cases h:n.tier=t
  .have e:y7 (n::r) t=n::y7 r t:=by unfold y7;rw[List.filter_cons_of_pos (by simpa using h)]
   rw[if_pos h,e];simp only[gZ,ih];unfold wA badR Qm Z1;generalize wv (spansOf (yc d.notes t n.par)) ⟨(zp d.notes n.par).1.fr,(zp d.notes n.par).1.tO⟩=C;generalize jQ (yc d.notes t n.par)=R;generalize (yc d.notes t n.par).length=z;generalize qM (yc d.notes t n.par)=O;by_cases k1:kd=1
   .subst k1;cases C <;> simp[zT]
   by_cases k3:kd=3
   .subst k3;cases R <;> simp[zT]
   by_cases k4:kd=4
   .subst k4;simp[zT]
   simp[k1,k3,k4]
  .have e:y7 (n::r) t=y7 r t:=by unfold y7;rw[List.filter_cons_of_neg (by simpa using h)]
   rw[if_neg h,e,ih]
theorem CW(d:Dc)(t:Int):wy d t=if (y7 d.notes t).any (wA d t (zu d t).kind)=true then 15 else if (y7 d.notes t).any (badR d t (zu d t).kind)=true then Z1 (zu d t).kind else 0:=by
 unfold wy
 rw[CV,Um]
structure Srt(s:List Nt):Prop where
 par:∀ i j,i<j->j<s.length->(gN s i).par<=(gN s j).par
 fr:∀ i j,i<j->j<s.length->(gN s i).par=(gN s j).par->(gN s i).fr<=(gN s j).fr
 rank:∀ i j,i<j->j<s.length->(gN s i).par=(gN s j).par->(gN s i).fr=(gN s j).fr->(gN s i).rank<=(gN s j).rank
theorem CX(l:List Nt):Srt (xx l):=by
 have h:∀ i j,i<j->j<(xx l).length->¬((gN (xx l) j).par<(gN (xx l) i).par\/((gN (xx l) j).par=(gN (xx l) i).par/\((gN (xx l) j).fr<(gN (xx l) i).fr\/((gN (xx l) j).fr=(gN (xx l) i).fr/\(gN (xx l) j).rank<(gN (xx l) i).rank)))):=by
  intro i j H hj;have:=List.pairwise_iff_getElem.1 (Rv l) i j (by omega) hj H
  rw[Ji] at this;rw[qo hj,qo (show i<_ by omega)]
  exact this
 exact⟨λi j H hj=>by have:=h i j H hj;omega,λi j H hj e=>by have:=h i j H hj;omega,λi j H hj e e'=>by have:=h i j H hj;omega⟩
theorem Qn{s:List Nt}{i:Nat}:yK s i=true↔i=0\/(gN s (i-1)).par≠(gN s i).par:=by
 unfold yK
 rw[Bool.or_eq_true,decide_eq_true_eq,Bool.not_eq_true',decide_eq_false_iff_not]
 rfl
theorem YG{s:List Nt}{i:Nat}:yK s i=false↔i≠0/\(gN s (i-1)).par=(gN s i).par:=by
 rw[<-Bool.not_eq_true,Qn]
 exact⟨λh=>⟨λe=>h (.inl e),Classical.byContradiction λe=>h (.inr e)⟩,λh h'=>h'.elim (λe=>h.1 e) (λe=>e h.2)⟩
theorem CY{s:List Nt}{i:Nat}:lastB s i=true↔i+1=s.length\/(gN s (i+1)).par≠(gN s i).par:=by
 unfold lastB
 rw[Bool.or_eq_true,decide_eq_true_eq,Bool.not_eq_true',decide_eq_false_iff_not]
 rfl
def Qo(s:List Nt):Prop:=∀ i j,i<j->j<s.length->(gN s i).par=(gN s j).par->(gN s i).tO<=(gN s j).fr
theorem S4{s:List Nt}(hs:Srt s)(h:∀ i,i<s.length->(!yK s i&&decide ((gN s i).fr<(gN s (i-1)).tO))=false):Qo s:=by
 intro i j H hj G
 have F:(gN s i).par=(gN s (i+1)).par:=by
  rcases Nat.eq_or_lt_of_le (show i+1<=j from H) with e | e
  .rw[e];exact G
  .have a:=hs.par i (i+1) (by omega) (by omega)
   have b:=hs.par (i+1) j e hj;omega
 have E:=h (i+1) (by omega)
 have K:yK s (i+1)=false:=YG.2 ⟨by omega,F⟩
 rw[K] at E
 simp at E
 rcases Nat.eq_or_lt_of_le (show i+1<=j from H) with e | e
 .subst e;exact E
 .have:=hs.fr (i+1) j e hj (by omega)
  omega
theorem S5{s:List Nt}(h:Qo s):∀ i,i<s.length->(!yK s i&&decide ((gN s i).fr<(gN s (i-1)).tO))=false:=by
 intro i hi
 cases H:yK s i with
 |true=>rfl
 |false=>
  obtain⟨G,F⟩:=YG.1 H;have:=h (i-1) i (by omega) hi F
  simp;omega
def NM(x y:Nt):Prop:=¬(x.fr<y.tO/\y.fr<x.tO)
theorem NM.symm{x y:Nt}(h:NM x y):NM y x:=λe=>h ⟨e.2,e.1⟩
theorem Un{l:List Nt}:qM l=false↔l.Pairwise NM:=by
 rw[Uj,List.pairwise_iff_getElem]
 constructor
 .intro h i j hi hj H
  have:=h j hj i H
  unfold uL at this;rw[List.getElem?_eq_getElem hj,List.getElem?_eq_getElem hi] at this;simp only[Option.getD_some,Bool.and_eq_false_iff,decide_eq_false_iff_not] at this;rintro⟨a,b⟩
  rcases this with h | h
  .exact h b
  .exact h a
 .intro h i hi k G
  have:=h k i (by omega) hi G
  unfold uL;rw[List.getElem?_eq_getElem hi,List.getElem?_eq_getElem (show k<l.length by omega)]
  simp only[Option.getD_some,Bool.and_eq_false_iff,decide_eq_false_iff_not];by_cases c:l[i].fr<l[k].tO
  .right;intro c';exact this ⟨c',c⟩
  .left;exact c
section
variable {d:Dc} {t:Int} {s:List Nt}
theorem S6(notes:List Nt)(t p:Int):yc notes t p=(y7 notes t).filter λn=>decide (n.par=p):=by
 unfold yc y7
 rw[List.filter_filter]
 congr 1;funext n;rw[Bool.and_comm]
theorem Z2(H:s.Perm (y7 d.notes t))(p:Int):(s.filter λn=>decide (n.par=p)).Perm (yc d.notes t p):=by
 rw[S6];exact H.filter _
theorem CZ(F:s.Perm (y7 d.notes t))(hs:Srt s)(E:∀ n∈s,n.fr<n.tO):Qo s↔∀ n∈y7 d.notes t,qM (yc d.notes t n.par)=false:=by
 constructor
 .intro h n hn
  rw[Un];refine((Z2 F n.par).pairwise_iff λh=>NM.symm h).1 ?_
  rw[List.pairwise_filter,List.pairwise_iff_getElem];intro i j hi hj H K J;simp at K J
  have:=h i j H hj (by rw[qo hi,qo hj,K,J])
  rw[qo hi,qo hj] at this;rintro⟨_,b⟩
  omega
 .intro h i j H hj G
  have hi:i<s.length:=by omega
  have K:=h (gN s i) (F.mem_iff.1 (jt hi));rw[Un] at K;have J:=((Z2 F (gN s i).par).pairwise_iff λh=>NM.symm h).2 K
  rw[List.pairwise_filter,List.pairwise_iff_getElem] at J;have L:=J i j hi hj H (by rw[qo hi];simp) (by rw[<-qo hj,<-G];simp)
  rw[<-qo hi,<-qo hj] at L;have a:=hs.fr i j H hj G;have b:=E _ (jt hj);have c:¬(gN s j).fr<(gN s i).tO:=λe=>L ⟨by omega,e⟩
  omega
end
end Go.V.Doc
namespace Go.V.Doc
open Go Go.Proofs
section
variable {d:Dc} {t:Int} {s:List Nt}
def ZM(notes:List Nt)(s:List Nt)(i:Nat):Bool:=
 (yK s i && !decide ((gN s i).fr=(zp notes (gN s i).par).1.fr)) || (!yK s i && !decide ((gN s (i-1)).tO=(gN s i).fr)) || (lastB s i && !decide ((gN s i).tO=(zp notes (gN s i).par).1.tO))
theorem B0:∀ i,∃ j,j<=i/\(gN s j).par=(gN s i).par/\yK s j=true
 |0=>⟨0,by omega,rfl,Qn.2 (.inl rfl)⟩
 |i+1=>by
  cases h:yK s (i+1) with
  |true=>exact⟨i+1,by omega,rfl,h⟩
  |false=>
   obtain⟨_,G⟩:=YG.1 h;obtain⟨j,F,E,K⟩:=B0 i;have H:(gN s i).par=(gN s (i+1)).par:=G
   exact⟨j,by omega,E.trans H,K⟩
theorem Uo(H:s.Perm (y7 d.notes t)){p:Int}{m:Nt}:m∈yc d.notes t p↔∃ j,j<s.length/\(gN s j).par=p/\gN s j=m:=by
 rw[<-(Z2 H p).mem_iff,List.mem_filter]
 constructor
 .rintro⟨G,F⟩
  obtain⟨j,hj,e⟩:=List.mem_iff_getElem.1 G;rw[<-qo hj] at e;exact⟨j,hj,by rw[e];simpa using F,e⟩
 .rintro⟨j,hj,G,rfl⟩
  exact⟨jt hj,by simpa using G⟩
structure Wit(notes s:List Nt):Prop where
 right:∀ n∈s,yJ n.fr n.tO=true
 prt:∀ n∈s,yJ (zp notes n.par).1.fr (zp notes n.par).1.tO=true
 lo:∀ n∈s,(zp notes n.par).1.fr<=n.fr
 hi:∀ n∈s,n.tO<=(zp notes n.par).1.tO
theorem S7(hp:s.Perm (y7 d.notes t))(hs:Srt s)(ha:Qo s)(hw:Wit d.notes s):
  (∀ i,i<s.length->ZM d.notes s i=false)↔∀ n∈y7 d.notes t,wv (spansOf (yc d.notes t n.par)) ⟨(zp d.notes n.par).1.fr,(zp d.notes n.par).1.tO⟩=true:=by
 have L:∀ n∈s,0<=n.fr/\n.fr<n.tO/\n.tO<=86400000:=λn hn=>by have:=hw.right n hn;simpa only [yJ,Bool.and_eq_true,decide_eq_true_eq,and_assoc] using this
 constructor
 .intro h n hn
  have M:n∈s:=hp.mem_iff.2 hn
  obtain⟨i0,A,e0⟩:=List.mem_iff_getElem.1 M;rw[<-qo A] at e0;subst e0;rw[CO];refine⟨hw.prt _ M,λv B hv2=>?_⟩
  simp only at B hv2
  have up:∀ k i,s.length-i<=k->i<s.length->(gN s i).par=(gN s i0).par->(gN s i).fr<=v->∃ j,j<s.length/\(gN s j).par=(gN s i0).par/\(gN s j).fr<=v/\v<(gN s j).tO:=by
   intro k;induction k with
   |zero=>intro i h1 h2;omega
   |succ k ih=>
    intro i h1 h2 h3 h4;by_cases h5:v<(gN s i).tO
    .exact⟨i,h2,h3,h4,h5⟩
    have hg:=h i h2;simp only[ZM,Bool.or_eq_false_iff,Bool.and_eq_false_iff,Bool.not_eq_false',decide_eq_true_eq] at hg;have hl:lastB s i=false:=by
     rcases hg.2 with e | e
     .exact e
     .rw[h3] at e;omega
    rw[<-Bool.not_eq_true,CY,not_or,Classical.not_not] at hl;have O:i+1<s.length:=by omega
    have hf:yK s (i+1)=false:=YG.2 ⟨by omega,by simpa using hl.2.symm⟩
    have Q:=h (i+1) O;simp only[ZM,Bool.or_eq_false_iff,Bool.and_eq_false_iff,Bool.not_eq_false',decide_eq_true_eq,hf] at Q;have N:(gN s i).tO=(gN s (i+1)).fr:=by
     rcases Q.1.2 with e | e
     .cases e
     .simpa using e
    exact ih (i+1) (by omega) O (hl.2.trans h3) (by omega)
  obtain⟨j,hj,H,C⟩:=B0 (s:=s) i0;have T:j<s.length:=by omega
  have V:=h j T;simp only[ZM,Bool.or_eq_false_iff,Bool.and_eq_false_iff,Bool.not_eq_false',decide_eq_true_eq,C] at V;have P:(gN s j).fr=(zp d.notes (gN s i0).par).1.fr:=by
   rcases V.1.1 with e | e
   .cases e
   .rw[H] at e;exact e
  obtain⟨y,hy,I,F,E⟩:=up _ j (Nat.le_refl _) T H (by omega)
  exact⟨⟨(gN s y).fr,(gN s y).tO⟩,List.mem_map.2 ⟨gN s y,(Uo hp).2 ⟨y,hy,I,rfl⟩,rfl⟩,hw.right _ (jt hy),F,E⟩
 .intro h i hi
  have hc:=CO.1 (h _ (hp.mem_iff.1 (jt hi)));have pt:=hw.prt _ (jt hi);have cov:∀ v,(zp d.notes (gN s i).par).1.fr<=v->v<(zp d.notes (gN s i).par).1.tO->∃ j,j<s.length/\(gN s j).par=(gN s i).par/\(gN s j).fr<=v/\v<(gN s j).tO:=by
   intro v h1 h2;obtain⟨y,hy,_,F,E⟩:=hc.2 v h1 h2;obtain⟨m,hm,rfl⟩:=List.mem_map.1 hy;obtain⟨j,hj,H,rfl⟩:=(Uo hp).1 hm;exact⟨j,hj,H,F,E⟩
  have lo:=hw.lo _ (jt hi);have S:=hw.hi _ (jt hi);have W:=L _ (jt hi);generalize hP:(zp d.notes (gN s i).par).1.fr=a at *;generalize hQ:(zp d.notes (gN s i).par).1.tO=b at *;have pt':a<b:=by simp only[yJ,Bool.and_eq_true,decide_eq_true_eq] at pt;omega
  simp only[ZM,Bool.or_eq_false_iff,Bool.and_eq_false_iff,Bool.not_eq_false',decide_eq_true_eq,hP,hQ];refine⟨⟨?_,?_⟩,?_⟩
  .cases hf:yK s i with
   |false=>exact .inl rfl
   |true=>
    right
    apply Classical.byContradiction
    intro X;obtain⟨j,hj,H,Y,Z⟩:=cov a (Int.le_refl _) pt';rcases Nat.lt_trichotomy j i with G | rfl | G
    .rcases Qn.1 hf with e | e
     .omega
     .apply e
      rcases Nat.eq_or_lt_of_le (show j<=i-1 by omega) with e' | e'
      .rw[<-e',H]
      .have x1:=hs.par j (i-1) e' (by omega)
       have x2:=hs.par (i-1) i (by omega) hi
       omega
    .omega
    .have:=hs.fr i j G hj H.symm
     omega
  .cases hf:yK s i with
   |true=>exact .inl rfl
   |false=>
    right
    obtain⟨h0,K⟩:=YG.1 hf;have J:i-1<s.length:=by omega
    have h1:=ha (i-1) i (by omega) hi K
    apply Classical.byContradiction
    intro X;have r1:=L _ (jt J);have l1:=hw.lo _ (jt J);rw[K,hP] at l1;obtain⟨j,hj,H,Y,Z⟩:=cov (gN s (i-1)).tO (by omega) (by omega)
    rcases Nat.lt_trichotomy j (i-1) with G | e | G
    .have:=ha j (i-1) G J (H.trans K.symm)
     omega
    .subst e;omega
    .rcases Nat.eq_or_lt_of_le (show i<=j by omega) with e' | e'
     .subst e';omega
     .have:=hs.fr i j e' hj H.symm
      omega
  .cases hf:lastB s i with
   |false=>exact .inl rfl
   |true=>
    right
    apply Classical.byContradiction
    intro X;obtain⟨j,hj,H,Y,Z⟩:=cov (gN s i).tO (by omega) (by omega)
    rcases Nat.lt_trichotomy j i with G | rfl | G
    .have:=ha j i G hi H
     omega
    .omega
    .rcases CY.1 hf with e | e
     .omega
     .apply e
      rcases Nat.eq_or_lt_of_le (show i+1<=j from G) with e' | e'
      .rw[e',H]
      .have x1:=hs.par (i+1) j e' hj
       have x2:=hs.par i (i+1) (by omega) (by omega)
       omega
def j5(s:List Nt)(i:Nat):Nat:=((s.take i).filter λn=>decide (n.par=(gN s i).par)).length
theorem Jo(hs:Srt s){i:Nat}(hi:i<s.length)(h:yK s i=true):j5 s i=0:=by
 unfold j5
 rw[List.length_eq_zero_iff,List.filter_eq_nil_iff]
 intro x F E
 obtain⟨j,hj,rfl⟩:=List.mem_take_iff_getElem.1 F
 have H:j<s.length:=by omega
 have G:j<i:=by omega
 simp only[decide_eq_true_eq] at E
 rw[<-qo H] at E
 rcases Qn.1 h with e | e
 .omega
 .apply e
  rcases Nat.eq_or_lt_of_le (show j<=i-1 by omega) with e' | e'
  .rw[<-e',E]
  .have x1:=hs.par j (i-1) e' (by omega)
   have x2:=hs.par (i-1) i (by omega) hi
   omega
theorem Up{i:Nat}(hi:i<s.length)(h:yK s i=false):j5 s i=j5 s (i-1)+1:=by
 obtain⟨G,F⟩:=YG.1 h
 obtain⟨j,rfl⟩:∃ j,i=j+1:=⟨i-1,by omega⟩
 have hj:j<s.length:=by omega
 have H:(gN s j).par=(gN s (j+1)).par:=F
 unfold j5
 rw[take_snoc' hj,List.filter_append,List.length_append]
 have:[s[j]].filter (λn=>decide (n.par=(gN s (j+1)).par))=[s[j]]:=by
  rw[List.filter_cons_of_pos (by rw[<-qo hj];simpa using H)];rfl
 rw[this]
 simp only[Nat.add_sub_cancel,List.length_singleton,H]
theorem pos_at{i:Nat}(hi:i<s.length):(s.filter λn=>decide (n.par=(gN s i).par))[j5 s i]?=some (gN s i):=by
 have:=CP (q:=λn=>decide (n.par=(gN s i).par)) hi (by rw[<-qo hi];simp)
 rw[<-qo hi] at this
 exact this
theorem B2{p:Int}{j:Nat}(h:j<(s.filter λn=>decide (n.par=p)).length):∃ i,i<s.length/\(gN s i).par=p/\j5 s i=j:=by
 obtain⟨i,hi,G,F⟩:=Ul h
 have H:(gN s i).par=p:=by rw[qo hi];simpa using G
 exact⟨i,hi,H,by unfold j5;rw[H];exact F⟩
def uN(s:List Nt)(i:Nat):Bool:=(yK s i && !decide ((gN s i).rank=0)) || (!yK s i && !decide ((gN s i).rank=IntKind.i64.wrap ((gN s (i-1)).rank+1)))
theorem B5(hs:Srt s)(G:s.length<2^40):(∀ i,i<s.length->uN s i=false)↔∀ i,i<s.length->(gN s i).rank=j5 s i:=by
 have F:∀ i,j5 s i<=s.length:=by
  intro i;unfold j5;exact Nat.le_trans (List.length_filter_le _ _) (by rw[List.length_take];omega)
 constructor
 .intro h i
  induction i with
  |zero=>
   intro hi;have E:yK s 0=true:=Qn.2 (.inl rfl)
   have:=h 0 hi
   rw[Jo hs hi E];simp[uN,E] at this;exact this
  |succ j ih=>
   intro hi;have:=h (j+1) hi
   cases E:yK s (j+1) with
   |true=>
    rw[Jo hs hi E];simp[uN,E] at this;exact this
   |false=>
    have e:=ih (by omega)
    have H:=F j;have e2:=Up hi E;simp only[Nat.add_sub_cancel] at e2;simp[uN,E] at this;rw[this,e,e2,wrap64 (by omega)];push_cast;rfl
 .intro h i hi
  cases E:yK s i with
  |true=>
   have:=h i hi
   rw[Jo hs hi E] at this;simp[uN,E,this]
  |false=>
   have e2:=Up hi E;have e:=h i hi;have e1:=h (i-1) (by omega)
   have H:=F (i-1);simp only[uN,E,Bool.false_and,Bool.false_or,Bool.not_false,Bool.true_and,Bool.not_eq_false',decide_eq_true_eq];rw[e,e1,e2,wrap64 (by omega)];push_cast;rfl
theorem B6(M:s.Perm (y7 d.notes t))(hs:Srt s)(O:s.length<2^40)(Q:∀ n∈s,n.fr=0):
  (∀ i,i<s.length->uN s i=false)↔∀ n∈y7 d.notes t,jQ (yc d.notes t n.par)=true:=by
 rw[B5 hs O]
 constructor
 .intro h n T
  rw[Ql];intro m V;rw[<-(Z2 M n.par).length_eq] at V;obtain⟨i,hi,X,Y⟩:=B2 V;rw[List.any_eq_true];exact⟨gN s i,(Uo M).2 ⟨i,hi,X,rfl⟩,by rw[decide_eq_true_eq,h i hi,Y]⟩
 .intro h i hi
  have Z:=Ql.1 (h _ (M.mem_iff.1 (jt hi)));have H:=(Z2 M (gN s i).par).length_eq;have E:((s.filter λn=>decide (n.par=(gN s i).par)).map (·.rank)).Pairwise (·<=·):=by
   rw[List.pairwise_map,List.pairwise_filter,List.pairwise_iff_getElem];intro a b A B K X Y;simp only[decide_eq_true_eq] at X Y;rw[<-qo A] at X ⊢;rw[<-qo B] at Y ⊢;exact hs.rank a b K B (X.trans Y.symm) (by rw[Q _ (jt A),Q _ (jt B)])
  have J:=CS _ 0 E (λn T=>by
   rw[List.length_map,H] at T;have:=Z n T
   rw[List.any_eq_true] at this;obtain⟨x,C,G⟩:=this;simp only[decide_eq_true_eq] at G;rw[List.mem_map];exact⟨x,(Z2 M _).mem_iff.2 C,by rw[G];omega⟩)
  have F:=pos_at hi;have L:j5 s i<(s.filter λn=>decide (n.par=(gN s i).par)).length:=(List.getElem?_eq_some_iff.1 F).1
  have:=J (j5 s i) (by rw[List.length_map];exact L)
  rw[List.getElem?_map,F] at this;simp at this
  exact this
theorem S8(G:s.Perm (y7 d.notes t))(hs:Srt s):(∀ i,i<s.length->yK s i=true)↔∀ n∈y7 d.notes t,¬1<(yc d.notes t n.par).length:=by
 constructor
 .intro h n F E
  rw[<-(Z2 G n.par).length_eq] at E;obtain⟨i,hi,_,K⟩:=B2 E;rw[Jo hs hi (h i hi)] at K;cases K
 .intro h i hi
  cases J:yK s i with
  |true=>rfl
  |false=>
   exfalso
   apply h _ (G.mem_iff.1 (jt hi))
   have e2:=Up hi J;have H:=(List.getElem?_eq_some_iff.1 (pos_at hi)).1;rw[(Z2 G (gN s i).par).length_eq] at H;omega
end
end Go.V.Doc
namespace Go.V.Doc
open Go Go.Proofs
theorem Uq(d:Dc):∀ (m i:Nat),i+m=d.notes.length->vp d m i=0->∀ j,i<=j->j<d.notes.length->js d j=0
 |0,i,h,_,j,H,h2=>by omega
 |m+1,i,h,G,j,H,h2=>by
  rw[Ui,if_pos (by omega)] at G
  by_cases F:js d i=0
  .rw[if_pos F] at G
   rcases Nat.eq_or_lt_of_le H with e | e
   .rw[<-e];exact F
   .exact Uq d m (i+1) (by omega) G j e h2
  .rw[if_neg F] at G;exact absurd G F
theorem Ur(l:List Tir):∀ (m i:Nat),i+m=l.length->gV l m i=0->∀ j,i<=j->(h:j<l.length)->qx (l.take j) l[j]=0
 |0,i,h,_,j,H,h2=>by omega
 |m+1,i,h,G,j,H,h2=>by
  simp only[gV] at G;rw[dif_pos (by omega)] at G
  by_cases F:qx (l.take i) (l[i]'(by omega))=0
  .rw[if_pos F] at G
   rcases Nat.eq_or_lt_of_le H with e | e
   .subst e;exact F
   .exact Ur l m (i+1) (by omega) G j e h2
  .rw[if_neg F] at G;exact absurd G F
structure Good(d:Dc):Prop where
 tiers:∀ j,(h:j<d.tiers.length)->qx (d.tiers.take j) d.tiers[j]=0
 notes:∀ j,j<d.notes.length->js d j=0
theorem Us{l:List Tir}{t:Tir}(h:qx l t=0)(H:t.kind≠0):0<=t.par/\t.par<l.length/\(zT t.kind=true->zT (l[t.par.toNat]?.getD default).kind=true):=by
 unfold qx at h
 split at h
 .cases h
 .split at h
  .cases h
  .split at h
   .cases h
   .split at h
    .cases h
    .split at h
     .cases h
     .split at h
      .cases h
      .rename_i hp
       split at h
       .cases h
       .rename_i ha
        refine⟨by omega,by omega,λe=>?_⟩
        cases G:zT (l[t.par.toNat]?.getD default).kind with
        |true=>rfl
        |false=>exact absurd ⟨e,G⟩ ha
structure NoteOk(d:Dc)(n:Nt):Prop where
 t0:0<=n.tier
 t1:n.tier<d.tiers.length
 place:wu d n=0
theorem uO{d:Dc}(h:Good d){n:Nt}(H:n∈d.notes):NoteOk d n:=by
 obtain⟨i,hi,rfl⟩:=List.mem_iff_getElem.1 H
 have:=h.notes i hi
 simp only[js,List.getElem?_eq_getElem hi,Option.getD_some] at this
 split at this
 .cases this
 .split at this
  .cases this
  .split at this
   .cases this
   .rename_i ht
    rw[YE] at this;split at this
    .exact⟨by omega,by omega,this⟩
    .rename_i hx;exact absurd this hx
theorem Qq{d:Dc}{n:Nt}(h:wu d n=0):((zu d n.tier).kind=0->n.par=0)/\((zu d n.tier).kind≠0->(zp d.notes n.par).2=true/\(zp d.notes n.par).1.tier=(zu d n.tier).par) /\
  jr d n (zp d.notes n.par).1=true:=by
 unfold wu at h
 by_cases H:(zu d n.tier).kind=0
 .rw[if_pos H] at h
  by_cases G:n.par=0
  .rw[if_pos (by simpa using G)] at h
   by_cases F:jr d n (zp d.notes n.par).1=true
   .exact⟨λ_=>G,λe=>absurd H e,F⟩
   .rw[if_neg F] at h;cases h
  .rw[if_neg (by simpa using G)] at h;cases h
 .rw[if_neg H] at h
  by_cases E:((zp d.notes n.par).2&&decide ((zp d.notes n.par).1.tier=(zu d n.tier).par))=true
  .rw[if_pos E] at h
   by_cases F:jr d n (zp d.notes n.par).1=true
   .rw[Bool.and_eq_true,decide_eq_true_eq] at E
    exact⟨λe=>absurd e H,λ_=>E,F⟩
   .rw[if_neg F] at h;cases h
  .rw[if_neg E] at h;cases h
theorem Qr{d:Dc}{i:Int}(H:0<=i)(G:i<d.tiers.length):Qg d.tiers i=zT (zu d i).kind:=by
 unfold Qg zu
 rw[decide_eq_true H,decide_eq_true G];rfl
theorem Qs{d:Dc}{n:Nt}(h:NoteOk d n)(H:zT (zu d n.tier).kind=true):yJ n.fr n.tO=true:=by
 have G:=(Qq h.place).2.2
 unfold jr at G
 rw[if_pos (by rw[Qr h.t0 h.t1];exact H),Bool.and_eq_true] at G
 exact G.1
theorem Ut{d:Dc}{n:Nt}(h:NoteOk d n)(H:zT (zu d n.tier).kind=false):n.fr=0/\n.tO=0:=by
 have G:=(Qq h.place).2.2
 unfold jr at G
 rw[if_neg (by rw[Qr h.t0 h.t1,H];simp),Bool.and_eq_true,decide_eq_true_eq,decide_eq_true_eq] at G
 exact G
theorem uP{l:List Nt}{id:Int}(h:(zp l id).2=true):(zp l id).1∈l/\(zp l id).1.id=id:=by
 unfold zp at h ⊢
 cases H:l.find? λn=>decide (n.id=id) with
 |none=>rw[H] at h;cases h
 |some n=>
  rw[H] at h;exact⟨List.mem_of_find?_eq_some H,by simpa using List.find?_some H⟩
theorem S9{d:Dc}(L:Good d){n:Nt}(h:NoteOk d n)(M:(zu d n.tier).kind≠0)(O:zT (zu d n.tier).kind=true):
  yJ (zp d.notes n.par).1.fr (zp d.notes n.par).1.tO=true/\(zp d.notes n.par).1.fr<=n.fr/\n.tO<=(zp d.notes n.par).1.tO:=by
 obtain⟨_,Q,T⟩:=Qq h.place
 obtain⟨E,G⟩:=Q M
 have V:=uP E
 have K:=uO L V.1
 obtain⟨k,J⟩:∃ k:Nat,n.tier=k:=⟨n.tier.toNat,by have:=h.t0;omega⟩
 have F:k<d.tiers.length:=by have:=h.t1;omega
 have et:zu d n.tier=d.tiers[k]:=by rw[J];simp[zu,List.getElem?_eq_getElem F]
 rw[et] at M O G
 obtain⟨q1,q2,q3⟩:=Us (L.tiers k F) M
 have H:(d.tiers.take k).length=k:=by rw[List.length_take];omega
 rw[H] at q2
 have q4:=q3 O
 have e2:(d.tiers.take k)[(d.tiers[k]).par.toNat]?.getD default=zu d (d.tiers[k]).par:=by
  unfold zu;rw[List.getElem?_take,if_pos (by omega)]
 rw[e2] at q4
 refine⟨Qs K (by rw[G];exact q4),?_⟩
 unfold jr at T
 rw[if_pos (by rw[Qr h.t0 h.t1,et];exact O),et,if_neg M,Bool.and_eq_true,Bool.and_eq_true,decide_eq_true_eq,decide_eq_true_eq] at T
 exact T.2
theorem B7{n:Nat}{f:Nat->Bool}:(List.range' 0 n).any f=false↔∀ i,i<n->f i=false:=by
 rw[List.any_eq_false]
 constructor
 .intro h i hi
  have:=h i (by rw[List.mem_range'];exact⟨i,hi,by omega⟩)
  simpa using this
 .intro h i hi
  rw[List.mem_range'] at hi;obtain⟨j,hj,rfl⟩:=hi;simpa using h _ (by omega)
theorem Qt{α:Type}{l:List α}{f:α->Bool}:l.any f=false↔∀ x∈l,f x=false:=by
 rw[List.any_eq_false]
 exact⟨λh x H=>by simpa using h x H,λh x H=>by simpa using h x H⟩
theorem B8{a b:Bool}(h:a=false↔b=false):a=b:=by
 cases a <;> cases b <;> simp_all
theorem Sb(d:Dc)(L:Good d)(M:d.notes.length<=300)(t:Nat)(O:t<d.tiers.length):Qk d t=wy d t:=by
 rw[S0,CW]
 have Q:=CB (y7 d.notes t)
 have hs:=CX (y7 d.notes t)
 have T:(xx (y7 d.notes t)).length<2^40:=by
  rw[Jj];have:(y7 d.notes t).length<=d.notes.length:=List.length_filter_le _ _
  omega
 have H:∀ n∈xx (y7 d.notes t),NoteOk d n/\n.tier=t:=by
  intro n M;have V:=Q.mem_iff.1 M;unfold y7 at V;rw[List.mem_filter] at V;exact⟨uO L V.1,by simpa using V.2⟩
 generalize xx (y7 d.notes t)=s at *
 generalize G:(zu d (t:Int)).kind=kd
 have K:(List.range' 0 s.length).any (YF kd s)=(y7 d.notes t).any (wA d t kd):=by
  apply B8
  rw[B7,Qt];cases X:zT kd with
  |false=>simp[YF,wA,X]
  |true=>
   have Y:∀ n∈s,n.fr<n.tO:=by
    intro n M;obtain⟨V,Z⟩:=H n M;have:=Qs V (by rw[Z,G];exact X)
    simp only[yJ,Bool.and_eq_true,decide_eq_true_eq] at this;omega
   simp only[YF,wA,X,Bool.true_and];rw[<-CZ Q hs Y];exact⟨S4 hs,S5⟩
 rw[K]
 cases A:(y7 d.notes t).any (wA d t kd) with
 |true=>rfl
 |false=>
  have F:(List.range' 0 s.length).any (kD d.notes kd s)=(y7 d.notes t).any (badR d t kd):=by
   apply B8
   rw[B7,Qt];by_cases k1:kd=1
   .subst k1
    have X:zT 1=true:=rfl
    have Y:∀ n∈s,yJ n.fr n.tO=true:=λn M=>by
     obtain⟨V,Z⟩:=H n M;exact Qs V (by rw[Z,G];exact X)
    have J:∀ n∈s,n.fr<n.tO:=λn M=>by
     have:=Y n M
     simp only[yJ,Bool.and_eq_true,decide_eq_true_eq] at this;omega
    have E:Qo s:=by
     rw[CZ Q hs J];intro n M;have:=Qt.1 A n M
     simpa[wA,X] using this
    have B:Wit d.notes s:=by
     have w:=λn (M:n∈s)=>S9 L (H n M).1 (by rw[(H n M).2,G];decide) (by rw[(H n M).2,G];exact X)
     exact⟨Y,λn M=>(w n M).1,λn M=>(w n M).2.1,λn M=>(w n M).2.2⟩
    have:=S7 Q hs E B
    have e1:∀ i,kD d.notes 1 s i=ZM d.notes s i:=λi=>by simp[kD,ZM]
    have e2:∀ n,badR d t 1 n = !wv (spansOf (yc d.notes t n.par)) ⟨(zp d.notes n.par).1.fr,(zp d.notes n.par).1.tO⟩:=λn=>by simp[badR]
    simp only[e1,e2,Bool.not_eq_false'];exact this
   by_cases k3:kd=3
   .subst k3
    have X:zT 3=false:=rfl
    have:=B6 Q hs T λn M=>(Ut (H n M).1 (by rw[(H n M).2,G];exact X)).1
    have e1:∀ i,kD d.notes 3 s i=uN s i:=λi=>by simp[kD,uN]
    have e2:∀ n,badR d t 3 n = !jQ (yc d.notes t n.par):=λn=>by simp[badR]
    simp only[e1,e2,Bool.not_eq_false'];exact this
   by_cases k4:kd=4
   .subst k4
    have:=S8 Q hs
    have e1:∀ i,kD d.notes 4 s i = !yK s i:=λi=>by simp[kD]
    have e2:∀ n,badR d t 4 n=decide (1<(yc d.notes t n.par).length):=λn=>by simp[badR]
    simp only[e1,e2,Bool.not_eq_false',decide_eq_false_iff_not];exact this
   simp[kD,badR,k1,k3,k4]
  rw[F]
theorem B9(d:Dc)(H:Good d)(G:d.notes.length<=300):∀ (m i:Nat),i+m=d.tiers.length->Jk d m i=wz d m i
 |0,i,_=>rfl
 |m+1,i,h=>by
  simp only[Jk,wz];have hi:i<d.tiers.length:=by omega
  rw[if_pos hi,if_pos hi,Sb d H G i hi,B9 d H G m (i+1) (by omega)]
theorem Uu(d:Dc):Uh d=wT d:=by
 unfold Uh wT
 split
 .rfl
 .rename_i F
  split
  .rfl
  .split
   .rfl
   .rename_i h3
    split
    .rfl
    .rename_i E
     have H:wt d.tiers=0:=by simpa using F
     have G:vp d d.notes.length 0=0:=by simpa using E
     unfold wt at H;split at H
     .cases H
     .exact B9 d ⟨λj hj=>Ur _ _ _ (by omega) H j (by omega) hj,λj hj=>Uq d _ _ (by omega) G j (by omega) hj⟩ (by omega) _ _ (by omega)
structure Nok(d:Dc)(n:Nt):Prop where
 lo:1<=n.id
 hi:n.id<=1099511627776
 t0:0<=n.tier
 t1:n.tier<d.tiers.length
 e:Qj d n=0
structure Rgt(d:Dc):Prop where
 tiers:wt d.tiers=0
 len:0<=d.len/\d.len<=86400000
 few:d.notes.length<=300
 nok:∀ n∈d.notes,Nok d n
 inc:d.notes.Pairwise λa b=>a.id<b.id
 ter:∀ t:Nat,t<d.tiers.length->wy d t=0
theorem Ba(d:Dc):∀ (m i:Nat),i+m=d.notes.length->(∀ j,i<=j->j<d.notes.length->js d j=0)->vp d m i=0
 |0,i,h,_=>rfl
 |m+1,i,h,H=>by
  rw[Ui,if_pos (by omega),if_pos (H i (Nat.le_refl _) (by omega))]
  exact Ba d m (i+1) (by omega) λj G h2=>H j (by omega) h2
theorem Bb(d:Dc):∀ (m i:Nat),i+m=d.tiers.length->wz d m i=0->∀ j:Nat,i<=j->j<d.tiers.length->wy d j=0
 |0,i,h,_,j,H,h2=>by omega
 |m+1,i,h,G,j,H,h2=>by
  simp only[wz] at G;rw[if_pos (by omega)] at G
  by_cases F:wy d i=0
  .rw[if_pos F] at G
   rcases Nat.eq_or_lt_of_le H with e | e
   .rw[<-e];exact F
   .exact Bb d m (i+1) (by omega) G j e h2
  .rw[if_neg F] at G;exact absurd G F
theorem Bc(d:Dc):∀ (m i:Nat),i+m=d.tiers.length->(∀ j:Nat,i<=j->j<d.tiers.length->wy d j=0)->wz d m i=0
 |0,i,h,_=>rfl
 |m+1,i,h,H=>by
  simp only[wz];rw[if_pos (by omega),if_pos (H i (Nat.le_refl _) (by omega))]
  exact Bc d m (i+1) (by omega) λj G h2=>H j (by omega) h2
theorem Jp{d:Dc}{i:Nat}(hi:i<d.notes.length):js d i=0↔Nok d d.notes[i]/\(i≠0->(d.notes[i-1]?.getD default).id<d.notes[i].id):=by
 simp only[js,List.getElem?_eq_getElem hi,Option.getD_some]
 constructor
 .intro h
  split at h
  .cases h
  .split at h
   .cases h
   .split at h
    .cases h
    .exact⟨⟨by omega,by omega,by omega,by omega,h⟩,λh0=>by omega⟩
 .rintro⟨⟨H,G,F,E,K⟩,J⟩
  rw[if_neg (by omega),if_neg (by rintro⟨a,b⟩;have:=J a;omega),if_neg (by omega)]
  exact K
theorem Uv{d:Dc}:(∀ i,i<d.notes.length->js d i=0)↔(∀ n∈d.notes,Nok d n)/\d.notes.Pairwise λa b=>a.id<b.id:=by
 constructor
 .intro h
  refine⟨λn hn=>?_,?_⟩
  .obtain⟨i,hi,rfl⟩:=List.mem_iff_getElem.1 hn
   exact((Jp hi).1 (h i hi)).1
  .rw[List.pairwise_iff_getElem]
   have key:∀ (k i:Nat) (hj:i+k+1<d.notes.length),(d.notes[i]'(by omega)).id<(d.notes[i+k+1]'hj).id:=by
    intro k;induction k with
    |zero=>
     intro i hj;have:=((Jp hj).1 (h _ hj)).2 (by omega)
     rw[Nat.add_sub_cancel,List.getElem?_eq_getElem (by omega)] at this
     exact this
    |succ k ih=>
     intro i hj;have a:=ih i (by omega)
     have:=((Jp hj).1 (h _ hj)).2 (by omega)
     rw[Nat.add_sub_cancel,List.getElem?_eq_getElem (by omega)] at this
     exact Int.lt_trans a this
   intro i j hi hj H;obtain⟨k,rfl⟩:∃ k,j=i+k+1:=⟨j-i-1,by omega⟩
   exact key k i hj
 .rintro⟨G,F⟩ i hi
  rw[Jp hi];refine⟨G _ (List.getElem_mem hi),λh0=>?_⟩
  rw[List.getElem?_eq_getElem (by omega)]
  exact List.pairwise_iff_getElem.1 F (i-1) i (by omega) hi (by omega)
theorem Bd{d:Dc}:Uh d=0↔Rgt d:=by
 rw[Uu]
 unfold wT
 constructor
 .intro h
  split at h
  .rename_i G;exact absurd h G
  .rename_i G
   split at h
   .cases h
   .split at h
    .cases h
    .split at h
     .rename_i F;exact absurd h F
     .rename_i F
      have H:vp d d.notes.length 0=0:=by simpa using F
      have E:=Uv.1 λi hi=>Uq d _ _ (by omega) H i (by omega) hi
      exact⟨by simpa using G,by omega,by omega,E.1,E.2,λt K=>Bb d _ _ (by omega) h t (by omega) K⟩
 .intro h
  rw[if_neg (by simpa using h.tiers),if_neg (by have:=h.len;omega),if_neg (by have:=h.few;omega)]
  have:=Uv.2 ⟨h.nok,h.inc⟩
  rw[Ba d _ _ (by omega) λj _ hj=>this j hj]
  rw[if_neg (by simp)]
  exact Bc d _ _ (by omega) λj _ hj=>h.ter j hj
theorem Rgt.good{d:Dc}(h:Rgt d):Good d:=by
 refine⟨?_,Uv.2 ⟨h.nok,h.inc⟩⟩
 have H:=h.tiers
 unfold wt at H
 split at H
 .cases H
 .exact λj hj=>Ur _ _ _ (by omega) H j (by omega) hj
theorem Uw{d:Dc}{t:Int}:wy d t=0↔(∀ n∈y7 d.notes t,wA d t (zu d t).kind n=false)/\∀ n∈y7 d.notes t,badR d t (zu d t).kind n=false:=by
 rw[CW,<-Qt,<-Qt]
 have H:Z1 (zu d t).kind≠0:=by unfold Z1;split <;> (try split) <;> omega
 cases (y7 d.notes t).any (wA d t (zu d t).kind) <;> cases (y7 d.notes t).any (badR d t (zu d t).kind) <;> simp[H]
theorem Qu{d:Dc}(h:Rgt d){a b:Nt}(H:a∈d.notes)(G:b∈d.notes)(e:a.id=b.id):a=b:=by
 obtain⟨i,hi,rfl⟩:=List.mem_iff_getElem.1 H
 obtain⟨j,hj,rfl⟩:=List.mem_iff_getElem.1 G
 have F:=List.pairwise_iff_getElem.1 h.inc
 rcases Nat.lt_trichotomy i j with E | rfl | E
 .have:=F i j hi hj E;omega
 .rfl
 .have:=F j i hj hi E;omega
theorem ju{d:Dc}(h:Rgt d){n:Nt}(H:n∈d.notes):zp d.notes n.id=(n,true):=by
 unfold zp
 cases G:d.notes.find? λm=>decide (m.id=n.id) with
 |none=>rw[List.find?_eq_none] at G;exact absurd (G n H) (by simp)
 |some m=>
  have F:=List.mem_of_find?_eq_some G;have E:m.id=n.id:=by simpa using List.find?_some G
  rw[Qu h F H E]
end Go.V.Doc

/- Contracts and plain laws of this seat: part MB. It needs no conditions. -/
import Derived.Test.YtknekjalbninmaaGreatMA
import Derived.Test.YtknekjalbninmaaGreatU0
import Derived.Test.YtknekjalbninmaaGreatX9
import Derived.Test.YtknekjalbninmaaGreatProg
import Derived.KernelRfl
import Derived.Test.YtknekjalbninmaaGreatSh
import Derived.Test.YtknekjalbninmaaGreatSq
set_option maxHeartbeats 32000000
set_option linter.unusedVariables false
set_option linter.unusedSimpArgs false
set_option linter.unusedSectionVars false
set_option maxRecDepth 100000
namespace Go.V.Doc
open Go Go.Proofs
def zQ(k:Int):Bool:=decide (k=0) || decide (k=1) || decide (k=2)
def XJ(l:List Tir)(i:Int):Bool:=decide (0<=i)&&decide (i<l.length)&&zQ (l[i.toNat]?.getD default).kind
def Zt(l:List Tir)(name:ByteArray):Bool:=l.any λt=>decide (t.name=name)
def gk(l:List Tir)(role:Int):Bool:=!decide (role=0)&&l.any λt=>decide (t.role=role)
def gm(pr tk tr:Int):Int:=
 if tr=1 then (if tk=0 then 0 else 14) else if tr=2 then (if pr=1 then 0 else 13) else if tr=3 then (if tk=3 then (if pr=2 then 0 else 13) else 14)
 else if tr=4 then (if tk=4 then (if pr=3 then 0 else 13) else 14) else if tr=5 then (if tk=4 then (if pr=1 then 0 else 13) else 14) else 0
def qj(before:List Tir)(t:Tir):Int:=
 if nameP t.name=false then 7 else if Zt before t.name=true then 8 else if t.kind<0\/4<t.kind then 14 else if t.role<0\/5<t.role then 2
 else if gk before t.role=true then 8 else if t.kind=0 then (if t.par = -1 then gm (-1) t.kind t.role else 13)
 else if t.par<0\/before.length<=t.par then 13
 else if zQ t.kind=true/\zQ (before[t.par.toNat]?.getD default).kind=false then 13 else gm (before[t.par.toNat]?.getD default).role t.kind t.role
def gn(l:List Tir):Nat->Nat->Int
 |0,_=>0
 |n+1,i=>if h:i<l.length then (if qj (l.take i) l[i]=0 then gn l n (i+1) else qj (l.take i) l[i]) else 0
def jH(l:List Tir):Int:=if 12<l.length then 11 else gn l l.length 0
theorem gp(k:Int):zi Tryz.prog 189 [int k] (.bool (zQ k)):=by
 refine zp mixed Tryz.func189 rfl c_189 ?_
 by_cases H:k=0
 .subst H;simp+decide[Tryz.f189,int,zQ]
 by_cases G:k=1
 .subst G;simp+decide[Tryz.f189,int,zQ]
 by_cases F:k=2
 .subst F;simp+decide[Tryz.f189,int,zQ]
 simp+decide[Tryz.f189,int,zQ,H,G,F]
def kO(r:Int):Int:=if r=1 then 0 else if r=3 then 3 else if r=4 then 4 else if r=5 then 4 else -1
def overR(r:Int):Int:=if r=2 then 1 else if r=5 then 1 else if r=3 then 2 else if r=4 then 3 else -1
theorem OX(r:Int):zi Tryz.prog 190 [int r] (int (kO r)):=by
 refine zp mixed Tryz.func190 rfl c_190 ?_
 by_cases H:r=1
 .subst H;simp+decide[Tryz.f190,int,kO]
 by_cases G:r=3
 .subst G;simp+decide[Tryz.f190,int,kO]
 by_cases F:r=4
 .subst F;simp+decide[Tryz.f190,int,kO]
 by_cases E:r=5
 .subst E;simp+decide[Tryz.f190,int,kO]
 simp+decide[Tryz.f190,int,kO,H,G,F,E]
theorem OY(r:Int):zi Tryz.prog 191 [int r] (int (overR r)):=by
 refine zp mixed Tryz.func191 rfl c_191 ?_
 by_cases H:r=2
 .subst H;simp+decide[Tryz.f191,int,overR]
 by_cases G:r=5
 .subst G;simp+decide[Tryz.f191,int,overR]
 by_cases F:r=3
 .subst F;simp+decide[Tryz.f191,int,overR]
 by_cases E:r=4
 .subst E;simp+decide[Tryz.f191,int,overR]
 simp+decide[Tryz.f191,int,overR,H,G,F,E]
theorem Kt{α:Type}{l:List α}{p:α->Bool}{k:Nat}(h:k<l.length):(l.take (k+1)).any p=((l.take k).any p || p l[k]):=by
 rw[List.take_succ_eq_append_getElem h,List.any_append];simp
theorem OZ{pr tk tr:Int}(h:0<=tr/\tr<=5):gm pr tk tr=if 0<=kO tr/\¬tk=kO tr then 14 else if 0<=overR tr/\¬pr=overR tr then 13 else 0:=by
 rcases(by omega:tr=0\/tr=1\/tr=2\/tr=3\/tr=4\/tr=5) with rfl | rfl | rfl | rfl | rfl | rfl <;> simp[gm,kO,overR] <;> (repeat' split) <;> simp_all
theorem P0(l:List Tir)(i:Nat)(hi:i<l.length)(Y:l.length<2^62)(hs:∀ t∈l,t.name.size<=9223372036854775807):zi Tryz.prog 131 [zF l,int i] (int (qj (l.take i) l[i])):=by
 refine zp mixed Tryz.func131 rfl c_131 ?_
 have V:(i:Int)<l.length:=by omega
 have ei:l[i]?=some l[i]:=List.getElem?_eq_getElem hi
 have F:(l.take i).length=i:=by rw[List.length_take];omega
 have Q:=hs _ (List.getElem_mem hi)
 obtain⟨t,et⟩:∃ t,l[i]=t:=⟨_,rfl⟩
 rw[et] at Q ei ⊢
 obtain⟨nm,kd,rl,pr⟩:=t
 simp+decide[Tryz.f131,zF,Tir.row,int,ei,et,hi,V]
 refine zc.pure (by rfl) (DJ nm Q) (by simp) ?_
 by_cases Z:nameP nm=true
 case neg=>simp+decide[Z,qj,int]
 simp+decide[Z,int]
 refine zr mixed (λk:Nat=>{n:=136,next:=1,slots:=[(0,.d (zF l)),(1,.d (int i)),(4,.d (int 0)),(5,.bp 0 0),(6,.d (.int .i64 k))],own:=[(0,.box 74 [.d (.str nm),.d (int kd),.d (int rl),.d (int pr)])]})
  (λk=>k<=i/\Zt (l.take k) nm=false) (λk=>i-k) 0 (by simp[Zt]) (by simp+decide[zF,int]) ?_
 rintro k ⟨A,B⟩
 by_cases X:k<i
 .have H:(k:Int)<i:=by omega
  have L:k<l.length:=by omega
  have E:(k:Int)<l.length:=by omega
  have e1:l[k]?=some l[k]:=List.getElem?_eq_getElem L
  have M:Zt (l.take (k+1)) nm=decide (l[k].name=nm):=by unfold Zt at B ⊢;rw[Kt L,B,Bool.false_or]
  by_cases C:l[k].name=nm
  .have I:Zt (l.take i) nm=true:=by
    unfold Zt;rw[List.any_eq_true];exact⟨l[k],by rw[List.mem_take_iff_getElem];exact⟨k,by omega,rfl⟩,by simp[C]⟩
   simp+decide[zF,Tir.row,int,e1,L,E,H,C,qj,Z,I]
  .simp+decide[zF,Tir.row,int,e1,L,E,H,C,I64]
   exact⟨by omega,k+1,⟨by omega,by rw[M];simp[C]⟩,by omega,by omega⟩
 have:k=i:=by omega
 subst this
 by_cases k1:kd<0
 .simp+decide[int,zF,k1,qj,Z,B]
 by_cases k2:4<kd
 .simp+decide[int,zF,k1,k2,qj,Z,B]
 by_cases r1:rl<0
 .simp+decide[int,zF,k1,k2,r1,qj,Z,B]
 by_cases r2:5<rl
 .simp+decide[int,zF,k1,k2,r1,r2,qj,Z,B]
 simp+decide[int,zF,k1,k2,r1,r2]
 refine zr mixed (λj:Nat=>{n:=136,next:=1,slots:=[(0,.d (zF l)),(1,.d (int k)),(4,.d (int 0)),(5,.bp 0 0),(7,.d (.int .i64 j))],own:=[(0,.box 74 [.d (.str nm),.d (int kd),.d (int rl),.d (int pr)])]})
  (λj=>j<=k/\gk (l.take j) rl=false) (λj=>k-j) 0 (by simp[gk]) (by simp+decide[zF,int]) ?_
 rintro j ⟨hj,N⟩
 by_cases X:j<k
 .have H:(j:Int)<k:=by omega
  have J:j<l.length:=by omega
  have G:(j:Int)<l.length:=by omega
  have e1:l[j]?=some l[j]:=List.getElem?_eq_getElem J
  by_cases z:rl=0
  .subst z
   simp+decide[zF,Tir.row,int,e1,J,G,H,I64];exact⟨by omega,j+1,⟨by omega,by simp[gk]⟩,by omega,by omega⟩
  have M:gk (l.take (j+1)) rl=decide (l[j].role=rl):=by
   unfold gk at N ⊢;simp only[z,decide_false,Bool.not_false,Bool.true_and] at N ⊢;rw[Kt J,N,Bool.false_or]
  by_cases C:l[j].role=rl
  .have I:gk (l.take k) rl=true:=by
    unfold gk;simp only[z,decide_false,Bool.not_false,Bool.true_and];rw[List.any_eq_true];exact⟨l[j],by rw[List.mem_take_iff_getElem];exact⟨j,by omega,rfl⟩,by simp[C]⟩
   simp+decide[zF,Tir.row,int,e1,J,G,H,C,qj,Z,B,I,k1,k2,r1,r2,z]
  .simp+decide[zF,Tir.row,int,e1,J,G,H,C,I64,z]
   exact⟨by omega,j+1,⟨by omega,by rw[M];simp[C]⟩,by omega,by omega⟩
 have:j=k:=by omega
 subst this
 have P:qj (l.take j) ⟨nm,kd,rl,pr⟩=if kd=0 then (if pr = -1 then gm (-1) kd rl else 13) else if pr<0\/(j:Int)<=pr then 13 else if zQ kd=true/\zQ ((l.take j)[pr.toNat]?.getD default).kind=false then 13 else gm ((l.take j)[pr.toNat]?.getD default).role kd rl:=by
  simp only[qj];rw[if_neg (by simp[Z]),if_neg (by simp[B]),if_neg (by omega),if_neg (by omega),if_neg (by simp[N]),F]
 rw[P]
 simp only[OZ (show 0<=rl/\rl<=5 by omega)]
 clear P B N Z F
 have S:=OX rl
 have W:=OY rl
 generalize kO rl=K at S ⊢
 generalize overR rl=O at W ⊢
 by_cases k0:kd=0
 .subst k0
  by_cases p0:pr = -1
  case neg=>simp+decide[int,zF,Tir.row,p0]
  subst p0;have g4:0<=O->¬ -1=O:=by omega
  by_cases g2:0=K
  .subst g2
   by_cases g3:0<=O <;> (repeat first | refine zq (by rfl) (by rfl) S (by simp[int]) ?_ | refine zq (by rfl) (by rfl) W (by simp[int]) ?_ | refine zq (by rfl) (by rfl) (gp _) (by simp[int]) ?_ | refine zc.pure (by rfl) (gp _) (by simp[int]) ?_ | simp+decide[int,zF,Tir.row,g3,g4])
  by_cases g1:0<=K <;> by_cases g3:0<=O <;> (repeat first | refine zq (by rfl) (by rfl) S (by simp[int]) ?_ | refine zq (by rfl) (by rfl) W (by simp[int]) ?_ | refine zq (by rfl) (by rfl) (gp _) (by simp[int]) ?_ | refine zc.pure (by rfl) (gp _) (by simp[int]) ?_ | simp+decide[int,zF,Tir.row,g1,g2,g3,g4])
 by_cases p0:pr<0
 .simp+decide[int,zF,Tir.row,k0,p0]
 by_cases p1:(j:Int)<=pr
 .simp+decide[int,zF,Tir.row,k0,p0,p1]
 obtain⟨q,rfl⟩:∃ q:Nat,pr=q:=⟨pr.toNat,by omega⟩
 have C:q<l.length:=by omega
 have T:(q:Int)<l.length:=by omega
 obtain⟨u,eu'⟩:∃ u,l[q]=u:=⟨_,rfl⟩
 have eu:l[q]?=some u:=by rw[List.getElem?_eq_getElem C,eu']
 have et:(l.take j)[(q:Int).toNat]?=some u:=by rw[Int.toNat_natCast,List.getElem?_take,if_pos (by omega),eu]
 obtain⟨un,uk,ur,up⟩:=u
 rw[et]
 simp only[Option.getD_some]
 by_cases g2:kd=K
 .subst g2
  have g1:0<=kd:=by omega
  by_cases a1:zQ kd=true <;> by_cases a2:zQ uk=true <;> by_cases g3:0<=O <;> by_cases g4:ur=O <;>
   (repeat first | refine zq (by rfl) (by rfl) S (by simp[int]) ?_ | refine zq (by rfl) (by rfl) W (by simp[int]) ?_ | refine zq (by rfl) (by rfl) (gp _) (by simp[int]) ?_ | refine zc.pure (by rfl) (gp _) (by simp[int]) ?_ | simp+decide[int,zF,Tir.row,k0,p0,p1,C,T,eu,eu',a1,a2,g1,g3,g4])
 by_cases a1:zQ kd=true <;> by_cases a2:zQ uk=true <;> by_cases g1:0<=K <;> by_cases g3:0<=O <;> by_cases g4:ur=O <;>
  (repeat first | refine zq (by rfl) (by rfl) S (by simp[int]) ?_ | refine zq (by rfl) (by rfl) W (by simp[int]) ?_ | refine zq (by rfl) (by rfl) (gp _) (by simp[int]) ?_ | refine zc.pure (by rfl) (gp _) (by simp[int]) ?_ | simp+decide[int,zF,Tir.row,k0,p0,p1,C,T,eu,eu',a1,a2,g1,g2,g3,g4])
theorem P1(l:List Tir)(E:l.length<2^62)(hs:∀ t∈l,t.name.size<=9223372036854775807):zi Tryz.prog 79 [zF l] (int (jH l)):=by
 refine zp mixed Tryz.func79 rfl c_79 ?_
 by_cases K:12<l.length
 .have H:(12:Int)<l.length:=by omega
  simp+decide[Tryz.f79,zF,int,H,jH,K]
 have H:¬(12:Int)<l.length:=by omega
 simp+decide[Tryz.f79,zF,int,H,jH,K]
 refine zr mixed (λk:Nat=>{n:=20,next:=0,slots:=[(0,.d (zF l)),(3,.d (.int .i64 k))],own:=[]})
  (λk=>k<=l.length/\gn l l.length 0=gn l (l.length-k) k) (λk=>l.length-k) 0 (by simp) (by simp+decide[zF,int]) ?_
 intro k ⟨J,L⟩
 by_cases F:k<l.length
 .have G:(k:Int)<l.length:=by omega
  obtain⟨m,M⟩:∃ m,l.length-k=m+1:=⟨l.length-k-1,by omega⟩
  rw[M] at L;simp only[gn,dif_pos F] at L;simp+decide[zF,int,G];refine zc.pure (by rfl) (P0 l k F E hs) (by simp[zF,int]) ?_
  by_cases O:qj (l.take k) l[k]=0
  .rw[if_pos O] at L
   simp+decide[int,O,I64];exact⟨by omega,k+1,⟨by omega,by rw[L];congr 1;omega⟩,by omega,by simp[zF]⟩
  .rw[if_neg O] at L
   simp+decide[int,O,L]
 .have:k=l.length:=by omega
  subst this;rw[Nat.sub_self] at L;simp+decide[zF,int,L,gn]
end Go.V.Doc
namespace Go.V
open Go Go.Proofs
def DT(inv:List Phon):Prop:=inv.length<=1048576/\∀ p∈inv,p.name.size<=1048576
theorem P2(inv:List Phon)(hi:DT inv):xT Tryz.prog 86 [.agg [zH inv]] VC:=by
 obtain⟨M,O⟩:=hi
 refine qy mixed Tryz.func86 rfl c_86 ?_
 by_cases Q:(60:Int)<inv.length
 .simp+decide[Tryz.f86,zH,Q]
 simp+decide[Tryz.f86,zH,Q]
 refine zr mixed (λk:Nat=>{n:=58,next:=1,slots:=[(1,.bp 0 0),(11,.d (int inv.length)),(12,.d (int k))],own:=[(0,.box 24 [.d (zH inv)])]})
  (λk=>k<=inv.length) (λk=>inv.length-k) 0 (by simp) (by simp+decide[int,zH]) ?_
 intro k T
 by_cases F:k<inv.length
 .have H:(k:Int)<inv.length:=by omega
  have J:=O inv[k] (List.getElem_mem F);obtain⟨x,ex⟩:∃ x,inv[k]=x:=⟨_,rfl⟩;have ex1:inv[k]?=some x:=by rw[List.getElem?_eq_getElem F,ex]
  rw[ex] at J;simp+decide[int,zH,F,H,ex,Phon.row];refine zc.some (by rfl) (DI x.name J) ?_
  rintro r ⟨b,rfl⟩
  cases b with
  |false=>simp+decide
  |true=>
   simp+decide
   refine zr mixed (λm:Nat=>{n:=58,next:=1,slots:=[(1,.bp 0 0),(3,.d (int k)),(4,.d (int m)),(11,.d (int inv.length)),(12,.d (int k))],own:=[(0,.box 24 [.d (zH inv)])]})
    (λm=>m<=k) (λm=>k-m) 0 (by simp) (by simp+decide[int,zH]) ?_
   intro m V;by_cases L:m<k
   .have G:(m:Int)<k:=by omega
    have K:m<inv.length:=by omega
    have E:(m:Int)<inv.length:=by omega
    obtain⟨y,ey⟩:∃ y,inv[m]=y:=⟨_,rfl⟩;have ey1:inv[m]?=some y:=by rw[List.getElem?_eq_getElem K,ey]
    by_cases b1:y.name=x.name
    .simp+decide[int,zH,G,K,E,F,H,ex,ey,Phon.row,b1]
    .simp+decide[int,zH,G,K,E,F,H,ex,ey,Phon.row,I64]
     exact λ_=>⟨⟨by omega,by omega⟩,m+1,L,by omega,by omega⟩
   .have G:¬(m:Int)<k:=by omega
    by_cases b1:x.feat<0
    .simp+decide[int,zH,G,F,H,ex,Phon.row,b1]
    .by_cases b2:65536<=x.feat
     .simp+decide[int,zH,G,F,H,ex,Phon.row,b1,b2]
     .simp+decide[int,zH,G,F,H,ex,Phon.row,b1,b2,I64]
      exact⟨⟨by omega,by omega⟩,k+1,F,by omega,by omega⟩
 .have H:¬(k:Int)<inv.length:=by omega
  simp+decide[int,zH,H]
def jn(l:List (List ByteArray)):List ByteArray:=l.flatten
def yJ(l:List Int)(n:Int):Nat:=(l.takeWhile λx=>decide (x<n)).length
def jt(l:List Int)(n:Int):List Int:=l.take (yJ l n)++[n]++(if l[yJ l n]?=some n then l.drop (yJ l n+1) else l.drop (yJ l n))
theorem Ku{l:List Int}{n:Int}{k:Nat}(H:k<=l.length)(G:∀ x∈l.take k,x<n)(F:∀ h:k<l.length,¬l[k]<n):yJ l n=k:=by
 unfold yJ
 have e:l=l.take k++l.drop k:=(List.take_append_drop k l).symm
 have E:(l.takeWhile λx=>decide (x<n))=l.take k:=by
  conv=>lhs;rw[e]
  rw[List.takeWhile_append_of_pos (by intro a K;simpa using G a K)]
  by_cases J:k<l.length
  .rw[List.drop_eq_getElem_cons J,List.takeWhile_cons_of_neg (by simpa using F J),List.append_nil]
  .rw[List.drop_eq_nil_of_le (by omega)];simp
 rw[E,List.length_take];omega
theorem P3(l:List Int)(n:Int)(K:l.length<2^40):zi Tryz.prog 230 [ints l,int n] (ints (jt l n)):=by
 refine u4 mixed Tryz.func230 rfl c_230 [1] ?_
 simp+decide[Tryz.f230,int,ints]
 refine zr mixed (λk:Nat=>{n:=51,next:=2,slots:=[(0,.d (ints l)),(1,.d (int n)),(5,.ar 1),(6,.d (int k))],own:=[(1,.arr 3 1 ((l.take k).map λx=>[int x]))],moved:=[1]})
  (λk=>k<=l.length/\∀ x∈l.take k,x<n) (λk=>l.length-k) 0 (by simp) (by simp+decide[int,ints]) ?_
 rintro k ⟨J,L⟩
 have E:(l.take k).length=k:=by rw[List.length_take];omega
 by_cases H:k<l.length
 .have G:(k:Int)<l.length:=by omega
  have em:l[k]?=some l[k]:=List.getElem?_eq_getElem H
  by_cases M:l[k]<n
  .simp+decide[int,ints,H,G,M,I64]
   refine⟨by omega,by unfold maxLen;omega,⟨by omega,by omega⟩,k+1,⟨H,λx F=>?_⟩,by omega,by omega,?_⟩
   .rw[y9 H] at F
    rcases List.mem_append.1 F with h | h
    .exact L x h
    .rw[List.mem_singleton] at h;rw[h];exact M
   .rw[y9 (by rw[List.length_map];exact H),List.getElem_map]
  .have O:jt l n=l.take k++[n]++(if l[k]?=some n then l.drop (k+1) else l.drop k):=by
    unfold jt;rw[Ku J L λ_=>M]
   rw[O,em];by_cases Q:l[k]=n
   .rw[if_pos (by rw[Q])]
    simp+decide[int,ints,H,G,Q,I64];refine⟨by omega,by unfold maxLen;omega,⟨by omega,by omega⟩,⟨by omega,by omega⟩,λr T=>?_,by omega,by unfold maxLen;omega,?_⟩
    .have:=List.mem_of_mem_take (List.mem_of_mem_drop T)
     rw[List.mem_map] at this;obtain⟨z,_,rfl⟩:=this;rfl
    .rw[List.take_of_length_le (by simp)]
   .rw[if_neg (by simpa using Q)]
    simp+decide[int,ints,H,G,M,Q];refine⟨by omega,by unfold maxLen;omega,by omega,λr T=>?_,by omega,by unfold maxLen;omega,?_⟩
    .have:=List.mem_of_mem_take (List.mem_of_mem_drop T)
     rw[List.mem_map] at this;obtain⟨z,_,rfl⟩:=this;rfl
    .rw[List.take_of_length_le (by simp)]
 .have:k=l.length:=by omega
  subst this;have O:jt l n=l.take l.length++[n]++[]:=by
   unfold jt;rw[Ku J L λh=>absurd h (by omega)]
   simp
  rw[O];simp+decide[int,ints];exact⟨by omega,by unfold maxLen;omega,by omega,by unfold maxLen;omega⟩
theorem P4(l:List Int)(n:Int):yJ l n<=l.length:=(List.takeWhile_sublist _).length_le
theorem DU{p:Int->Bool}:∀ {l:List Int} {x:Int},x∈l.takeWhile p->p x=true
 | [],x,h=>by cases h
 |a::r,x,h=>by
  by_cases e:p a=true
  .rw[List.takeWhile_cons_of_pos e] at h
   rcases List.mem_cons.1 h with rfl | h
   .exact e
   .exact DU h
  .rw[List.takeWhile_cons_of_neg e] at h;cases h
theorem DV(l:List Int)(n:Int):∀ x∈l.take (yJ l n),x<n:=by
 intro x H
 have:l.take (yJ l n)=l.takeWhile λx=>decide (x<n):=by
  unfold yJ;have:=List.takeWhile_prefix (l:=l) λx=>decide (x<n)
  exact(List.prefix_iff_eq_take.1 this).symm
 rw[this] at H
 simpa using DU H
theorem DW{l:List Int}{n:Int}(h:yJ l n<l.length):¬l[yJ l n]<n:=by
 intro H
 have e1:(l.takeWhile λx=>decide (x<n))++(l.dropWhile λx=>decide (x<n))=l:=List.takeWhile_append_dropWhile
 cases G:l.dropWhile λx=>decide (x<n) with
 |nil=>
  rw[G,List.append_nil] at e1;have:yJ l n=l.length:=by unfold yJ;rw[e1]
  omega
 |cons y r=>
  have F:=List.head_dropWhile_not (λx=>decide (x<n)) (by rw[G];simp:l.dropWhile (λx=>decide (x<n))≠[])
  simp only[G,List.head_cons,decide_eq_false_iff_not] at F;have e0:∀ A B:List Int,B=y::r->(A++B)[A.length]?=some y:=by
   intro A B h;rw[h,List.getElem?_append_right (Nat.le_refl _),Nat.sub_self];rfl
  have e3:=e0 (l.takeWhile λx=>decide (x<n)) _ G
  rw[e1] at e3;change l[yJ l n]?=some y at e3
  rw[List.getElem?_eq_getElem h] at e3;have:=Option.some.inj e3
  rw[this] at H;exact F H
theorem DX{l:List Int}(hs:l.Pairwise λx y=>x<y)(n:Int):∀ x,x∈(if l[yJ l n]?=some n then l.drop (yJ l n+1) else l.drop (yJ l n))↔x∈l/\n<x:=by
 intro x
 have K:=List.pairwise_iff_getElem.1 hs
 have H:x∈l->n<x->x∈l.drop (yJ l n):=λL M=>by
  have F:=L;rw[<-List.take_append_drop (yJ l n) l] at F;rcases List.mem_append.1 F with h | h
  .have:=DV l n x h;omega
  .exact h
 by_cases G:yJ l n<l.length
 .have J:=DW G
  have E:∀ y∈l.drop (yJ l n+1),l[yJ l n]<y:=λy O=>by
   obtain⟨i,hi,rfl⟩:=List.mem_iff_getElem.1 O;rw[List.length_drop] at hi;rw[List.getElem_drop];exact K _ _ G (by omega) (by omega)
  rw[List.getElem?_eq_getElem G];by_cases e:l[yJ l n]=n
  .rw[if_pos (by rw[e])]
   constructor
   .intro L
    have:=E x L
    exact⟨List.mem_of_mem_drop L,by omega⟩
   .rintro⟨L,M⟩
    have:=H L M
    rw[List.drop_eq_getElem_cons G] at this;rcases List.mem_cons.1 this with h | h
    .omega
    .exact h
  .rw[if_neg (by simpa using e)]
   constructor
   .intro L
    refine⟨List.mem_of_mem_drop L,?_⟩
    rw[List.drop_eq_getElem_cons G] at L;rcases List.mem_cons.1 L with h | h
    .omega
    .have:=E x h;omega
   .rintro⟨L,M⟩;exact H L M
 .have Q:l.drop (yJ l n)=[]:=List.drop_eq_nil_of_le (by omega)
  rw[List.getElem?_eq_none (by omega),if_neg (by simp),Q]
  constructor
  .intro h;cases h
  .rintro⟨L,M⟩
   have:=H L M
   rwa [Q] at this
theorem P5{l:List Int}(hs:l.Pairwise λx y=>x<y){n x:Int}:x∈jt l n↔x=n\/x∈l:=by
 unfold jt
 rw[List.mem_append,List.mem_append,List.mem_singleton,DX hs]
 constructor
 .rintro((h | h) | h)
  .exact .inr (List.mem_of_mem_take h)
  .exact .inl h
  .exact .inr h.1
 .rintro(h | h)
  .exact .inl (.inr h)
  .rcases Int.lt_trichotomy x n with q | q | q
   .have F:=h
    rw[<-List.take_append_drop (yJ l n) l] at F;rcases List.mem_append.1 F with E | E
    .exact .inl (.inl E)
    .exfalso
     have H:=List.pairwise_iff_getElem.1 hs;obtain⟨i,hi,rfl⟩:=List.mem_iff_getElem.1 E;rw[List.length_drop] at hi;rw[List.getElem_drop] at q;have G:=DW (l:=l) (n:=n) (by omega)
     rcases Nat.eq_zero_or_pos i with rfl | hi0
     .exact G q
     .have:=H (yJ l n) (yJ l n+i) (by omega) (by omega) (by omega)
      omega
   .exact .inl (.inr q)
   .exact .inr ⟨h,q⟩
theorem P6{l:List Int}(hs:l.Pairwise λx y=>x<y)(n:Int):(jt l n).Pairwise λx y=>x<y:=by
 unfold jt
 rw[List.pairwise_append,List.pairwise_append]
 have H:=DV l n
 have G:=λx=>(DX hs n x).1
 refine⟨⟨hs.sublist (List.take_sublist _ _),by simp,λa F b E=>?_⟩,?_,λa F b E=>?_⟩
 .rw[List.mem_singleton] at E;rw[E];exact H a F
 .split
  .exact hs.sublist (List.drop_sublist _ _)
  .exact hs.sublist (List.drop_sublist _ _)
 .have K:=(G b E).2
  rcases List.mem_append.1 F with h | h
  .have:=H a h;omega
  .rw[List.mem_singleton] at h;omega
def sortL(l:List Int):List Int:=l.foldl jt []
theorem DY(l:List Int)(n:Int):sortL (l++[n])=jt (sortL l) n:=by unfold sortL;rw[List.foldl_append];rfl
theorem P7{l:List Int}(hs:l.Pairwise λx y=>x<y)(n:Int):(jt l n).length=l.length+(if n∈l then 0 else 1):=by
 have F:=P4 l n
 have H:n∈l↔l[yJ l n]?=some n:=by
  constructor
  .intro E
   obtain⟨k,K,ek⟩:=List.mem_iff_getElem.1 E;have G:=List.pairwise_iff_getElem.1 hs;have:yJ l n=k:=by
    refine Ku (Nat.le_of_lt K) (λx J=>?_) (λh=>by rw[ek];omega)
    obtain⟨i,hi,rfl⟩:=List.mem_iff_getElem.1 J;rw[List.length_take] at hi;rw[List.getElem_take,<-ek];exact G i k (by omega) K (by omega)
   rw[this,List.getElem?_eq_getElem K,ek]
  .intro h;exact List.mem_of_getElem? h
 unfold jt
 by_cases h:l[yJ l n]?=some n
 .rw[if_pos h,if_pos (H.2 h)]
  have:yJ l n<l.length:=by
   rcases Nat.lt_or_ge (yJ l n) l.length with L | L
   .exact L
   .rw[List.getElem?_eq_none L] at h;cases h
  simp;omega
 .rw[if_neg h,if_neg (λL=>h (H.1 L))]
  simp;omega
theorem Kv:∀ (m:Nat) (l:List Int),l.length=m->(sortL l).Pairwise (λx y=>x<y)/\(∀ x,x∈sortL l↔x∈l)/\(sortL l).length<=l.length/\((sortL l).length=l.length->l.Nodup)
 |0,l,h=>by
  have:l=[]:=List.length_eq_zero_iff.mp h
  subst this;exact⟨List.Pairwise.nil,λx=>Iff.rfl,Nat.le_refl _,λ_=>List.nodup_nil⟩
 |m+1,l,h=>by
  have H:l≠[]:=by intro e;subst e;cases h
  obtain⟨a,n,rfl⟩:∃ a n,l=a++[n]:=⟨l.dropLast,l.getLast H,(List.dropLast_concat_getLast H).symm⟩;have G:a.length=m:=by simpa using h
  obtain⟨F,E,K,J⟩:=Kv m a G;rw[DY];have L:=P7 F n;refine⟨P6 F n,λx=>?_,?_,λhe=>?_⟩
  .rw[P5 F,E,List.mem_append,List.mem_singleton]
   exact Or.comm
  .rw[L,List.length_append];split <;> simp <;> omega
  .rw[L,List.length_append] at he
   simp only[List.length_singleton] at he;by_cases M:n∈sortL a
   .rw[if_pos M] at he;omega
   .rw[if_neg M] at he
    rw[List.nodup_append];refine⟨J (by omega),by simp,λx O y hy=>?_⟩
    rw[List.mem_singleton] at hy;subst hy;intro e;subst e;exact M ((E x).2 O)
theorem P8{l:List Int}(h:(sortL l).length=l.length):l.Nodup:=(Kv _ l rfl).2.2.2 h
theorem P9(l:List Int):(sortL l).length<=l.length:=(Kv _ l rfl).2.2.1
theorem Kw(l:List Int)(E:l.length<2^40):zi Tryz.prog 198 [ints l] (ints (sortL l)):=by
 refine zp mixed Tryz.func198 rfl c_198 ?_
 simp+decide[Tryz.f198,ints]
 refine uS [1] ?_
 refine zr mixed (λk:Nat=>{n:=18,next:=2,slots:=[(0,.d (ints l)),(3,.d (ints (sortL (l.take k)))),(6,.d (int l.length)),(7,.d (int k))],own:=[],moved:=[]})
  (λk=>k<=l.length) (λk=>l.length-k) 0 (by simp) (by simp+decide[int,ints,sortL]) ?_
 intro k K
 by_cases H:k<l.length
 case neg=>
  have:k=l.length:=by omega
  subst this;rw[List.take_length];simp+decide[int,ints]
 have G:(k:Int)<l.length:=by omega
 have hsn:sortL (l.take (k+1))=jt (sortL (l.take k)) l[k]:=by rw[y9 H,DY]
 have F:=P9 (l.take k)
 rw[List.length_take] at F
 obtain⟨n,en⟩:∃ n,l[k]=n:=⟨_,rfl⟩
 have e1:l[k]?=some n:=by rw[List.getElem?_eq_getElem H,en]
 rw[en] at hsn
 have J:=P3 (sortL (l.take k)) n (by omega)
 rw[<-hsn] at J
 simp+decide[int,ints,H,G,en]
 refine zc.pure (by rfl) J (by simp[ints]) ?_
 simp+decide[ints]
 exact⟨⟨by omega,by omega⟩,k+1,H,by omega,rfl,by omega⟩
def kP(inv:List Phon)(r:Rule)(k:Nat):Bool:=!(yG inv (r.src[k]?.getD 0)) || (decide (r.dst[k]?.getD 0≠0) && !(yG inv (r.dst[k]?.getD 0)))
def gq(inv:List Phon)(r:Rule):Int:=
 if r.src.length=0\/r.dst.length≠r.src.length then 1 else if ((List.range r.src.length).any λk=>kP inv r k)=true then 19
 else if (sortL r.src).length≠r.src.length then 8 else if 2<r.left.length\/2<r.right.length then 5 else 0
theorem Pa(inv:List Phon)(r:Rule)(hs:r.src.length<=1048576)(Y:r.dst.length<=1048576):zi Tryz.prog 147 [.agg [zH inv],.agg r.row] (int (gq inv r)):=by
 obtain⟨src,dst,left,right,beg,fin⟩:=r
 simp only at hs Y
 have Z:=Kw src (by omega)
 refine zp mixed Tryz.func147 rfl c_147 ?_
 obtain⟨R,A⟩:∃ R,gq inv ⟨src,dst,left,right,beg,fin⟩=R:=⟨_,rfl⟩
 rw[A]
 unfold gq at A
 simp only at A
 by_cases B:src.length=0
 .have:R=1:=by rw[<-A,if_pos (.inl B)]
  subst this;have V:(src.length:Int)=0:=by omega
  simp+decide[Tryz.f147,int,ints,Rule.row,B];done
 have V:¬(src.length:Int)=0:=by omega
 by_cases C:dst.length=src.length
 case neg=>
  have:R=1:=by rw[<-A,if_pos (.inr C)]
  subst this;have Q:¬(dst.length:Int)=src.length:=by omega
  simp+decide[Tryz.f147,int,ints,Rule.row,B,Q];done
 have Q:(dst.length:Int)=src.length:=by omega
 rw[if_neg (by rintro(h | h);exact B h;exact h C)] at A
 simp+decide[Tryz.f147,int,ints,Rule.row,B,C]
 refine zr mixed (λk:Nat=>{n:=70,next:=2,slots:=[(2,.bp 0 0),(3,.bp 1 0),(21,.d (int src.length)),(22,.d (int k))],own:=[(0,.box 24 [.d (zH inv)]),(1,.box 90 [.d (ints src),.d (ints dst),.d (yZ left),.d (yZ right),.d (.bool beg),.d (.bool fin)])]})
  (λk=>k<=src.length/\∀ j,j<k->kP inv ⟨src,dst,left,right,beg,fin⟩ j=false) (λk=>src.length-k) 0 (by simp) (by simp+decide[int,ints]) ?_
 intro k ⟨I,N⟩
 by_cases F:k<src.length
 .have J:(k:Int)<src.length:=by omega
  have L:k<dst.length:=by omega
  have E:(k:Int)<dst.length:=by omega
  obtain⟨x,ex⟩:∃ x,src[k]=x:=⟨_,rfl⟩;obtain⟨y,ey⟩:∃ y,dst[k]=y:=⟨_,rfl⟩;have ex1:src[k]?=some x:=by rw[List.getElem?_eq_getElem F,ex]
  have ey1:dst[k]?=some y:=by rw[List.getElem?_eq_getElem L,ey]
  have P:=Vp inv x;have S:=Vp inv y;have X:kP inv ⟨src,dst,left,right,beg,fin⟩ k=(!(yG inv x) || (decide (y≠0) && !(yG inv y))):=by unfold kP;simp only;rw[ex1,ey1];rfl
  have G:kP inv ⟨src,dst,left,right,beg,fin⟩ k=true->R=19:=by
   intro h;rw[<-A,if_pos (List.any_eq_true.2 ⟨k,List.mem_range.2 F,h⟩)]
  have H:kP inv ⟨src,dst,left,right,beg,fin⟩ k=false->∀ j,j<k+1->kP inv ⟨src,dst,left,right,beg,fin⟩ j=false:=by
   intro h j hj;rcases Nat.lt_succ_iff_lt_or_eq.mp hj with W | W
   .exact N j W
   .rw[W];exact h
  rw[X] at G H;simp+decide[int,ints,F,J,ex];refine zq (by rfl) (by rfl) P (by simp) ?_
  cases hx:yG inv x with
  |false=>
   rw[hx] at G;have:=G rfl
   subst this;simp+decide
  |true=>
   rw[hx] at G H;by_cases hy:y=0
   .rw[decide_eq_false (by simpa using hy)] at H
    have hg:=H rfl;simp+decide[L,E,ey,hy,I64];exact⟨⟨by omega,by omega⟩,k+1,⟨F,hg⟩,by omega,by omega⟩
   .rw[decide_eq_true (by simpa using hy)] at H G
    simp+decide[L,E,ey,hy];refine zq (by rfl) (by rfl) S (by simp) ?_
    cases hz:yG inv y with
    |false=>
     rw[hz] at G;have:=G rfl
     subst this;simp+decide
    |true=>
     rw[hz] at H;have hg:=H rfl;simp+decide[I64];exact⟨⟨by omega,by omega⟩,k+1,⟨F,hg⟩,by omega,by omega⟩
 .have:k=src.length:=by omega
  subst this;have M:((List.range src.length).any λk=>kP inv ⟨src,dst,left,right,beg,fin⟩ k)=false:=by
   rw[List.any_eq_false];intro j hj;rw[N j (List.mem_range.1 hj)];decide
  rw[if_neg (by rw[M];decide)] at A
  simp+decide[int,ints];refine zq (by rfl) (by rfl) Z (by simp[ints]) ?_
  by_cases hn:(sortL src).length=src.length
  .have T:((sortL src).length:Int)=src.length:=by omega
   rw[if_neg (by simpa using hn)] at A
   by_cases hl:2<left.length
   .have K:(2:Int)<left.length:=by omega
    rw[if_pos (.inl hl)] at A;subst A;simp+decide[ints,yZ,hn,K]
   .have K:¬(2:Int)<left.length:=by omega
    by_cases hr:2<right.length
    .have O:(2:Int)<right.length:=by omega
     rw[if_pos (.inr hr)] at A;subst A;simp+decide[ints,yZ,hn,K,O]
    .have O:¬(2:Int)<right.length:=by omega
     rw[if_neg (by rintro(h | h);exact hl h;exact hr h)] at A
     subst A;simp+decide[ints,yZ,hn,K,O]
  .have T:¬((sortL src).length:Int)=src.length:=by omega
   rw[if_pos (by simpa using hn)] at A
   subst A;simp+decide[ints,yZ,T]
theorem Pb{inv:List Phon}{r:Rule}(h:gq inv r=0)(hs:r.src.length<=1048576):RuleL r:=by
 unfold gq at h
 split at h
 .cases h
 rename_i F
 split at h
 .cases h
 split at h
 .cases h
 rename_i E
 split at h
 .cases h
 rename_i K
 have H:r.dst.length=r.src.length:=Classical.byContradiction λe=>F (.inr e)
 have G:(sortL r.src).length=r.src.length:=Classical.byContradiction λe=>E e
 exact {src:=by omega,left:=by omega,right:=by omega,dst:=H,once:=P8 G }
def VD(inv:List Phon)(r:Rule):Prop:=∀ x∈r.dst,x=0\/yG inv x=true
theorem Pd{inv:List Phon}{r:Rule}(h:gq inv r=0):VD inv r:=by
 unfold gq at h
 split at h
 .cases h
 rename_i G
 split at h
 .cases h
 rename_i F
 have H:r.dst.length=r.src.length:=Classical.byContradiction λe=>G (.inr e)
 intro x E
 obtain⟨k,K,ek⟩:=List.mem_iff_getElem.1 E
 have J:((List.range r.src.length).any λk=>kP inv r k)=false:=by simpa using F
 rw[List.any_eq_false] at J
 have L:=J k (List.mem_range.2 (by omega))
 unfold kP at L
 rw[List.getElem?_eq_getElem K,ek,Option.getD_some] at L
 by_cases M:x=0
 .exact .inl M
 .right
  cases hs:yG inv x with
  |true=>rfl
  |false=>rw[hs] at L;simp[M] at L
structure RulesC(rs:List Rule):Prop where
 few:rs.length<=1048576
 each:∀ r∈rs,r.src.length<=1048576/\r.dst.length<=1048576
theorem Pe(g:Lang)(E:RulesC g.rules):xT Tryz.prog 88 [g.d] (λx=>∃ e,x=int e/\(e=0->∀ r∈g.rules,RuleL r/\VD g.inv r)):=by
 have F:=E.few
 refine qy mixed Tryz.func88 rfl c_88 ?_
 by_cases K:(12:Int)<g.rules.length
 .simp+decide[Tryz.f88,Lang.d,int,yr,K]
 simp+decide[Tryz.f88,Lang.d,int,yr,K]
 refine zr mixed (λk:Nat=>{n:=27,next:=1,slots:=[(1,.bp 0 0),(3,.d (int k))],own:=[(0,.box 36 (zj g.d))]})
  (λk=>k<=g.rules.length/\∀ r∈g.rules.take k,RuleL r/\VD g.inv r) (λk=>g.rules.length-k) 0 (by simp) (by simp+decide[int,yr,zj,Lang.d]) ?_
 intro k ⟨J,L⟩
 by_cases H:k<g.rules.length
 .have G:(k:Int)<g.rules.length:=by omega
  have M:=E.each g.rules[k] (List.getElem_mem H);obtain⟨r,er⟩:∃ r,g.rules[k]=r:=⟨_,rfl⟩;have er1:g.rules[k]?=some r:=by rw[List.getElem?_eq_getElem H,er]
  have hsn:=y9 H;rw[er] at M hsn;have O:=Pa g.inv r M.1 M.2;simp+decide[int,yr,zj,Lang.d,H,G,er,Rule.row];refine zq (by rfl) (by rfl) O (by simp[int]) ?_
  by_cases Q:gq g.inv r=0
  .rw[Q]
   simp+decide[int,I64];refine⟨⟨by omega,by omega⟩,k+1,⟨H,λx T=>?_⟩,by omega,by omega⟩
   rw[hsn] at T;rcases List.mem_append.1 T with h | h
   .exact L x h
   .rw[List.mem_singleton] at h;rw[h];exact⟨Pb Q M.1,Pd Q⟩
  .simp+decide[int,Q]
 .have:k=g.rules.length:=by omega
  subst this;rw[List.take_length] at L;simp+decide[int,yr,zj,Lang.d];exact L
theorem Kx(n:Nett)(q:Int):zi Tryz.prog 148 [.agg n.cells,int q] (.bool (decide (0<=q/\q<n.states))):=by
 refine zp mixed Tryz.func148 rfl c_148 ?_
 by_cases H:0<=q
 .simp+decide[Tryz.f148,int,Nett.cells,H]
 .simp+decide[Tryz.f148,int,Nett.cells,H]
def DZ(n:Nett)(s:Stp):Prop:=(0<=s.src/\s.src<n.states)/\(0<=s.dst/\s.dst<n.states)/\1<=s.cls/\s.cls<=20
structure NetF(n:Nett):Prop where
 lo:1<=n.states
 steps:∀ s∈n.steps,DZ n s
 final:∀ q∈n.final,0<=q/\q<n.states
theorem Pf(n:Nett)(hs:n.steps.length<=1048576)(Y:n.final.length<=1048576):xT Tryz.prog 89 [.agg n.cells] (λx=>∃ e,x=int e/\(e=0->NetF n)):=by
 refine qy mixed Tryz.func89 rfl c_89 ?_
 by_cases Z:n.states<1
 .simp+decide[Tryz.f89,int,Nett.cells,Z]
 by_cases A:24<n.states
 .simp+decide[Tryz.f89,int,Nett.cells,Z,A]
 by_cases B:(200:Int)<n.steps.length
 .simp+decide[Tryz.f89,int,Nett.cells,stepsD,Z,A,B]
 simp+decide[Tryz.f89,int,Nett.cells,stepsD,Z,A,B]
 refine zr mixed (λk:Nat=>{n:=98,next:=1,slots:=[(1,.bp 0 0),(3,.d (int k))],own:=[(0,.box 33 (n.cells.map .d))]})
  (λk=>k<=n.steps.length/\∀ s∈n.steps.take k,DZ n s) (λk=>n.steps.length-k) 0 (by simp) (by simp+decide[int,ints,stepsD,Nett.cells]) ?_
 intro k ⟨C,I⟩
 by_cases E:k<n.steps.length
 .have J:(k:Int)<n.steps.length:=by omega
  obtain⟨x,ex⟩:∃ x,n.steps[k]=x:=⟨_,rfl⟩;have ex1:n.steps[k]?=some x:=by rw[List.getElem?_eq_getElem E,ex]
  have hsn:=y9 E;rw[ex] at hsn;have N:=Kx n x.src;have P:=Kx n x.dst;simp+decide[int,ints,stepsD,Nett.cells,E,J,ex,Stp.row];refine zc.pure (by rfl) N (by simp) ?_
  by_cases a1:0<=x.src/\x.src<n.states
  case neg=>simp+decide[a1]
  simp+decide[a1];refine zc.pure (by rfl) P (by simp) ?_
  by_cases a2:0<=x.dst/\x.dst<n.states
  case neg=>simp+decide[a2]
  by_cases a3:x.cls<1
  .simp+decide[a2,a3]
  by_cases a4:20<x.cls
  .simp+decide[a2,a3,a4]
  simp+decide[a2,a3,a4];refine zr mixed (λm:Nat=>{n:=98,next:=2,slots:=[(1,.bp 0 0),(3,.d (int k)),(4,.bp 1 0),(5,.d (int m))],own:=[(0,.box 33 (n.cells.map .d)),(1,.box 156 (x.row.map .d))]})
   (λm=>m<=k) (λm=>k-m) 0 (by simp) (by simp+decide[int,ints,stepsD,Nett.cells,Stp.row]) ?_
  intro m S;by_cases X:m<k
  .have G:(m:Int)<k:=by omega
   have T:m<n.steps.length:=by omega
   have L:(m:Int)<n.steps.length:=by omega
   obtain⟨y,ey⟩:∃ y,n.steps[m]=y:=⟨_,rfl⟩;have ey1:n.steps[m]?=some y:=by rw[List.getElem?_eq_getElem T,ey]
   simp+decide[int,ints,stepsD,Nett.cells,G,T,L,ey,Stp.row,I64];exact λ_=>⟨⟨by omega,by omega⟩,m+1,X,by omega,by omega⟩
  .have G:¬(m:Int)<k:=by omega
   simp+decide[int,ints,stepsD,Nett.cells,G,I64];refine⟨⟨by omega,by omega⟩,k+1,⟨E,λs V=>?_⟩,by omega,by omega⟩
   rw[hsn] at V;rcases List.mem_append.1 V with h | h
   .exact I s h
   .rw[List.mem_singleton] at h;rw[h];exact⟨a1,a2,by omega,by omega⟩
 .have:k=n.steps.length:=by omega
  subst this;rw[List.take_length] at I;simp+decide[int,ints,stepsD,Nett.cells];refine zr mixed (λk:Nat=>{n:=98,next:=1,slots:=[(1,.bp 0 0),(6,.d (int ((k:Int)+1)))],own:=[(0,.box 33 (n.cells.map .d))]})
   (λk=>k<=n.final.length) (λk=>n.final.length-k) 0 (by simp) (by simp+decide[int,ints,stepsD,Nett.cells]) ?_
  intro i hi;by_cases M:i+1<n.final.length
  .have H:(i:Int)+1<n.final.length:=by omega
   have O:i<n.final.length:=by omega
   have F:(i:Int)<n.final.length:=by omega
   obtain⟨u,eu⟩:∃ u,n.final[i+1]=u:=⟨_,rfl⟩;have eu1:n.final[i+1]?=some u:=by rw[List.getElem?_eq_getElem M,eu]
   obtain⟨v,ev⟩:∃ v,n.final[i]=v:=⟨_,rfl⟩;have ev1:n.final[i]?=some v:=by rw[List.getElem?_eq_getElem O,ev]
   have t1:((i:Int)+1).toNat=i+1:=by omega
   have t2:0<=(i:Int)+1:=by omega
   by_cases b1:u<=v
   .simp+decide[int,ints,stepsD,Nett.cells,M,H,O,F,eu,ev,t1,t2,b1,I64]
    omega
   .simp+decide[int,ints,stepsD,Nett.cells,M,H,O,F,eu,ev,t1,t2,b1,I64]
    exact⟨by omega,⟨by omega,by omega⟩,i+1,by omega,by omega,by omega⟩
  .have H:¬(i:Int)+1<n.final.length:=by omega
   simp+decide[int,ints,stepsD,Nett.cells,H];refine zr mixed (λk:Nat=>{n:=98,next:=1,slots:=[(1,.bp 0 0),(7,.d (int k))],own:=[(0,.box 33 (n.cells.map .d))]})
    (λk=>k<=n.final.length/\∀ q∈n.final.take k,0<=q/\q<n.states) (λk=>n.final.length-k) 0 (by simp) (by simp+decide[int,ints,stepsD,Nett.cells]) ?_
   intro j ⟨hj,W⟩;by_cases K:j<n.final.length
   .have Q:(j:Int)<n.final.length:=by omega
    obtain⟨u,eu⟩:∃ u,n.final[j]=u:=⟨_,rfl⟩;have eu1:n.final[j]?=some u:=by rw[List.getElem?_eq_getElem K,eu]
    have hsn:=y9 K;rw[eu] at hsn;have hC:=Kx n u;simp+decide[int,ints,stepsD,Nett.cells,K,Q,eu];refine zq (by rfl) (by rfl) hC (by simp) ?_
    by_cases a1:0<=u/\u<n.states
    .simp+decide[a1,I64]
     refine⟨⟨by omega,by omega⟩,j+1,⟨K,λq S=>?_⟩,by omega,by omega⟩
     rw[hsn] at S;rcases List.mem_append.1 S with h | h
     .exact W q h
     .rw[List.mem_singleton] at h;rw[h];exact a1
    .simp+decide[a1]
   .have:j=n.final.length:=by omega
    subst this;rw[List.take_length] at W;simp+decide[int,ints,stepsD,Nett.cells];exact⟨by omega,I,W⟩
def wo(n:Int):Bool:=decide (1<=n/\n<=1099511627776)
theorem XK(n:Int):zi Tryz.prog 117 [int n] (.bool (wo n)):=by
 refine zp mixed Tryz.func117 rfl c_117 ?_
 by_cases H:1<=n
 .simp+decide[Tryz.f117,int,wo,H]
 .simp+decide[Tryz.f117,int,wo,H]
def qB(inv:List Phon)(w:List Int):Int:=if w.length=0 then 4 else if 24<w.length then 5 else if (w.all λx=>yG inv x)=true then 0 else 19
theorem Ky(inv:List Phon)(w:List Int)(J:w.length<=1048576):zi Tryz.prog 231 [.agg [zH inv],ints w] (int (qB inv w)):=by
 refine zp mixed Tryz.func231 rfl c_231 ?_
 obtain⟨R,L⟩:∃ R,qB inv w=R:=⟨_,rfl⟩
 rw[L]
 unfold qB at L
 by_cases M:w.length=0
 .rw[if_pos M] at L
  subst L;have K:(w.length:Int)=0:=by omega
  simp+decide[Tryz.f231,int,ints,M];done
 rw[if_neg M] at L
 have K:¬(w.length:Int)=0:=by omega
 by_cases O:24<w.length
 .rw[if_pos O] at L
  subst L;have F:(24:Int)<w.length:=by omega
  simp+decide[Tryz.f231,int,ints,M,F];done
 rw[if_neg O] at L
 have F:¬(24:Int)<w.length:=by omega
 simp+decide[Tryz.f231,int,ints,M,F]
 refine zr mixed (λk:Nat=>{n:=25,next:=1,slots:=[(1,.d (ints w)),(2,.bp 0 0),(13,.d (int w.length)),(14,.d (int k))],own:=[(0,.box 24 [.d (zH inv)])]})
  (λk=>k<=w.length/\∀ x∈w.take k,yG inv x=true) (λk=>w.length-k) 0 (by simp) (by simp+decide[int,ints]) ?_
 intro k ⟨Q,T⟩
 by_cases H:k<w.length
 .have E:(k:Int)<w.length:=by omega
  have G:=List.getElem_mem H;obtain⟨x,ex⟩:∃ x,w[k]=x:=⟨_,rfl⟩;have ex1:w[k]?=some x:=by rw[List.getElem?_eq_getElem H,ex]
  have hsn:=y9 H;rw[ex] at hsn G;simp+decide[int,ints,H,E,ex];refine zq (by rfl) (by rfl) (Vp inv x) (by simp) ?_
  cases hs:yG inv x with
  |false=>
   have:¬(w.all λx=>yG inv x)=true:=by
    rw[List.all_eq_true];intro h;rw[h x G] at hs;cases hs
   rw[if_neg this] at L;subst L;simp+decide
  |true=>
   simp+decide
   refine⟨⟨by omega,by omega⟩,k+1,⟨H,λy V=>?_⟩,by omega,by omega⟩
   rw[hsn] at V;rcases List.mem_append.1 V with h | h
   .exact T y h
   .rw[List.mem_singleton] at h;rw[h];exact hs
 .have:k=w.length:=by omega
  subst this;rw[List.take_length] at T;rw[if_pos (List.all_eq_true.2 T)] at L;subst L;simp+decide[int,ints]
structure WordF(inv:List Phon)(w:List Int):Prop where
 pos:1<=w.length
 len:w.length<=24
 segs:∀ x∈w,yG inv x=true
theorem C0{inv:List Phon}{w:List Int}(h:qB inv w=0):WordF inv w:=by
 unfold qB at h
 split at h
 .cases h
 split at h
 .cases h
 split at h
 .rename_i H;exact⟨by omega,by omega,List.all_eq_true.1 H⟩
 .cases h
structure EntC(e:Ent):Prop where
 form:e.form.length<=1048576
 alts:e.alts.length<=1048576/\∀ w∈e.alts,w.length<=1048576
 senses:e.senses.length<=1048576/\∀ s∈e.senses,s.x4.size<=1048576/\s.defn.size<=1048576
 links:e.links.length<=1048576
 refs:e.refs.length<=1048576
structure WordsF(inv:List Phon)(e:Ent):Prop where
 id:wo e.id=true
 form:WordF inv e.form
 cls:1<=e.cls/\e.cls<=20
 alts:∀ w∈e.alts,WordF inv w
theorem Pg(inv:List Phon)(e:Ent)(V:EntC e):xT Tryz.prog 199 [.agg [zH inv],.agg e.row] (λx=>∃ n,x=int n/\(n=0->WordsF inv e)):=by
 have M:=V.form
 have T:=V.alts.1
 refine qy mixed Tryz.func199 rfl c_199 ?_
 simp+decide[Tryz.f199,int,Ent.row]
 refine zc.pure (by rfl) (XK e.id) (by simp) ?_
 cases hid:wo e.id with
 |false=>simp+decide
 |true=>
  simp+decide
  refine zc.pure (by rfl) (Ky inv e.form M) (by simp[int]) ?_
  by_cases X:qB inv e.form=0
  case neg=>simp+decide[int,X]
  by_cases c1:e.cls<1
  .simp+decide[int,X,c1]
  by_cases c2:20<e.cls
  .simp+decide[int,X,c1,c2]
  by_cases c3:(3:Int)<e.alts.length
  .simp+decide[int,X,yc,c1,c2,c3]
  simp+decide[int,X,yc,c1,c2,c3];refine zr mixed (λk:Nat=>{n:=73,next:=2,slots:=[(2,.bp 0 0),(3,.bp 1 0),(6,.d (int k))],own:=[(0,.box 24 [.d (zH inv)]),(1,.box 102 (e.row.map .d))]})
   (λk=>k<=e.alts.length/\∀ w∈e.alts.take k,WordF inv w) (λk=>e.alts.length-k) 0 (by simp) (by simp+decide[int,ints,Ent.row,yc]) ?_
  intro k ⟨Y,Z⟩;by_cases H:k<e.alts.length
  .have G:(k:Int)<e.alts.length:=by omega
   have J:=V.alts.2 e.alts[k] (List.getElem_mem H);obtain⟨w,ew⟩:∃ w,e.alts[k]=w:=⟨_,rfl⟩;have ew1:e.alts[k]?=some w:=by rw[List.getElem?_eq_getElem H,ew]
   have hsn:=y9 H;rw[ew] at hsn J;simp+decide[int,ints,yc,Ent.row,H,G,ew];refine zq (by rfl) (by rfl) (Ky inv w J) (by simp[int]) ?_
   by_cases A:qB inv w=0
   case neg=>simp+decide[int,A]
   simp+decide[int,A,H,G,ew];refine zq (by rfl) (by rfl) (Kn w e.form (by omega) (by omega)) (by simp) ?_
   by_cases hs:w=e.form
   .simp+decide[hs]
   simp+decide[hs];refine zr mixed (λm:Nat=>{n:=73,next:=2,slots:=[(2,.bp 0 0),(3,.bp 1 0),(6,.d (int k)),(8,.d (int m))],own:=[(0,.box 24 [.d (zH inv)]),(1,.box 102 (e.row.map .d))]})
    (λm=>m<=k) (λm=>k-m) 0 (by simp) (by simp+decide[int,ints,Ent.row,yc]) ?_
   intro m B;by_cases O:m<k
   .have F:(m:Int)<k:=by omega
    have E:m<e.alts.length:=by omega
    have K:(m:Int)<e.alts.length:=by omega
    have Q:=V.alts.2 e.alts[m] (List.getElem_mem E);obtain⟨y,ey⟩:∃ y,e.alts[m]=y:=⟨_,rfl⟩;have ey1:e.alts[m]?=some y:=by rw[List.getElem?_eq_getElem E,ey]
    rw[ey] at Q;simp+decide[int,ints,yc,Ent.row,F,E,K,H,G,ew,ey];refine zq (by rfl) (by rfl) (Kn w y (by omega) (by omega)) (by simp) ?_
    by_cases L:w=y
    .simp+decide[L]
    .simp+decide[L,I64]
     exact⟨⟨by omega,by omega⟩,m+1,O,by omega,by omega⟩
   .have F:¬(m:Int)<k:=by omega
    simp+decide[int,ints,yc,Ent.row,F,I64];refine⟨⟨by omega,by omega⟩,k+1,⟨H,λy C=>?_⟩,by omega,by omega⟩
    rw[hsn] at C;rcases List.mem_append.1 C with h | h
    .exact Z y h
    .rw[List.mem_singleton] at h;rw[h];exact C0 A
  .have:k=e.alts.length:=by omega
   subst this;rw[List.take_length] at Z;simp+decide[int,ints,yc,Ent.row];exact⟨hid,C0 X,⟨by omega,by omega⟩,Z⟩
def gu(f:Nat->Bool)(s:ByteArray):Bool:=(List.range s.size).all λk=>f (zE s k)
theorem VE{f:Nat->Bool}{s:ByteArray}{k:Nat}(H:k<s.size)(h:f (zE s k)=false):gu f s=false:=by
 unfold gu;rw[List.all_eq_false];exact⟨k,List.mem_range.2 H,by rw[h];decide⟩
theorem C2{f:Nat->Bool}{s:ByteArray}(h:∀ j,j<s.size->f (zE s j)=true):gu f s=true:=by
 unfold gu;rw[List.all_eq_true];intro j hj;exact h j (List.mem_range.1 hj)
theorem C3{p:Nat->Prop}{k:Nat}(h:∀ j,j<k->p j)(H:p k):∀ j,j<k+1->p j:=by
 intro j hj
 rcases Nat.lt_succ_iff_lt_or_eq.mp hj with G | G
 .exact h j G
 .rw[G];exact H
def Zu(b:Nat):Bool:=decide (¬b<32)&&decide (¬b=127)
def xY(s:ByteArray):Bool:=gu Zu s&&((xw s s.size 0).isSome&&decide (1<=s.size)&&decide (s.size<=32))
theorem C4(s:ByteArray)(hs:s.size<=1048576):zi Tryz.prog 142 [.str s] (.bool (xY s)):=by
 refine zp mixed Tryz.func142 rfl c_142 ?_
 simp+decide[Tryz.f142,int]
 refine zr mixed (λk:Nat=>{n:=38,next:=0,slots:=[(0,.d (.str s)),(3,.d (int k))],own:=[]})
  (λk=>k<=s.size/\∀ j,j<k->Zu (zE s j)=true) (λk=>s.size-k) 0 (by simp) (by simp+decide[int]) ?_
 intro k ⟨E,K⟩
 by_cases G:k<s.size
 .have H:(k:Int)<s.size:=by omega
  have e1:byteAt s (k:Int)=(zE s k:Int):=gi s k
  by_cases b1:(zE s k:Int)<32
  .have:xY s=false:=by unfold xY;rw[VE G (by simp[Zu];omega)];rfl
   rw[this];simp+decide[int,G,H,e1,b1]
  .by_cases b2:(zE s k:Int)=127
   .have:xY s=false:=by unfold xY;rw[VE G (by simp[Zu];omega)];rfl
    rw[this];simp+decide[int,G,H,e1,b1,b2]
   .have J:=C3 K (show Zu (zE s k)=true by simp[Zu];omega)
    simp+decide[int,G,H,e1,b1,b2,I64];exact⟨⟨by omega,by omega⟩,k+1,⟨G,J⟩,by omega,by omega⟩
 .have H:¬(k:Int)<s.size:=by omega
  have F:gu Zu s=true:=C2 λj hj=>K j (by omega)
  simp+decide[int,H];refine zc.pure (by rfl) (VA s hs) (by simp) ?_
  unfold xY;rw[F];cases K:xw s s.size 0 with
  |none=>simp+decide[jF,int]
  |some l=>
   by_cases c1:1<=s.size
   .have c1':(1:Int)<=s.size:=by omega
    simp+decide[jF,int,ints,c1,c1'];try omega
   .have c1':¬(1:Int)<=s.size:=by omega
    simp+decide[jF,int,ints,c1,c1']
def Zv(b:Nat):Bool:=decide (¬b=32)&&decide (¬b=45)
def ug(s:ByteArray):Bool:=gu Zv s&&xY s
theorem Ph(s:ByteArray)(hs:s.size<=1048576):zi Tryz.prog 262 [.str s] (.bool (ug s)):=by
 refine zp mixed Tryz.func262 rfl c_262 ?_
 simp+decide[Tryz.f262,int]
 refine zr mixed (λk:Nat=>{n:=22,next:=0,slots:=[(0,.d (.str s)),(3,.d (int k))],own:=[]})
  (λk=>k<=s.size/\∀ j,j<k->Zv (zE s j)=true) (λk=>s.size-k) 0 (by simp) (by simp+decide[int]) ?_
 intro k ⟨E,K⟩
 by_cases G:k<s.size
 .have H:(k:Int)<s.size:=by omega
  have e1:byteAt s (k:Int)=(zE s k:Int):=gi s k
  by_cases b1:(zE s k:Int)=32
  .have:ug s=false:=by unfold ug;rw[VE G (by simp[Zv];omega)];rfl
   rw[this];simp+decide[int,G,H,e1,b1]
  .by_cases b2:(zE s k:Int)=45
   .have:ug s=false:=by unfold ug;rw[VE G (by simp[Zv];omega)];rfl
    rw[this];simp+decide[int,G,H,e1,b1,b2]
   .have J:=C3 K (show Zv (zE s k)=true by simp[Zv];omega)
    simp+decide[int,G,H,e1,b1,b2,I64];exact⟨⟨by omega,by omega⟩,k+1,⟨G,J⟩,by omega,by omega⟩
 .have H:¬(k:Int)<s.size:=by omega
  have F:gu Zv s=true:=C2 λj hj=>K j (by omega)
  simp+decide[int,H];refine zc.pure (by rfl) (C4 s hs) (by simp) ?_
  unfold ug;rw[F];simp+decide[int]
def qc(p:Int):Bool:=decide (p<32) || decide (p=127)
def XL(s:ByteArray):Int:=if 200<s.size then 5 else match xw s s.size 0 with
 |none=>3
 |some l=>if l.any qc=true then 3 else 0
theorem Pi(s:ByteArray):zi Tryz.prog 132 [.str s] (int (XL s)):=by
 refine zp mixed Tryz.func132 rfl c_132 ?_
 unfold XL
 by_cases K:200<s.size
 .have F:(200:Int)<s.size:=by omega
  simp+decide[Tryz.f132,F,K,int]
 have F:¬(200:Int)<s.size:=by omega
 simp+decide[Tryz.f132,F,K,int]
 refine zc.pure (by rfl) (VA s (by omega)) (by simp) ?_
 cases J:xw s s.size 0 with
 |none=>simp+decide[jF,int]
 |some l=>
  have E:l.length<=s.size:=Kp s _ _ _ J
  simp+decide[jF,ints,int];refine zr mixed (λk:Nat=>{n:=34,next:=0,slots:=[(3,.d (ints l)),(5,.d (int k))],own:=[]})
   (λk=>k<=l.length/\∀ x∈l.take k,qc x=false) (λk=>l.length-k) 0 (by simp) (by simp+decide[int,ints]) ?_
  intro k ⟨L,M⟩;by_cases H:k<l.length
  .have e1:l[k]?=some l[k]:=List.getElem?_eq_getElem H
   have G:qc l[k]=true->l.any qc=true:=λO=>List.any_eq_true.2 ⟨l[k],List.getElem_mem H,O⟩
   by_cases b1:l[k]<32
   .have O:=G (by simp[qc,b1])
    simp+decide[ints,int,e1,H,b1];exact List.any_eq_true.1 O
   .by_cases b2:l[k]=127
    .have O:=G (by simp[qc,b2])
     simp+decide[ints,int,e1,H,b1,b2];exact List.any_eq_true.1 O
    .simp+decide[ints,int,e1,H,b1,b2,I64]
     refine⟨by omega,k+1,⟨H,?_⟩,by omega,by omega⟩
     rw[List.take_succ_eq_append_getElem H];intro x Q;rcases List.mem_append.1 Q with Q | Q
     .exact M x Q
     .simp at Q;rw[Q];simp[qc,b1,b2]
  .have:k=l.length:=by omega
   subst this;rw[List.take_length] at M;have O:l.any qc=false:=by rw[List.any_eq_false];intro x Q;simp[M x Q]
   simp+decide[ints,int];exact M
def Ym(l:List Sens)(s:ByteArray):Bool:=l.any λx=>decide (x.x4=s)
theorem Pj(l:List Sens)(s:ByteArray)(E:l.length<2^40):zi Tryz.prog 263 [zT l,.str s] (.bool (Ym l s)):=by
 refine zp mixed Tryz.func263 rfl c_263 ?_
 simp+decide[Tryz.f263,int,zT]
 refine zr mixed (λk:Nat=>{n:=19,next:=0,slots:=[(0,.d (zT l)),(1,.d (.str s)),(5,.d (int k))],own:=[]})
  (λk=>k<=l.length/\∀ x∈l.take k,¬x.x4=s) (λk=>l.length-k) 0 (by simp) (by simp+decide[int,zT]) ?_
 intro k ⟨K,J⟩
 by_cases H:k<l.length
 .have G:(k:Int)<l.length:=by omega
  have F:=List.getElem_mem H;have hsn:=y9 H;obtain⟨x,ex⟩:∃ x,l[k]=x:=⟨_,rfl⟩;have e1:l[k]?=some x:=by rw[List.getElem?_eq_getElem H,ex]
  rw[ex] at F hsn;by_cases b1:x.x4=s
  .have:Ym l s=true:=List.any_eq_true.2 ⟨x,F,by simpa using b1⟩
   rw[this];simp+decide[int,zT,Sens.row,H,G,e1,ex,b1]
  .simp+decide[int,zT,Sens.row,H,G,e1,ex,b1,I64]
   first | refine⟨λh=>absurd (bytes_inj h) b1,λ_=>⟨⟨by omega,by omega⟩,k+1,⟨H,λy L=>?_⟩,by omega,by omega⟩⟩ | refine⟨⟨by omega,by omega⟩,k+1,⟨H,λy L=>?_⟩,by omega,by omega⟩
   rw[hsn] at L;rcases List.mem_append.1 L with h | h
   .exact J y h
   .rw[List.mem_singleton] at h;rw[h];exact b1
 .have:k=l.length:=by omega
  subst this;rw[List.take_length] at J;have:Ym l s=false:=by unfold Ym;rw[List.any_eq_false];intro x M;simpa using J x M
  rw[this];simp+decide[int,zT]
def Zw(l:List Sens)(s:Sens):Int:=if ug s.x4=false then 7 else if XL s.defn≠0 then XL s.defn else if Ym l s.x4=true then 8 else 0
theorem Kz(l:List Sens)(s:Sens)(H:l.length<2^40)(hs:s.x4.size<=1048576):zi Tryz.prog 232 [zT l,.agg s.row] (int (Zw l s)):=by
 refine zp mixed Tryz.func232 rfl c_232 ?_
 have G:=Pj l s.x4 H
 unfold Zw
 simp+decide[Tryz.f232,int,Sens.row]
 refine zc.pure (by rfl) (Ph s.x4 hs) (by simp) ?_
 cases F:ug s.x4 with
 |false=>simp+decide[int]
 |true=>
  simp+decide[int];refine zc.pure (by rfl) (Pi s.defn) (by simp) ?_
  by_cases E:XL s.defn=0
  case neg=>simp+decide[int,E]
  simp+decide[int,E];generalize Ym l s.x4=b at G ⊢;refine zc.pure (by rfl) G (by simp[int]) ?_
  cases b <;> simp+decide[int]
theorem KA{l:List Sens}{s:Sens}(h:Zw l s=0):xY s.x4=true:=by
 unfold Zw at h
 split at h
 .cases h
 .rename_i hg
  rw[Bool.not_eq_false] at hg;unfold ug at hg;rw[Bool.and_eq_true] at hg;exact hg.2
theorem KB{l:List Sens}{k:Nat}(H:k<l.length)(h:∀ s∈l.take k,xY s.x4=true)(hs:xY l[k].x4=true):∀ s∈l.take (k+1),xY s.x4=true:=by
 rw[List.take_succ_eq_append_getElem H]
 intro s G
 rcases List.mem_append.1 G with G | G
 .exact h s G
 .rw[List.mem_singleton] at G;rw[G];exact hs
theorem KC{l:List Sens}{k:Nat}(H:k<=l.length)(G:¬k<l.length)(h:∀ s∈l.take k,xY s.x4=true):∀ s∈l,xY s.x4=true:=by
 rw[List.take_of_length_le (by omega)] at h;exact h
theorem Pk(e:Ent)(O:EntC e):xT Tryz.prog 200 [.agg e.row] (λx=>∃ n,x=int n/\(n=0->((e.senses≠[]\/e.main≠0)/\e.senses.length<=5)/\∀ s∈e.senses,xY s.x4=true)):=by
 have M:=O.senses.1
 refine qy mixed Tryz.func200 rfl c_200 ?_
 by_cases Q:e.main=0
 .by_cases T:e.main=e.id
  .have K:e.id=0:=by omega
   simp+decide[Tryz.f200,int,Ent.row,Q,K]
  have K:¬0=e.id:=by omega
  by_cases V:(5:Int)<e.senses.length
  .simp+decide[Tryz.f200,int,Ent.row,zT,Q,K,V]
  by_cases X:(e.senses.length:Int)=0
  .simp+decide[Tryz.f200,int,Ent.row,zT,Q,K,V,X]
  simp+decide[Tryz.f200,int,Ent.row,zT,Q,K,V,X];intro L;refine zr mixed (λk:Nat=>{n:=52,next:=1,slots:=[(1,.bp 0 0),(3,.d (int k))],own:=[(0,.box 102 (e.row.map .d))]})
   (λk=>k<=e.senses.length/\∀ s∈e.senses.take k,xY s.x4=true) (λk=>e.senses.length-k) 0 (by simp) (by simp+decide[int,ints,Ent.row,zT,Q]) ?_
  intro k ⟨Y,F⟩;by_cases G:k<e.senses.length
  .have H:(k:Int)<e.senses.length:=by omega
   have E:=O.senses.2 e.senses[k] (List.getElem_mem G);obtain⟨s,es⟩:∃ s,e.senses[k]=s:=⟨_,rfl⟩;have es1:e.senses[k]?=some s:=by rw[List.getElem?_eq_getElem G,es]
   rw[es] at E;have Z:=Kz (e.senses.take k) s (by rw[List.length_take];omega) E.1
   have eS:zT (e.senses.take k) = .sl ((e.senses.map Sens.row).take k):=by simp[zT,List.map_take]
   rw[eS] at Z;have J:∀ a∈e.senses,a.row.length=2:=λa _=>rfl
   simp+decide[int,ints,zT,Ent.row,G,H,es,es1];refine⟨by omega,J,by rfl,by simp[Sens.row],?_⟩
   refine zq (by rfl) (by rfl) Z (by simp[Sens.row,int]) ?_
   by_cases A:Zw (e.senses.take k) s=0
   case neg=>simp+decide[int,A]
   rw[A];simp+decide[int,ints,zT,Ent.row,I64];exact⟨⟨by omega,by omega⟩,k+1,⟨G,KB G F (by rw[es];exact KA A)⟩,by omega,by omega⟩
  .have H:¬(k:Int)<e.senses.length:=by omega
   simp+decide[int,ints,zT,Ent.row,H];exact⟨⟨L,by omega⟩,KC Y G F⟩
 .simp+decide[Tryz.f200,int,Ent.row,zT,Q]
  refine zc.pure (by rfl) (XK e.main) (by simp[int]) ?_
  cases hid:wo e.main with
  |false=>simp+decide[int]
  |true=>
   by_cases T:e.main=e.id
   .simp+decide[int,T]
   by_cases V:(5:Int)<e.senses.length
   .simp+decide[int,zT,T,V]
   by_cases X:(e.senses.length:Int)=0
   .simp+decide[int,zT,Q,T,V,X]
    refine zr mixed (λk:Nat=>{n:=52,next:=1,slots:=[(1,.bp 0 0),(3,.d (int k))],own:=[(0,.box 102 (e.row.map .d))]})
     (λk=>k<=e.senses.length/\∀ s∈e.senses.take k,xY s.x4=true) (λk=>e.senses.length-k) 0 (by simp) (by simp+decide[int,ints,Ent.row,zT,Q]) ?_
    intro k ⟨Y,F⟩;by_cases G:k<e.senses.length
    .have H:(k:Int)<e.senses.length:=by omega
     have E:=O.senses.2 e.senses[k] (List.getElem_mem G);obtain⟨s,es⟩:∃ s,e.senses[k]=s:=⟨_,rfl⟩;have es1:e.senses[k]?=some s:=by rw[List.getElem?_eq_getElem G,es]
     rw[es] at E;have Z:=Kz (e.senses.take k) s (by rw[List.length_take];omega) E.1
     have eS:zT (e.senses.take k) = .sl ((e.senses.map Sens.row).take k):=by simp[zT,List.map_take]
     rw[eS] at Z;have J:∀ a∈e.senses,a.row.length=2:=λa _=>rfl
     simp+decide[int,ints,zT,Ent.row,G,H,es,es1];refine⟨by omega,J,by rfl,by simp[Sens.row],?_⟩
     refine zq (by rfl) (by rfl) Z (by simp[Sens.row,int]) ?_
     by_cases A:Zw (e.senses.take k) s=0
     case neg=>simp+decide[int,A]
     rw[A];simp+decide[int,ints,zT,Ent.row,I64];exact⟨⟨by omega,by omega⟩,k+1,⟨G,KB G F (by rw[es];exact KA A)⟩,by omega,by omega⟩
    .have H:¬(k:Int)<e.senses.length:=by omega
     simp+decide[int,ints,zT,Ent.row,H];exact⟨by omega,KC Y G F⟩
   .have L:¬e.senses=[]:=by intro h;rw[h] at X;simp at X
    simp+decide[int,zT,Q,T,V,X,L];refine zr mixed (λk:Nat=>{n:=52,next:=1,slots:=[(1,.bp 0 0),(3,.d (int k))],own:=[(0,.box 102 (e.row.map .d))]})
     (λk=>k<=e.senses.length/\∀ s∈e.senses.take k,xY s.x4=true) (λk=>e.senses.length-k) 0 (by simp) (by simp+decide[int,ints,Ent.row,zT,Q]) ?_
    intro k ⟨Y,F⟩;by_cases G:k<e.senses.length
    .have H:(k:Int)<e.senses.length:=by omega
     have E:=O.senses.2 e.senses[k] (List.getElem_mem G);obtain⟨s,es⟩:∃ s,e.senses[k]=s:=⟨_,rfl⟩;have es1:e.senses[k]?=some s:=by rw[List.getElem?_eq_getElem G,es]
     rw[es] at E;have Z:=Kz (e.senses.take k) s (by rw[List.length_take];omega) E.1
     have eS:zT (e.senses.take k) = .sl ((e.senses.map Sens.row).take k):=by simp[zT,List.map_take]
     rw[eS] at Z;have J:∀ a∈e.senses,a.row.length=2:=λa _=>rfl
     simp+decide[int,ints,zT,Ent.row,G,H,es,es1];refine⟨by omega,J,by rfl,by simp[Sens.row],?_⟩
     refine zq (by rfl) (by rfl) Z (by simp[Sens.row,int]) ?_
     by_cases A:Zw (e.senses.take k) s=0
     case neg=>simp+decide[int,A]
     rw[A];simp+decide[int,ints,zT,Ent.row,I64];exact⟨⟨by omega,by omega⟩,k+1,⟨G,KB G F (by rw[es];exact KA A)⟩,by omega,by omega⟩
    .have H:¬(k:Int)<e.senses.length:=by omega
     simp+decide[int,ints,zT,Ent.row,H];exact⟨by omega,KC Y G F⟩
end Go.V
namespace Go.V.Doc
open Go Go.Proofs
end Go.V.Doc
namespace Go.V.Doc
open Go Go.Proofs Go.Lib
theorem Pl{s:ByteArray}{pos:Nat}(h:pos<s.size):validD (s.data.toList.drop pos)=match kL s pos with
  |none=>false
  |some r=>validD (s.data.toList.drop (pos+r.2)):=by
 have H:s.size=s.data.toList.length:=by rw[Array.length_toList];rfl
 have G:s.data.toList.drop pos≠[]:=by
  intro e;have:=congrArg List.length e;rw[List.length_drop] at this;simp at this;omega
 have F:decodeL (s.data.toList.drop pos)=decodeN (s.size-pos) (zE s pos) (zE s (pos+1)) (zE s (pos+2)) (zE s (pos+3)):=by
  rw[decodeL_N,List.length_drop,<-H,getD_dropU,getD_dropU,getD_dropU,getD_dropU];rfl
 rw[validD_step _ G,F]
 have E:=Vz h
 cases K:kL s pos with
 |none=>rw[K] at E;simp only at E;rw[E];simp
 |some r=>
  rw[K] at E;simp only at E;obtain⟨J,L,_,_⟩:=E;rw[J,if_neg L,List.drop_drop]
theorem Pm(n b0 b1 b2 b3:Nat)(H:b0<256)(G:b1<256)(F:b2<256)(E:b3<256)(K:¬((decodeN n b0 b1 b2 b3).1=65533/\(decodeN n b0 b1 b2 b3).2=1)):
  (decodeN n b0 b1 b2 b3=(b0,1))\/(128<=(decodeN n b0 b1 b2 b3).1/\128<=b0/\(1<(decodeN n b0 b1 b2 b3).2->128<=b1)/\(2<(decodeN n b0 b1 b2 b3).2->128<=b2)/\(3<(decodeN n b0 b1 b2 b3).2->128<=b3)/\(decodeN n b0 b1 b2 b3).2<=4):=by
 revert K
 unfold decodeN
 repeat' split
 all_goals intro K
 all_goals first | (left;rfl) | (exfalso;exact K ⟨rfl,rfl⟩) | (right;simp only;refine⟨by omega,by omega,λ_=>by omega,λ_=>by omega,λ_=>by omega,by omega⟩)
theorem Pn{s:ByteArray}{pos:Nat}(h:pos<s.size){r:Nat×Nat}(H:kL s pos=some r):
  qc (r.1:Int)=true↔∃ j,pos<=j/\j<pos+r.2/\badByte (zE s j)=true:=by
 have G:=Vz h
 rw[H] at G
 simp only at G
 obtain⟨F,E,K,J⟩:=G
 have L:=Pm (s.size-pos) (zE s pos) (zE s (pos+1)) (zE s (pos+2)) (zE s (pos+3)) (UInt8.toNat_lt _) (UInt8.toNat_lt _) (UInt8.toNat_lt _) (UInt8.toNat_lt _) (by rw[F];exact E)
 rw[F] at L
 rcases L with L | ⟨g1,g2,g3,g4,g5,g6⟩
 .rw[L]
  simp only[qc,badByte,Bool.or_eq_true,decide_eq_true_eq];constructor
  .intro hb;exact⟨pos,by omega,by omega,by omega⟩
  .rintro⟨j,a,b,c⟩
   obtain rfl:j=pos:=by omega
   omega
 .simp only[qc,badByte,Bool.or_eq_true,decide_eq_true_eq]
  constructor
  .intro hb;omega
  .rintro⟨j,a,b,c⟩
   exfalso
   have hj:j=pos\/j=pos+1\/j=pos+2\/j=pos+3:=by omega
   rcases hj with rfl | rfl | rfl | rfl
   .omega
   .have:=g3 (by omega);omega
   .have:=g4 (by omega);omega
   .have:=g5 (by omega);omega
theorem C5(s:ByteArray):∀ (m pos:Nat),s.size<=pos+m->pos<=s.size->validD (s.data.toList.drop pos)=(xw s m pos).isSome /\
  ∀ l,xw s m pos=some l->(l.any qc=true↔∃ j,pos<=j/\j<s.size/\badByte (zE s j)=true)
 |0,pos,F,hp=>by
  have H:s.size=s.data.toList.length:=by rw[Array.length_toList];rfl
  rw[List.drop_eq_nil_of_le (by omega),validD_nil]
  refine⟨rfl,λl E=>?_⟩
  simp only[xw,Option.some.injEq] at E;subst E;simp only[List.any_nil,Bool.false_eq_true,false_iff];rintro⟨j,_,_,_⟩;omega
 |m+1,pos,F,hp=>by
  have H:s.size=s.data.toList.length:=by rw[Array.length_toList];rfl
  by_cases h:pos<s.size
  .rw[Pl h]
   simp only[xw,if_pos h];have K:=Vz h;cases J:kL s pos with
   |none=>exact⟨rfl,λl E=>by cases E⟩
   |some r=>
    rw[J] at K;simp only at K
    obtain⟨i1,i2⟩:=C5 s m (pos+r.2) (by omega) (by omega)
    simp only
    refine⟨by rw[i1];cases xw s m (pos+r.2) <;> rfl,λl E=>?_⟩
    rw[Option.map_eq_some_iff] at E;obtain⟨l',G,rfl⟩:=E;rw[List.any_cons,Bool.or_eq_true,i2 l' G,Pn h J];constructor
    .rintro(⟨j,a,b,c⟩ | ⟨j,a,b,c⟩)
     .exact⟨j,by omega,by omega,c⟩
     .exact⟨j,by omega,b,c⟩
    .rintro⟨j,a,b,c⟩
     rcases Nat.lt_or_ge j (pos+r.2) with hj | hj
     .exact .inl ⟨j,a,hj,c⟩
     .exact .inr ⟨j,hj,b,c⟩
  .rw[List.drop_eq_nil_of_le (by omega),validD_nil]
   simp only[xw,if_neg h];refine⟨rfl,λl E=>?_⟩
   simp only[Option.some.injEq] at E;subst E;simp only[List.any_nil,Bool.false_eq_true,false_iff];rintro⟨j,_,_,_⟩;omega
theorem Po(s:ByteArray):textE s=if 200<s.size then 5 else match xw s s.size 0 with
  |none=>3
  |some l=>if l.any qc=true then 3 else 0:=by
 unfold textE
 split
 .rfl
 .obtain⟨H,G⟩:=C5 s s.size 0 (by omega) (by omega)
  rw[List.drop_zero] at H;have F:DK s=(xw s s.size 0).isSome:=H
  rw[F];cases E:xw s s.size 0 with
  |none=>rfl
  |some l=>
   simp only[Option.isSome_some,if_true];have:=G l E
   have K:Kq s=true↔l.any qc=true:=by
    rw[this];unfold Kq;rw[List.any_eq_true];constructor
    .rintro⟨j,hj,K⟩;exact⟨j,by omega,by simpa using hj,K⟩
    .rintro⟨j,_,hj,K⟩;exact⟨j,by simpa using hj,K⟩
   by_cases h:l.any qc=true
   .rw[if_pos h,if_pos (K.2 h)]
   .rw[if_neg h,if_neg (λJ=>h (K.1 J))]
end Go.V.Doc
namespace Go.V
open Go Go.Proofs
end Go.V
namespace Go.V.Doc
open Go Go.Proofs Go.Sort Go.RowKit
def qU:Nt->Nt->Bool:=ltOf Zs
theorem Pp:∀ args w,(callFunc 113 args).run Tryz.prog w = .ok (.enter 113 args) w:=enters_of Tryz.func113 (by kernel_rfl) rfl
theorem C6:∀ w,(isAgg 72).run Tryz.prog w = .ok true w:=λw=>by kernel_rfl
theorem C7:∀ w,(Go.sizeOf 72).run Tryz.prog w = .ok 7 w:=λw=>by kernel_rfl
def KD:Nat->Nat->Array Nt->Array Nt
 |0,_,d=>d
 |k+1,i,d=>KD k (i+1) (insInner qU 0 i d)
theorem C9(b:Nat):∀ (k i:Nat) (d:Array Nt),k=b-i->insOuter qU 0 b i d=KD k i d
 |0,i,d,h=>by unfold insOuter;rw[if_neg (by omega)];rfl
 |k+1,i,d,h=>by unfold insOuter;rw[if_pos (by omega),C9 b k (i+1) _ (by omega)];rfl
def qK(l:List Nt):List Nt:=(KD (l.length-1) 1 l.toArray).toList
theorem Ca(l:List Nt):(Sort.insertionSort qU l.toArray 0 l.length)=(qK l).toArray:=by
 unfold Sort.insertionSort qK
 rw[C9 l.length (l.length-1) (0+1) _ (by omega)]
theorem Pq(T:Nat)(l:List Nt)(F:l≠[])(K:l.length<4611686018427387904)(hs:(qK l).length=l.length):
  zJ Tryz.prog 172 [.ar 0,.d (int 0),.d (int l.length),.fn 113 []] [(0,.arr T 7 (l.map Nt.row))] 1 (.d (.tup [])) 1 [(0,.arr T 7 ((qK l).map Nt.row))] []:=by
 refine Gf gj c_172 F hs ?_
 intro w E β vs G H g cap J L M
 simp only[zl,Sm,R,int] at G
 obtain⟨_,_,rfl,rfl,_,_,rfl,rfl,_,_,rfl,⟨_,rfl,rfl⟩,rfl⟩:=G
 have:=AnyQ.insertionSortCmpFunc Tryz.zh4 7 C6 C7 Nt.enc gj.len gj.one Zs 113 #[] g 0 cap 0 l.length l.toArray w Pp
  (OW H L) M J (Nat.zero_le _) (by simp) (by simpa using K)
 change Calls Tryz.prog 172 _ _ _ at this
 rw[show ltOf Zs=qU from rfl,Ca] at this
 simpa using this
end Go.V.Doc
namespace Go.V.Doc
open Go Go.Proofs
theorem Cb(s:ByteArray):zi Tryz.prog 132 [.str s] (int (textE s)):=by
 refine zp mixed Tryz.func132 rfl c_132 ?_
 rw[Po]
 by_cases K:200<s.size
 .have F:(200:Int)<s.size:=by omega
  simp+decide[Tryz.f132,F,K,int]
 have F:¬(200:Int)<s.size:=by omega
 simp+decide[Tryz.f132,F,K,int]
 refine zc.pure (by rfl) (VA s (by omega)) (by simp) ?_
 cases J:xw s s.size 0 with
 |none=>simp+decide[jF]
 |some l=>
  have E:l.length<=s.size:=Kp s _ _ _ J
  simp+decide[jF,ints];refine zr mixed (λk:Nat=>{n:=34,next:=0,slots:=[(3,.d (ints l)),(5,.d (int k))],own:=[]})
   (λk=>k<=l.length/\∀ x∈l.take k,qc x=false) (λk=>l.length-k) 0 (by simp) (by simp+decide[int,ints]) ?_
  intro k ⟨L,M⟩;by_cases H:k<l.length
  .have e1:l[k]?=some l[k]:=List.getElem?_eq_getElem H
   have G:qc l[k]=true->l.any qc=true:=λO=>List.any_eq_true.2 ⟨l[k],List.getElem_mem H,O⟩
   by_cases b1:l[k]<32
   .have O:=G (by simp[qc,b1])
    simp+decide[ints,int,H,b1];exact List.any_eq_true.1 O
   .by_cases b2:l[k]=127
    .have O:=G (by simp[qc,b2])
     simp+decide[ints,int,H,b2];exact List.any_eq_true.1 O
    .simp+decide[ints,int,H,b1,b2,I64]
     refine⟨by omega,k+1,⟨H,?_⟩,by omega,by omega⟩
     rw[List.take_succ_eq_append_getElem H];intro x Q;rcases List.mem_append.1 Q with Q | Q
     .exact M x Q
     .simp at Q;rw[Q];simp[qc,b1,b2]
  .have:k=l.length:=by omega
   subst this;rw[List.take_length] at M;have O:l.any qc=false:=by rw[List.any_eq_false];intro x Q;simp[M x Q]
   simp+decide[ints,int];exact M
def yA(f t:Int):Bool:=decide (0<=f)&&decide (f<t)&&decide (t<=86400000)
def zB(d:Dc)(i:Int):Tir:=d.tiers[i.toNat]?.getD default
def wY(d:Dc)(n p:Nt):Bool:=
 if XJ d.tiers n.tier=true then yA n.fr n.tO&&(if (zB d n.tier).kind=0 then decide (0<=n.fr)&&decide (n.tO<=d.len) else decide (p.fr<=n.fr)&&decide (n.tO<=p.tO))
 else decide (n.fr=0)&&decide (n.tO=0)
def XM(d:Dc)(n:Nt):Int:=
 if textE n.text=0 then
  (if (if (zB d n.tier).kind=0 then decide (n.par=0) else (zy d.notes n.par).2&&decide ((zy d.notes n.par).1.tier=(zB d n.tier).par))=true then
   (if wY d n (zy d.notes n.par).1=true then (if n.rank<0\/(n.rank≠0/\(zB d n.tier).kind≠3) then 1 else 0) else 12)
  else 13)
 else textE n.text
end Go.V.Doc
namespace Go.V.Doc
open Go Go.Proofs Go.Sort Go.RowKit
theorem Cc{a b:Nt}:qU a b=true↔a.par<b.par\/(a.par=b.par/\(a.fr<b.fr\/(a.fr=b.fr/\a.rank<b.rank))):=by
 unfold qU ltOf Zs
 rw[decide_eq_true_eq]
 simp only[kN,xq]
 repeat' split
 all_goals omega
theorem VF{a b:Nt}:qU a b=false↔¬(a.par<b.par\/(a.par=b.par/\(a.fr<b.fr\/(a.fr=b.fr/\a.rank<b.rank)))):=by
 rw[<-Cc,Bool.not_eq_true]
theorem Cd:SWO qU where
 irrefl:=λx=>by rw[VF];omega
 trans:=λx y z H h2=>by rw[Cc] at *;omega
 ntrans:=λx y z H h2=>by rw[VF] at *;omega
def xf(l:List Nt):List Nt:=(pdq qU l.toArray 0 l.length (Lib.bitLen l.length) true true).toList
theorem KE(l:List Nt):PermIn 0 l.length l.toArray (pdq qU l.toArray 0 l.length (Lib.bitLen l.length) true true)/\SortedIn qU 0 l.length (pdq qU l.toArray 0 l.length (Lib.bitLen l.length) true true):=
 pdq_sorts qU Cd l.toArray 0 l.length (Lib.bitLen l.length) true true (Nat.zero_le _) (by simp) (Or.inl rfl)
theorem VG(l:List Nt):(xf l).length=l.length:=by
 have:=(KE l).1.1
 unfold xf
 rw[Array.length_toList,this];simp
theorem Ce(l:List Nt):(xf l).Perm l:=by
 obtain⟨H,_,G⟩:=(KE l).1
 unfold xf
 generalize pdq qU l.toArray 0 l.length (Lib.bitLen l.length) true true=A at H G
 have e1:A.extract 0 l.length=A:=by rw[show l.length=A.size by rw[H];simp];simp
 have e2:l.toArray.extract 0 l.length=l.toArray:=by rw[show l.length=l.toArray.size by simp];simp
 rw[e1,e2] at G
 simpa using G
theorem Pr(l:List Nt):(xf l).Pairwise λa b=>qU b a=false:=by
 have hs:=(KE l).2
 have G:=VG l
 unfold xf at G ⊢
 generalize pdq qU l.toArray 0 l.length (Lib.bitLen l.length) true true=A at hs G
 rw[List.pairwise_iff_getElem]
 intro i j hi hj H
 rw[Array.length_toList] at G
 have:=hs i j (Nat.zero_le _) H (by rw[Array.length_toList] at hj;omega)
 rw[Array.length_toList] at hi hj
 simpa[getElem!_pos,hi,hj] using this
abbrev KF:List (Nat×Obj'):=[(0,.arr 72 7 [])]
theorem Pt:zJ Tryz.prog 172 [.ar 0,.d (int 0),.d (int 0),.fn 113 []] KF 1 (.tup []) 1 KF []:=by
 refine xH mixed Tryz.func172 rfl c_172 (by simp[Sym.los,Sym.lo]) ?_
 simp+decide[Tryz.f172,int]
 refine⟨by unfold I64;omega,zr mixed (λ_:Unit=>{n:=53,next:=1,slots:=[(2,.d (int 0)),(8,.d (int 1))],own:=KF,base:=1})
  (λ_=>True) (λ_=>0) () trivial (by simp+decide[int]) ?_⟩
 intro _ _
 simp+decide[int]
theorem Pu:zi Tryz.prog 181 [.int .u64 0] (int 0):=by
 refine zp mixed Tryz.func181 rfl c_181 ?_
 simp+decide[Tryz.f181,int,byteAt,jc,show IntKind.u8.wrap 0=0 from rfl]
 rw[show IntKind.i64.wrap 0=0 from rfl];unfold I64;omega
theorem Pv:zi Tryz.prog 122 [.int .u64 0] (int 0):=by
 refine zp mixed Tryz.func122 rfl c_122 ?_
 simp+decide[Tryz.f122,int]
 refine zc.pure (by rfl) (Pu) (by simp) ?_
 simp+decide[int]
theorem zJ.unit{P:Program}{f:Nat}{args:List Sym}{own:List (Nat×Obj')}{n nx:Nat}{own':List (Nat×Obj')}{mv:List Nat}(h:zJ P f args own n (.tup []) nx own' mv):zJ P f args own n (.d (.tup [])) nx own' mv:=by
 refine⟨h.1,λX w0 β w vs hβ H hs=>(h.2 X w0 β w vs hβ H hs).mono λe w' G=>?_⟩
 obtain⟨β',v,F,E,K,J⟩:=G
 refine⟨β',v,F,E,by simp[Sym.lo],?_⟩
 simp only[Sm,zl] at J
 obtain⟨vs',rfl,rfl⟩:=J
 simp[Sm,R,zK]
end Go.V.Doc
namespace Go.V.Doc
open Go Go.Proofs
def zX(l:List Nt)(t:Int):List Nt:=l.filter λn=>decide (n.tier=t)
def yB(s:List Nt)(i:Nat):Bool:=decide (i=0) || !decide ((s[i-1]?.getD default).par=(s[i]?.getD default).par)
def lastB(s:List Nt)(i:Nat):Bool:=decide (i+1=s.length) || !decide ((s[i+1]?.getD default).par=(s[i]?.getD default).par)
def Zx(notes:List Nt)(kind:Int)(s:List Nt):Nat->Nat->Int->Int
 |0,_,why=>why
 |m+1,i,why=>if i<s.length then
   (let n:=s[i]?.getD default
    let pv:=s[i-1]?.getD default
    let p:=(zy notes n.par).1
    if kind=0\/kind=1\/kind=2 then
     (if yB s i=false/\n.fr<pv.tO then 15
     else Zx notes kind s m (i+1) (if kind=1/\((yB s i=true/\n.fr≠p.fr)\/(yB s i=false/\pv.tO≠n.fr)\/(lastB s i=true/\n.tO≠p.tO)) then 16 else why))
    else if kind=3 then Zx notes kind s m (i+1) (if (yB s i=true/\n.rank≠0)\/(yB s i=false/\n.rank≠IntKind.i64.wrap (pv.rank+1)) then 10 else why)
    else if kind=4 then Zx notes kind s m (i+1) (if yB s i=false then 8 else why)
    else Zx notes kind s m (i+1) why)
  else why
def XN(d:Dc)(t:Int):Int:=Zx d.notes (zB d t).kind (xf (zX d.notes t)) (zX d.notes t).length 0 0
def qV(d:Dc):Nat->Nat->Int
 |0,_=>0
 |m+1,i=>if i<d.notes.length then
   (let n:=d.notes[i]?.getD default
    if n.id<1\/1099511627776<n.id then 2 else if i≠0/\n.id<=(d.notes[i-1]?.getD default).id then 10
    else if n.tier<0\/(d.tiers.length:Int)<=n.tier then 2 else if XM d n=0 then qV d m (i+1) else XM d n)
  else 0
def VH(d:Dc):Nat->Nat->Int
 |0,_=>0
 |m+1,i=>if i<d.tiers.length then (if XN d i=0 then VH d m (i+1) else XN d i) else 0
def KG(d:Dc):Int:=
 if jH d.tiers≠0 then jH d.tiers else if d.len<0\/86400000<d.len then 12 else if 300<d.notes.length then 11
 else if qV d d.notes.length 0≠0 then qV d d.notes.length 0 else VH d d.tiers.length 0
theorem qd(k:Int):zi Tryz.prog 135 [int k] (.bool (zQ k)):=by
 refine zp mixed Tryz.func135 rfl c_135 ?_
 by_cases H:k=0
 .subst H;simp+decide[Tryz.f135,int,zQ]
 by_cases G:k=1
 .subst G;simp+decide[Tryz.f135,int,zQ]
 by_cases F:k=2
 .subst F;simp+decide[Tryz.f135,int,zQ]
 simp+decide[Tryz.f135,int,zQ,H,G,F]
theorem xx(f t:Int):zi Tryz.prog 193 [.agg [int f,int t]] (.bool (yA f t)):=by
 refine zp mixed Tryz.func193 rfl c_193 ?_
 by_cases H:0<=f
 case neg=>simp+decide[Tryz.f193,int,yA,H]
 by_cases G:f<t
 case neg=>simp+decide[Tryz.f193,int,yA,H,G]
 simp+decide[Tryz.f193,int,yA,H,G]
def gw(d:Dc)(n:Nt):Int:=
 if (if (zB d n.tier).kind=0 then decide (n.par=0) else (zy d.notes n.par).2&&decide ((zy d.notes n.par).1.tier=(zB d n.tier).par))=true then
  (if wY d n (zy d.notes n.par).1=true then (if n.rank<0\/(n.rank≠0/\(zB d n.tier).kind≠3) then 1 else 0) else 12)
 else 13
theorem KH(d:Dc)(n:Nt):XM d n=if textE n.text=0 then gw d n else textE n.text:=rfl
theorem Pw(d:Dc)(n:Nt)(E:d.tiers.length<2^62)(K:d.notes.length<2^62)(J:0<=n.tier)(L:n.tier<d.tiers.length):
  zi Tryz.prog 133 [zA d,.agg n.row] (int (gw d n)):=by
 refine zp mixed Tryz.func133 rfl c_133 ?_
 obtain⟨ni,nt,np,nf,nto,nr,nx⟩:=n
 simp only at J L
 obtain⟨k,rfl⟩:∃ k:Nat,nt=k:=⟨nt.toNat,by omega⟩
 have M:k<d.tiers.length:=by omega
 obtain⟨t,ek⟩:∃ t,d.tiers[k]=t:=⟨_,rfl⟩
 have e1:d.tiers[k]?=some t:=by rw[List.getElem?_eq_getElem M,ek]
 have et:zB d (k:Int)=t:=by simp[zB,e1]
 obtain⟨tn,kd,tr,tp⟩:=t
 have F:XJ d.tiers (k:Int)=zQ kd:=by
  unfold XJ;rw[decide_eq_true (by omega),decide_eq_true (by omega),Int.toNat_natCast,e1];rfl
 simp+decide[Tryz.f133,zA,Dc.row,Nt.row,Tir.row,int,ints,zw,zF,M,e1,ek]
 refine zc.pure (by rfl) (wn d np K) (by simp+decide[zA,Dc.row,int,ints,zF,zw]) ?_
 have H:gw d ⟨ni,k,np,nf,nto,nr,nx⟩=if (if kd=0 then decide (np=0) else (zy d.notes np).2&&decide ((zy d.notes np).1.tier=tp))=true then
  (if wY d ⟨ni,k,np,nf,nto,nr,nx⟩ (zy d.notes np).1=true then (if nr<0\/(nr≠0/\kd≠3) then 1 else 0) else 12) else 13:=by
  simp only[gw,et]
 rw[H]
 have G:∀ q:Nt,wY d ⟨ni,k,np,nf,nto,nr,nx⟩ q=if zQ kd=true then yA nf nto&&(if kd=0 then decide (0<=nf)&&decide (nto<=d.len) else decide (q.fr<=nf)&&decide (nto<=q.tO))
   else decide (nf=0)&&decide (nto=0):=by
  intro q;simp only[wY,et,F]
 simp only[G]
 clear H G
 obtain⟨⟨p,ok⟩,eg⟩:∃ g,zy d.notes np=g:=⟨_,rfl⟩
 rw[eg]
 obtain⟨pi,pt,pp,pf,pto,prr,px⟩:=p
 simp only[getD']
 by_cases k0:kd=0
 .subst k0
  have ak:zQ 0=true:=rfl
  by_cases p0:np=0
  case neg=>
   repeat first | refine zc.pure (by rfl) (qd _) (by simp[int]) ?_ | refine zc.pure (by rfl) (xx _ _) (by simp[int]) ?_ | simp+decide[int,Nt.row,Tir.row,ak,p0]
  subst p0;by_cases O:yA nf nto=true
  case neg=>
   repeat first | refine zc.pure (by rfl) (qd _) (by simp[int]) ?_ | refine zc.pure (by rfl) (xx _ _) (by simp[int]) ?_ | simp+decide[int,Nt.row,Tir.row,ak,O]
  have Q:0<=nf:=by simp only[yA,Bool.and_eq_true,decide_eq_true_eq] at O;omega
  by_cases T:nto<=d.len
  case neg=>
   repeat first | refine zc.pure (by rfl) (qd _) (by simp[int]) ?_ | refine zc.pure (by rfl) (xx _ _) (by simp[int]) ?_ | simp+decide[int,Nt.row,Tir.row,ak,O,Q,T]
  by_cases r1:nr<0
  .skip
   repeat first | refine zc.pure (by rfl) (qd _) (by simp[int]) ?_ | refine zc.pure (by rfl) (xx _ _) (by simp[int]) ?_ | simp+decide[int,Nt.row,Tir.row,ak,O,Q,T,r1]
  by_cases r2:nr=0
  .skip
   repeat first | refine zc.pure (by rfl) (qd _) (by simp[int]) ?_ | refine zc.pure (by rfl) (xx _ _) (by simp[int]) ?_ | simp+decide[int,Nt.row,Tir.row,ak,O,Q,T,r1,r2]
  repeat first | refine zc.pure (by rfl) (qd _) (by simp[int]) ?_ | refine zc.pure (by rfl) (xx _ _) (by simp[int]) ?_ | simp+decide[int,Nt.row,Tir.row,ak,O,Q,T,r1,r2]
 cases ok with
 |false=>
  repeat first | refine zc.pure (by rfl) (qd _) (by simp[int]) ?_ | refine zc.pure (by rfl) (xx _ _) (by simp[int]) ?_ | simp+decide[int,Nt.row,Tir.row,k0]
 |true=>
  by_cases pq:pt=tp
  case neg=>
   repeat first | refine zc.pure (by rfl) (qd _) (by simp[int]) ?_ | refine zc.pure (by rfl) (xx _ _) (by simp[int]) ?_ | simp+decide[int,Nt.row,Tir.row,k0,pq]
  by_cases V:zQ kd=true
  .skip
   have k3:¬kd=3:=by rintro rfl;exact absurd V (by decide)
   by_cases O:yA nf nto=true
   case neg=>
    repeat first | refine zc.pure (by rfl) (qd _) (by simp[int]) ?_ | refine zc.pure (by rfl) (xx _ _) (by simp[int]) ?_ | simp+decide[int,Nt.row,Tir.row,k0,pq,V,O]
   by_cases b1:pf<=nf
   case neg=>
    repeat first | refine zc.pure (by rfl) (qd _) (by simp[int]) ?_ | refine zc.pure (by rfl) (xx _ _) (by simp[int]) ?_ | simp+decide[int,Nt.row,Tir.row,k0,pq,V,O,b1]
   by_cases b2:nto<=pto
   case neg=>
    repeat first | refine zc.pure (by rfl) (qd _) (by simp[int]) ?_ | refine zc.pure (by rfl) (xx _ _) (by simp[int]) ?_ | simp+decide[int,Nt.row,Tir.row,k0,pq,V,O,b1,b2]
   by_cases r1:nr<0
   .skip
    repeat first | refine zc.pure (by rfl) (qd _) (by simp[int]) ?_ | refine zc.pure (by rfl) (xx _ _) (by simp[int]) ?_ | simp+decide[int,Nt.row,Tir.row,k0,pq,V,O,b1,b2,k3,r1]
   by_cases r2:nr=0
   .skip
    repeat first | refine zc.pure (by rfl) (qd _) (by simp[int]) ?_ | refine zc.pure (by rfl) (xx _ _) (by simp[int]) ?_ | simp+decide[int,Nt.row,Tir.row,k0,pq,V,O,b1,b2,k3,r1,r2]
   repeat first | refine zc.pure (by rfl) (qd _) (by simp[int]) ?_ | refine zc.pure (by rfl) (xx _ _) (by simp[int]) ?_ | simp+decide[int,Nt.row,Tir.row,k0,pq,V,O,b1,b2,k3,r1,r2]
  by_cases z1:nf=0
  case neg=>
   repeat first | refine zc.pure (by rfl) (qd _) (by simp[int]) ?_ | refine zc.pure (by rfl) (xx _ _) (by simp[int]) ?_ | simp+decide[int,Nt.row,Tir.row,k0,pq,V,z1]
  by_cases z2:nto=0
  case neg=>
   repeat first | refine zc.pure (by rfl) (qd _) (by simp[int]) ?_ | refine zc.pure (by rfl) (xx _ _) (by simp[int]) ?_ | simp+decide[int,Nt.row,Tir.row,k0,pq,V,z1,z2]
  by_cases r1:nr<0
  .skip
   repeat first | refine zc.pure (by rfl) (qd _) (by simp[int]) ?_ | refine zc.pure (by rfl) (xx _ _) (by simp[int]) ?_ | simp+decide[int,Nt.row,Tir.row,k0,pq,V,z1,z2,r1]
  by_cases r2:nr=0
  .skip
   repeat first | refine zc.pure (by rfl) (qd _) (by simp[int]) ?_ | refine zc.pure (by rfl) (xx _ _) (by simp[int]) ?_ | simp+decide[int,Nt.row,Tir.row,k0,pq,V,z1,z2,r1,r2]
  by_cases r3:kd=3
  .skip
   subst r3;repeat first | refine zc.pure (by rfl) (qd _) (by simp[int]) ?_ | refine zc.pure (by rfl) (xx _ _) (by simp[int]) ?_ | simp+decide[int,Nt.row,Tir.row,k0,pq,V,z1,z2,r1,r2]
  repeat first | refine zc.pure (by rfl) (qd _) (by simp[int]) ?_ | refine zc.pure (by rfl) (xx _ _) (by simp[int]) ?_ | simp+decide[int,Nt.row,Tir.row,k0,pq,V,z1,z2,r1,r2,r3]
def j6(d:Dc)(i:Nat):Int:=
 let n:=d.notes[i]?.getD default
 if n.id<1\/1099511627776<n.id then 2 else if i≠0/\n.id<=(d.notes[i-1]?.getD default).id then 10
 else if n.tier<0\/(d.tiers.length:Int)<=n.tier then 2 else XM d n
theorem KI(d:Dc):∀ (m i:Nat),qV d (m+1) i=if i<d.notes.length then (if j6 d i=0 then qV d m (i+1) else j6 d i) else 0:=by
 intro m i
 simp only[qV,j6]
 split
 .split
  .simp
  .split
   .simp
   .split
    .simp
    .rfl
 .rfl
theorem Px(d:Dc)(i:Nat)(hi:i<d.notes.length)(L:d.tiers.length<2^62)(M:d.notes.length<2^62)(O:∀ n∈d.notes,n.text.size<=9223372036854775807):
  zi Tryz.prog 80 [zA d,int i] (int (j6 d i)):=by
 refine zp mixed Tryz.func80 rfl c_80 ?_
 have H:(i:Int)<d.notes.length:=by omega
 obtain⟨n,en'⟩:∃ n,d.notes[i]=n:=⟨_,rfl⟩
 have en:d.notes[i]?=some n:=by rw[List.getElem?_eq_getElem hi,en']
 have K:=O n (by rw[<-en'];exact List.getElem_mem hi)
 have E:=λa b=>Pw d n L M a b
 have Q:j6 d i=if n.id<1\/1099511627776<n.id then 2 else if i≠0/\n.id<=(d.notes[i-1]?.getD default).id then 10
  else if n.tier<0\/(d.tiers.length:Int)<=n.tier then 2 else if textE n.text=0 then gw d n else textE n.text:=by
  simp only[j6,en,Option.getD_some,KH]
 rw[Q]
 clear Q
 have B:True:=trivial
 by_cases a1:n.id<1
 .simp+decide[Tryz.f80,zA,Dc.row,zw,Nt.row,int,ints,hi,H,en,en',a1]
 by_cases a2:1099511627776<n.id
 .simp+decide[Tryz.f80,zA,Dc.row,zw,Nt.row,int,ints,hi,H,en,en',a1,a2]
 have fin:∀ (J:¬(i≠0/\n.id<=(d.notes[i-1]?.getD default).id)),True:=λ_=>trivial
 cases i with
 |zero=>
  by_cases b1:n.tier<0
  .simp+decide[Tryz.f80,zA,Dc.row,zw,Nt.row,int,ints,hi,H,en,en',a1,a2,b1]
  by_cases b2:(d.tiers.length:Int)<=n.tier
  .simp+decide[Tryz.f80,zA,Dc.row,zw,Nt.row,int,ints,zF,hi,H,en,en',a1,a2,b1,b2]
  simp+decide[Tryz.f80,zA,Dc.row,zw,Nt.row,int,ints,zF,hi,H,en,en',a1,a2,b1,b2];refine zc.pure (by rfl) (Cb n.text) (by simp[int]) ?_
  by_cases T:textE n.text=0
  case neg=>simp+decide[int,T]
  simp+decide[int,T];refine zc.pure (by rfl) (E (by omega) (by omega)) (by simp+decide[zA,Dc.row,int,ints,zw,zF,Nt.row]) ?_
  simp+decide[int]
 |succ j=>
  have F:j<d.notes.length:=by omega
  have G:(j:Int)<d.notes.length:=by omega
  obtain⟨pv,ep'⟩:∃ pv,d.notes[j]=pv:=⟨_,rfl⟩;have ep:d.notes[j]?=some pv:=by rw[List.getElem?_eq_getElem F,ep']
  have j0:(0:Int)<(j:Int)+1:=by omega
  have j1:(j:Int)+1-1=j:=by omega
  have jz:¬(j:Int)+1=0:=by omega
  have V:(j:Int)+1<d.notes.length:=by omega
  have tn1:((j:Int)+1).toNat=j+1:=by omega
  have g0:(0:Int)<=(j:Int)+1:=by omega
  have g1 : -9223372036854775808<=(j:Int):=by omega
  have g2:(j:Int)<=9223372036854775807:=by omega
  by_cases c1:n.id<=pv.id
  .simp+decide[Tryz.f80,zA,Dc.row,zw,Nt.row,int,ints,hi,H,en,en',a1,a2,F,G,ep,ep',j0,j1,V,tn1,c1,I64,g0,g1,g2]
  by_cases b1:n.tier<0
  .simp+decide[Tryz.f80,zA,Dc.row,zw,Nt.row,int,ints,hi,H,en,en',a1,a2,F,G,ep,ep',j0,j1,V,tn1,c1,I64,g0,g1,g2,b1]
  by_cases b2:(d.tiers.length:Int)<=n.tier
  .simp+decide[Tryz.f80,zA,Dc.row,zw,Nt.row,int,ints,zF,hi,H,en,en',a1,a2,F,G,ep,ep',j0,j1,V,tn1,c1,I64,g0,g1,g2,b1,b2]
  simp+decide[Tryz.f80,zA,Dc.row,zw,Nt.row,int,ints,zF,hi,H,en,en',a1,a2,F,G,ep,ep',j0,j1,V,tn1,c1,I64,g0,g1,g2,b1,b2];refine zc.pure (by rfl) (Cb n.text) (by simp[int]) ?_
  by_cases T:textE n.text=0
  case neg=>simp+decide[int,T]
  simp+decide[int,T];refine zc.pure (by rfl) (E (by omega) (by omega)) (by simp+decide[zA,Dc.row,int,ints,zw,zF,Nt.row]) ?_
  simp+decide[int]
structure Sp where
 (fr:Int)
 (tO : Int)
 deriving Inhabited,DecidableEq
def Sp.row(s:Sp):List D:=[int s.fr,int s.tO]
def x8(l:List Sp):D:=.sl (l.map Sp.row)
abbrev Sp.rt(s:Sp):Bool:=yA s.fr s.tO
def wq(x s:Sp):List Sp:=(if yA x.fr (min x.tO s.fr)=true then [⟨x.fr,min x.tO s.fr⟩] else [])++(if yA (max x.fr s.tO) x.tO=true then [⟨max x.fr s.tO,x.tO⟩] else [])
def xZ(l:List Sp)(s:Sp):List Sp:=l.flatMap λx=>wq x s
def qk(a b:List Sp):List Sp:=b.foldl (λout y=>if y.rt=true then xZ out y else out) a
def jI(l:List Sp)(s:Sp):Bool:=s.rt&&(qk [s] l).isEmpty
theorem Py(x s:Sp):(wq x s).length<=2:=by
 unfold wq;split <;> split <;> simp
theorem Pz(l:List Sp)(s:Sp):(xZ l s).length<=2*l.length:=by
 unfold xZ
 induction l with
 |nil=>simp
 |cons x r ih=>
  have:=Py x s
  rw[List.flatMap_cons,List.length_append,List.length_cons];omega
theorem PD{l:List Sp}{s:Sp}{k:Nat}(h:k<l.length):xZ (l.take (k+1)) s=xZ (l.take k) s++wq l[k] s:=by
 unfold xZ
 rw[take_snoc' h,List.flatMap_append];simp
def ql(l:List Sp):Int:=(l.map λx=>x.tO-x.fr).sum
theorem PE(a b:List Sp):ql (a++b)=ql a+ql b:=by simp[ql]
theorem PG{x s:Sp}(H:x.rt=true)(hs:s.rt=true):ql (wq x s)<=x.tO-x.fr:=by
 simp only[Sp.rt,yA,Bool.and_eq_true,decide_eq_true_eq] at H hs
 unfold wq
 split <;> split <;> simp[ql] <;> omega
theorem PH(x s:Sp):∀ y∈wq x s,y.rt=true:=by
 intro y H
 unfold wq at H
 rcases List.mem_append.1 H with h | h
 .split at h
  .rename_i e;simp at h;subst h;exact e
  .cases h
 .split at h
  .rename_i e;simp at h;subst h;exact e
  .cases h
theorem Cf{l:List Sp}{s:Sp}:∀ y∈xZ l s,y.rt=true:=by
 intro y H
 unfold xZ at H
 obtain⟨x,_,h⟩:=List.mem_flatMap.1 H
 exact PH x s y h
theorem Cg{s:Sp}(hs:s.rt=true):∀ {l:List Sp},(∀ x∈l,x.rt=true)->ql (xZ l s)<=ql l
 | [],_=>by simp[xZ,ql]
 |x::r,h=>by
  have H:=PG (h x (by simp)) hs
  have G:=Cg hs (l:=r) (λy F=>h y (by simp[F]))
  have e1:xZ (x::r) s=wq x s++xZ r s:=by unfold xZ;rw[List.flatMap_cons]
  have e2:ql (x::r)=(x.tO-x.fr)+ql r:=by simp[ql]
  rw[e1,PE,e2];omega
theorem Ch:∀ {l:List Sp},(∀ x∈l,x.rt=true)->(l.length:Int)<=ql l
 | [],_=>by simp[ql]
 |x::r,h=>by
  have H:=h x (by simp)
  simp only[Sp.rt,yA,Bool.and_eq_true,decide_eq_true_eq] at H;have G:=Ch (l:=r) (λy F=>h y (by simp[F]))
  have e2:ql (x::r)=(x.tO-x.fr)+ql r:=by simp[ql]
  rw[e2,List.length_cons];omega
theorem VI:∀ (b a:List Sp),(∀ x∈a,x.rt=true)->(∀ x∈qk a b,x.rt=true)/\ql (qk a b)<=ql a
 | [],a,h=>⟨h,Int.le_refl _⟩
 |y::r,a,h=>by
  have e:qk a (y::r)=qk (if y.rt=true then xZ a y else a) r:=rfl
  rw[e];by_cases H:y.rt=true
  .rw[if_pos H]
   have G:=VI r (xZ a y) Cf;have F:=Cg H h;exact⟨G.1,by omega⟩
  .rw[if_neg H];exact VI r a h
theorem PI{s:Sp}(hs:s.rt=true)(b:List Sp):(qk [s] b).length<=86400000:=by
 obtain⟨H,G⟩:=VI b [s] (by simpa using hs)
 have F:=Ch H
 simp only[Sp.rt,yA,Bool.and_eq_true,decide_eq_true_eq] at hs
 have E:ql [s]=s.tO-s.fr:=by simp[ql]
 omega
theorem PK{a b:List Sp}{k:Nat}(h:k<b.length):qk a (b.take (k+1))=if b[k].rt=true then xZ (qk a (b.take k)) b[k] else qk a (b.take k):=by
 unfold qk
 rw[take_snoc' h,List.foldl_append];rfl
theorem PL(s:Sp):zi Tryz.prog 259 [x8 [],.agg s.row] (x8 [s]):=by
 refine u4 mixed Tryz.func259 rfl c_259 [2] ?_
 simp+decide[Tryz.f259,x8,Sp.row,int]
 refine zr mixed (λk:Nat=>{n:=69,next:=4,slots:=[(0,.d (.sl [])),(3,.bp 0 0),(5,.ar 2),(6,.ar 3),(7,.d (.int .i64 k))],own:=[(0,.box 70 [.d (int s.fr),.d (int s.tO)]),(2,.arr 70 2 []),(3,.arr 70 2 [])]})
  (λk=>k=0) (λk=>0) 0 (by simp) (by simp+decide[int]) ?_
 rintro k rfl
 simp+decide[int,maxLen]
theorem PN(l:List Sp)(s:Sp)(E:l.length<2^40):zi Tryz.prog 228 [x8 l,.agg s.row] (x8 (xZ l s)):=by
 refine u4 mixed Tryz.func228 rfl c_228 [2] ?_
 simp+decide[Tryz.f228,Sp.row,int]
 refine zr mixed (λk:Nat=>{n:=57,next:=3,slots:=[(0,.d (x8 l)),(3,.bp 0 0),(5,.ar 2),(6,.d (.int .i64 k))],own:=[(0,.box 70 [.d (int s.fr),.d (int s.tO)]),(2,.arr 70 2 ((xZ (l.take k) s).map Sp.row))],moved:=[2]})
  (λk=>k<=l.length) (λk=>l.length-k) 0 (by simp) (by simp+decide[int,xZ]) ?_
 intro k K
 by_cases H:k<l.length
 .have G:(k:Int)<l.length:=by omega
  obtain⟨x,ex'⟩:∃ x,l[k]=x:=⟨_,rfl⟩;have ex:l[k]?=some x:=by rw[List.getElem?_eq_getElem H,ex']
  have hsn:=PD (s:=s) H;rw[ex'] at hsn;have J:=Pz (l.take k) s;have F:(l.take k).length=k:=by rw[List.length_take];omega
  rw[F] at J;generalize xZ (l.take k) s=W at J hsn ⊢;simp+decide[int,x8,G];have m1:(if s.fr<x.tO then s.fr else x.tO)=min x.tO s.fr:=by rw[Int.min_def];split <;> split <;> omega
  have m2:(if x.fr<s.tO then s.tO else x.fr)=max x.fr s.tO:=by rw[Int.max_def];split <;> split <;> omega
  refine uR mixed 16 [] (by rfl) (by rfl) (by rfl) (by rfl) ?_
  simp+decide[int,Sp.row,H,G,ex'];refine⟨by rfl,?_⟩
  refine uR mixed 16 [] (by rfl) (by rfl) (by rfl) (by rfl) ?_
  simp+decide[int,Sp.row,H,G,ex'];refine⟨by rfl,?_⟩
  rw[m1,m2];have L:wq x s=(if yA x.fr (min x.tO s.fr)=true then [⟨x.fr,min x.tO s.fr⟩] else [])++(if yA (max x.fr s.tO) x.tO=true then [⟨max x.fr s.tO,x.tO⟩] else []):=rfl
  generalize min x.tO s.fr=mn at L ⊢;generalize max x.fr s.tO=mx at L ⊢;refine zc.pure (by rfl) (xx _ _) (by simp) ?_
  by_cases r1:yA x.fr mn=true
  .rw[if_pos r1] at L
   simp+decide[r1];refine⟨by omega,by unfold maxLen;omega,?_⟩
   refine zc.pure (by rfl) (xx _ _) (by simp) ?_
   by_cases r2:yA mx x.tO=true
   .rw[if_pos r2] at L
    rw[L] at hsn;simp+decide[r2,I64];refine⟨by omega,by unfold maxLen;omega,by omega,k+1,H,by omega,by omega,?_⟩
    rw[hsn];simp[Sp.row,int]
   .rw[if_neg r2] at L
    rw[L] at hsn;simp+decide[r2,I64];refine⟨by omega,k+1,H,by omega,by omega,?_⟩
    rw[hsn];simp[Sp.row,int]
  .rw[if_neg r1] at L
   simp+decide[r1];refine zc.pure (by rfl) (xx _ _) (by simp) ?_
   by_cases r2:yA mx x.tO=true
   .rw[if_pos r2] at L
    rw[L] at hsn;simp+decide[r2,I64];refine⟨by omega,by unfold maxLen;omega,by omega,k+1,H,by omega,by omega,?_⟩
    rw[hsn];simp[Sp.row,int]
   .rw[if_neg r2] at L
    rw[L] at hsn;simp+decide[r2,I64];refine⟨by omega,k+1,H,by omega,by omega,?_⟩
    rw[hsn];simp
 .have:k=l.length:=by omega
  subst this;rw[List.take_length];simp+decide[int,x8]
theorem PO(s:Sp)(hs:s.rt=true):zi Tryz.prog 227 [x8 [s]] (x8 [s]):=by
 refine zp mixed Tryz.func227 rfl c_227 ?_
 simp+decide[Tryz.f227]
 refine zr mixed (λk:Nat=>match k with
   |0=>{n:=24,next:=2,slots:=[(0,.d (x8 [s])),(3,.ar 1),(4,.d (int 0))],own:=[(1,.arr 70 2 [])]}
   |_+1=>{n:=24,next:=2,slots:=[(0,.d (x8 [s])),(3,.d (x8 [s])),(4,.d (int 1))],own:=[]})
  (λk=>k<=1) (λk=>1-k) 0 (by simp) (by simp+decide[int]) ?_
 intro k H
 cases k with
 |zero=>
  simp+decide[int,x8,Sp.row];refine zc.pure (by rfl) (xx _ _) (by simp) ?_
  simp+decide[hs];refine Ft (by rfl) (PL s) (by simp) ?_
  simp+decide[I64];exact⟨1,by simp,by simp,by simp+decide[int,Sp.row,x8]⟩
 |succ j=>
  simp+decide[int,x8,Sp.row]
theorem PP(s:Sp)(hs:s.rt=true)(b:List Sp)(E:b.length<2^62):zi Tryz.prog 194 [x8 [s],x8 b] (x8 (qk [s] b)):=by
 refine zp mixed Tryz.func194 rfl c_194 ?_
 simp+decide[Tryz.f194]
 refine zc.pure (by rfl) (PO s hs) (by simp) ?_
 simp+decide
 refine zr mixed (λk:Nat=>{n:=27,next:=1,slots:=[(1,.d (x8 b)),(5,.d (x8 (qk [s] (b.take k)))),(6,.d (int k))],own:=[]})
  (λk=>k<=b.length) (λk=>b.length-k) 0 (by simp) (by simp+decide[int,qk]) ?_
 intro k K
 by_cases H:k<b.length
 .have G:(k:Int)<b.length:=by omega
  obtain⟨y,ey'⟩:∃ y,b[k]=y:=⟨_,rfl⟩;have ey:b[k]?=some y:=by rw[List.getElem?_eq_getElem H,ey']
  have hsn:=PK (a:=[s]) H;rw[ey'] at hsn;have F:=PI hs (b.take k);generalize qk [s] (b.take k)=W at F hsn ⊢;simp+decide[int,x8,Sp.row,H,G,ey'];refine zc.pure (by rfl) (xx _ _) (by simp) ?_
  by_cases r1:yA y.fr y.tO=true
  .rw[if_pos r1] at hsn
   simp+decide[int,Sp.row,r1,H,G,ey'];refine zc.pure (by rfl) (PN W y (by omega)) (by simp[x8]) ?_
   simp+decide[x8,I64];exact⟨by omega,k+1,H,by omega,by rw[hsn],by omega⟩
  .rw[if_neg r1] at hsn
   simp+decide[r1,I64];exact⟨by omega,k+1,H,by omega,by rw[hsn],by omega⟩
 .have:k=b.length:=by omega
  subst this;rw[List.take_length];simp+decide[int,x8]
theorem PQ(l:List Sp)(s:Sp)(H:l.length<2^62):zi Tryz.prog 137 [x8 l,.agg s.row] (.bool (jI l s)):=by
 refine zp mixed Tryz.func137 rfl c_137 ?_
 simp+decide[Tryz.f137,int,Sp.row]
 refine zc.pure (by rfl) (xx _ _) (by simp) ?_
 by_cases r1:yA s.fr s.tO=true
 case neg=>simp+decide[r1,jI]
 simp+decide[r1]
 refine Ft (by rfl) (PP s r1 l H) (by simp) ?_
 simp+decide[x8]
 cases G:qk [s] l with
 |nil=>simp+decide[jI,r1,G]
 |cons y r=>
  have:¬(r.length:Int)+1=0:=by omega
  simp+decide[jI,r1,G]
def yk(l:List Nt)(t p:Int):List Nt:=l.filter λn=>decide (n.tier=t)&&decide (n.par=p)
theorem Ci(l:List Nt)(t p:Int):(yk l t p).length<=l.length:=List.length_filter_le _ _
theorem PR(d:Dc)(t p:Int)(K:d.notes.length<2^40):zi Tryz.prog 134 [zA d,int t,int p] (zw (yk d.notes t p)):=by
 refine u4 mixed Tryz.func134 rfl c_134 [2] ?_
 simp+decide[Tryz.f134,zA,Dc.row,int,ints,zF]
 refine zr mixed (λk:Nat=>{n:=44,next:=3,slots:=[(1,.d (int t)),(2,.d (int p)),(3,.bp 0 0),(7,.ar 2),(8,.d (.int .i64 k))],own:=[(0,.box 53 (yy d)),(2,.arr 72 7 ((yk (d.notes.take k) t p).map Nt.row))],moved:=[2]})
  (λk=>k<=d.notes.length) (λk=>d.notes.length-k) 0 (by simp) (by simp+decide[int,ints,zF,zw,yk]) ?_
 intro k J
 by_cases H:k<d.notes.length
 .have G:(k:Int)<d.notes.length:=by omega
  obtain⟨n,en'⟩:∃ n,d.notes[k]=n:=⟨_,rfl⟩;have en:d.notes[k]?=some n:=by rw[List.getElem?_eq_getElem H,en']
  have hsn:yk (d.notes.take (k+1)) t p=yk (d.notes.take k) t p++(if n.tier=t/\n.par=p then [n] else []):=by
   rw[take_snoc' H];unfold yk;rw[List.filter_append,en'];by_cases L:n.tier=t <;> by_cases M:n.par=p <;> simp[L,M]
  have F:=Ci (d.notes.take k) t p;have E:(d.notes.take k).length=k:=by rw[List.length_take];omega
  rw[E] at F;generalize yk (d.notes.take k) t p=W at hsn F ⊢;by_cases L:n.tier=t
  .by_cases M:n.par=p
   .rw[if_pos ⟨L,M⟩] at hsn
    simp+decide[zw,Nt.row,int,H,G,en',I64,L,M];refine⟨by omega,by unfold maxLen;omega,by omega,k+1,H,by omega,by omega,?_⟩
    rw[hsn];simp[Nt.row,int,L,M]
   .rw[if_neg (λh=>M h.2),List.append_nil] at hsn
    simp+decide[zw,Nt.row,int,H,G,en',I64,L,M];exact⟨by omega,k+1,H,by omega,by omega,by rw[hsn]⟩
  .rw[if_neg (λh=>L h.1),List.append_nil] at hsn
   simp+decide[zw,Nt.row,int,H,G,en',I64,L];exact⟨by omega,k+1,H,by omega,by omega,by rw[hsn]⟩
 .have:k=d.notes.length:=by omega
  subst this;rw[List.take_length];simp+decide[zw,int]
def spansOf(l:List Nt):List Sp:=l.map λn=>⟨n.fr,n.tO⟩
theorem PS(l:List Nt)(E:l.length<2^40):zi Tryz.prog 138 [zw l] (x8 (spansOf l)):=by
 refine u4 mixed Tryz.func138 rfl c_138 [1] ?_
 simp+decide[Tryz.f138]
 refine zr mixed (λk:Nat=>{n:=21,next:=2,slots:=[(0,.d (zw l)),(3,.ar 1),(4,.d (.int .i64 k))],own:=[(1,.arr 70 2 ((spansOf (l.take k)).map Sp.row))],moved:=[1]})
  (λk=>k<=l.length) (λk=>l.length-k) 0 (by simp) (by simp+decide[zw,spansOf]) ?_
 intro k K
 by_cases H:k<l.length
 .have G:(k:Int)<l.length:=by omega
  obtain⟨n,en'⟩:∃ n,l[k]=n:=⟨_,rfl⟩;have en:l[k]?=some n:=by rw[List.getElem?_eq_getElem H,en']
  have hsn:spansOf (l.take (k+1))=spansOf (l.take k)++[⟨n.fr,n.tO⟩]:=by
   rw[take_snoc' H];unfold spansOf;rw[List.map_append,en'];rfl
  have F:(spansOf (l.take k)).length=k:=by unfold spansOf;rw[List.length_map,List.length_take];omega
  generalize spansOf (l.take k)=W at hsn F ⊢;simp+decide[zw,Nt.row,int,H,G,en',I64];refine⟨by omega,by unfold maxLen;omega,by omega,k+1,H,by omega,by omega,?_⟩
  rw[hsn];simp[Sp.row,int]
 .have:k=l.length:=by omega
  subst this;rw[List.take_length];simp+decide[zw,x8]
def uh(l:List Nt)(i k:Nat):Bool:=decide ((l[i]?.getD default).fr<(l[k]?.getD default).tO)&&decide ((l[k]?.getD default).fr<(l[i]?.getD default).tO)
def qm(l:List Nt):Bool:=(List.range l.length).any λi=>(List.range i).any λk=>uh l i k
theorem KJ{l:List Nt}:qm l=false↔∀ i,i<l.length->∀ k,k<i->uh l i k=false:=by
 unfold qm
 rw[List.any_eq_false]
 refine⟨λh i hi k H=>?_,λh i hi=>?_⟩
 .have:=h i (List.mem_range.2 hi)
  rw[Bool.not_eq_true,List.any_eq_false] at this;simpa using this k (List.mem_range.2 H)
 .rw[Bool.not_eq_true,List.any_eq_false]
  intro k H;simpa using h i (List.mem_range.1 hi) k (List.mem_range.1 H)
theorem PT{l:List Nt}{i k:Nat}(hi:i<l.length)(H:k<i)(h:uh l i k=true):qm l=true:=by
 cases e:qm l with
 |true=>rfl
 |false=>rw[KJ] at e;rw[e i hi k H] at h;cases h
theorem KL(l:List Nt)(L:l.length<2^40):zi Tryz.prog 136 [zw l] (.bool (qm l)):=by
 refine zp mixed Tryz.func136 rfl c_136 ?_
 simp+decide[Tryz.f136]
 refine zr mixed (λi:Nat=>{n:=44,next:=0,slots:=[(0,.d (zw l)),(3,.d (.int .i64 i))],own:=[]})
  (λi=>i<=l.length/\∀ j,j<i->∀ k,k<j->uh l j k=false) (λi=>l.length-i) 0 (by simp) (by simp+decide[zw]) ?_
 rintro i ⟨hi,M⟩
 by_cases E:i<l.length
 .have H:(i:Int)<l.length:=by omega
  obtain⟨n,en'⟩:∃ n,l[i]=n:=⟨_,rfl⟩;have en:l[i]?=some n:=by rw[List.getElem?_eq_getElem E,en']
  simp+decide[zw,H];refine zr mixed (λk:Nat=>{n:=44,next:=0,slots:=[(0,.d (zw l)),(3,.d (.int .i64 i)),(4,.d (.int .i64 k))],own:=[]})
   (λk=>k<=i/\∀ j,j<k->uh l i j=false) (λk=>i-k) 0 (by simp) (by simp+decide[zw]) ?_
  rintro k ⟨O,Q⟩
  by_cases J:k<i
  .have G:(k:Int)<i:=by omega
   have K:k<l.length:=by omega
   have F:(k:Int)<l.length:=by omega
   obtain⟨m,em'⟩:∃ m,l[k]=m:=⟨_,rfl⟩;have em:l[k]?=some m:=by rw[List.getElem?_eq_getElem K,em']
   have T:uh l i k=(decide (n.fr<m.tO)&&decide (m.fr<n.tO)):=by simp only[uh,en,em,Option.getD_some]
   by_cases c1:n.fr<m.tO
   .by_cases c2:m.fr<n.tO
    .have:=PT E J (by rw[T];simp[c1,c2])
     simp+decide[zw,Nt.row,int,E,H,G,K,F,en',em',c1,c2,this]
    .simp+decide[zw,Nt.row,int,E,H,G,K,F,en',em',c1,c2,I64]
     refine⟨by omega,k+1,⟨by omega,λj hj=>?_⟩,by omega,by omega⟩
     rcases Nat.lt_or_ge j k with h | h
     .exact Q j h
     .have:j=k:=by omega
      subst this;rw[T];simp[c2]
   .simp+decide[zw,Nt.row,int,E,H,G,K,F,en',em',c1,I64]
    refine⟨by omega,k+1,⟨by omega,λj hj=>?_⟩,by omega,by omega⟩
    rcases Nat.lt_or_ge j k with h | h
    .exact Q j h
    .have:j=k:=by omega
     subst this;rw[T];simp[c1]
  .have:k=i:=by omega
   subst this;simp+decide[zw,I64];refine⟨by omega,k+1,⟨by omega,λj hj=>?_⟩,by omega,by omega⟩
   rcases Nat.lt_or_ge j k with h | h
   .exact M j h
   .have:j=k:=by omega
    subst this;exact Q
 .have:i=l.length:=by omega
  subst this;simp+decide[zw,KJ.2 M]
def jJ(l:List Nt):Bool:=(List.range l.length).all λn=>l.any λm=>decide (m.rank=n)
theorem VJ{l:List Nt}:jJ l=true↔∀ n:Nat,n<l.length->(l.any λm=>decide (m.rank=n))=true:=by
 unfold jJ
 rw[List.all_eq_true]
 exact⟨λh n H=>h n (List.mem_range.2 H),λh n H=>h n (List.mem_range.1 H)⟩
theorem PU(l:List Nt)(K:l.length<2^40):zi Tryz.prog 139 [zw l] (.bool (jJ l)):=by
 refine zp mixed Tryz.func139 rfl c_139 ?_
 simp+decide[Tryz.f139]
 refine zr mixed (λi:Nat=>{n:=30,next:=0,slots:=[(0,.d (zw l)),(3,.d (.int .i64 i))],own:=[]})
  (λi=>i<=l.length/\∀ n:Nat,n<i->(l.any λm=>decide (m.rank=n))=true) (λi=>l.length-i) 0 (by simp) (by simp+decide[zw]) ?_
 rintro i ⟨hi,J⟩
 by_cases E:i<l.length
 .have F:(i:Int)<l.length:=by omega
  simp+decide[zw,F];refine zr mixed (λk:Nat=>{n:=30,next:=0,slots:=[(0,.d (zw l)),(3,.d (.int .i64 i)),(4,.d (.bool ((l.take k).any λm=>decide (m.rank=i)))),(5,.d (.int .i64 k))],own:=[]})
   (λk=>k<=l.length) (λk=>l.length-k) 0 (by simp) (by simp+decide[zw]) ?_
  intro k L;by_cases H:k<l.length
  .have G:(k:Int)<l.length:=by omega
   obtain⟨m,em'⟩:∃ m,l[k]=m:=⟨_,rfl⟩;have em:l[k]?=some m:=by rw[List.getElem?_eq_getElem H,em']
   have hsn:((l.take (k+1)).any λm=>decide (m.rank=i))=(((l.take k).any λm=>decide (m.rank=i)) || decide (m.rank=i)):=by rw[Kt H,em']
   cases M:(l.take k).any λm=>decide (m.rank=i)
   .rw[M,Bool.false_or] at hsn
    by_cases c1:m.rank=i
    .rw[decide_eq_true c1] at hsn
     simp+decide[zw,Nt.row,int,H,G,em',c1,I64];exact⟨by omega,k+1,H,by omega,by simpa using hsn,by omega⟩
    .rw[decide_eq_false c1] at hsn
     simp+decide[zw,Nt.row,int,H,G,em',c1,I64];exact⟨by omega,k+1,H,by omega,by simpa using hsn,by omega⟩
   .rw[M,Bool.true_or] at hsn
    simp+decide[zw,G,I64];exact⟨by omega,k+1,H,by omega,by simpa using hsn,by omega⟩
  .have:k=l.length:=by omega
   subst this;rw[List.take_length];cases M:l.any λm=>decide (m.rank=i)
   .have:jJ l=false:=by
     cases e:jJ l with
     |false=>rfl
     |true=>rw[VJ] at e;rw[e i E] at M;cases M
    simp+decide[zw,this]
   .simp+decide[zw,I64]
    refine⟨by omega,i+1,⟨by omega,λj hj=>?_⟩,by omega,by omega⟩
    rcases Nat.lt_or_ge j i with h | h
    .simpa using J j h
    .have:j=i:=by omega
     subst this;simpa using M
 .have:i=l.length:=by omega
  subst this;simp+decide[zw,VJ.2 J]
def XO(d:Dc)(t kind:Int)(n:Nt)(out:Int):Int:=
 if kind=1 then (if jI (spansOf (yk d.notes t n.par)) ⟨(zy d.notes n.par).1.fr,(zy d.notes n.par).1.tO⟩=true then out else 16)
 else if kind=3 then (if jJ (yk d.notes t n.par)=true then out else 10)
 else if kind=4 then (if 1<(yk d.notes t n.par).length then 8 else out) else out
def jK(d:Dc)(t kind:Int):List Nt->Int->Int
 | [],out=>out
 |n::r,out=>if n.tier=t then (if zQ kind=true/\qm (yk d.notes t n.par)=true then 15 else jK d t kind r (XO d t kind n out)) else jK d t kind r out
def jL(d:Dc)(t:Int):Int:=jK d t (zB d t).kind d.notes 0
theorem PV(d:Dc)(t:Nat)(O:t<d.tiers.length)(Q:d.notes.length<2^40):zi Tryz.prog 81 [zA d,int t] (int (jL d t)):=by
 refine zp mixed Tryz.func81 rfl c_81 ?_
 have J:(t:Int)<d.tiers.length:=by omega
 obtain⟨tt,et'⟩:∃ tt,d.tiers[t]=tt:=⟨_,rfl⟩
 have et:d.tiers[t]?=some tt:=by rw[List.getElem?_eq_getElem O,et']
 have L:(zB d (t:Int))=tt:=by simp[zB,et]
 unfold jL
 rw[L]
 obtain⟨tn,kd,tr,tp⟩:=tt
 simp+decide[Tryz.f81,zA,Dc.row,int,ints,zF,Tir.row,O,J,et']
 refine zr mixed (λx:Nat×Int=>{n:=77,next:=1,slots:=[(1,.d (int t)),(2,.bp 0 0),(5,.d (int kd)),(6,.d (int x.2)),(7,.d (.int .i64 x.1))],own:=[(0,.box 53 (yy d))]})
  (λx=>x.1<=d.notes.length/\jK d t kd d.notes 0=jK d t kd (d.notes.drop x.1) x.2) (λx=>d.notes.length-x.1) (0,0) (by simp) (by simp+decide[int,ints,zF,zw]) ?_
 rintro⟨k,out⟩ ⟨T,V⟩
 simp only at T V
 by_cases G:k<d.notes.length
 case neg=>
  have:k=d.notes.length:=by omega
  subst this;rw[List.drop_length] at V;simp+decide[int,zw,V,jK]
 have F:(k:Int)<d.notes.length:=by omega
 obtain⟨n,en'⟩:∃ n,d.notes[k]=n:=⟨_,rfl⟩
 have en:d.notes[k]?=some n:=by rw[List.getElem?_eq_getElem G,en']
 rw[List.drop_eq_getElem_cons G,en'] at V
 simp only[jK] at V
 by_cases X:n.tier=t
 case neg=>
  rw[if_neg X] at V;simp+decide[int,zw,Nt.row,G,F,en',X,I64];exact⟨by omega,k+1,out,⟨G,V⟩,by omega,by omega⟩
 rw[if_pos X] at V
 simp+decide[int,zw,Nt.row,G,F,en',X]
 have M:=Ci d.notes t n.par
 refine zc.pure (by rfl) (PR d t n.par Q) (by simp+decide[zw]) ?_
 generalize Y:yk d.notes t n.par=S at V M ⊢
 simp+decide
 refine zc.pure (by rfl) (qd kd) (by simp) ?_
 have fin:∀ out',XO d t kd n out=out'->(zQ kd=true->qm S=false)->jK d t kd d.notes 0=jK d t kd (d.notes.drop (k+1)) out':=by
  intro out' e h;rw[if_neg (by rintro⟨a,b⟩;rw[h a] at b;cases b),e] at V
  exact V
 have E:zQ kd=true->qm S=true->jK d t kd d.notes 0=15:=by
  intro a b;rw[if_pos ⟨a,b⟩] at V;exact V
 have H:XO d t kd n out=if kd=1 then (if jI (spansOf S) ⟨(zy d.notes n.par).1.fr,(zy d.notes n.par).1.tO⟩=true then out else 16)
  else if kd=3 then (if jJ S=true then out else 10) else if kd=4 then (if 1<S.length then 8 else out) else out:=by
  simp only[XO,Y]
 clear V
 generalize Z:jK d t kd d.notes 0=TT at fin E ⊢
 by_cases k0:kd=0
 .subst k0
  have A:zQ 0=true:=rfl
  simp+decide[A];refine zc.pure (by rfl) (KL S (by omega)) (by simp) ?_
  cases B:qm S with
  |true=>simp+decide[E A B]
  |false=>
   have HO:zQ 0=true->qm S=false:=λ_=>B
   simp+decide[int,zw];refine zc.pure (by rfl) (wn d n.par (by omega)) (by simp+decide) ?_
   obtain⟨⟨p,ok⟩,eg⟩:∃ g,zy d.notes n.par=g:=⟨_,rfl⟩;rw[eg] at H ⊢;obtain⟨pi,pt,pp,pf,pto,prr,px⟩:=p;simp only[getD',Nt.row] at H ⊢;simp at H
   simp+decide[int,I64];exact⟨by omega,k+1,out,⟨G,fin _ H HO⟩,by omega,by omega⟩
 by_cases k1:kd=1
 .subst k1
  have A:zQ 1=true:=rfl
  simp+decide[A];refine zc.pure (by rfl) (KL S (by omega)) (by simp) ?_
  cases B:qm S with
  |true=>simp+decide[E A B]
  |false=>
   have HO:zQ 1=true->qm S=false:=λ_=>B
   simp+decide[int,zw];refine zc.pure (by rfl) (wn d n.par (by omega)) (by simp+decide) ?_
   obtain⟨⟨p,ok⟩,eg⟩:∃ g,zy d.notes n.par=g:=⟨_,rfl⟩;rw[eg] at H ⊢;obtain⟨pi,pt,pp,pf,pto,prr,px⟩:=p;simp only[getD',Nt.row] at H ⊢;simp+decide[int];refine zq (by rfl) (by rfl) (PS S (by omega)) (by simp) ?_
   simp+decide
   refine zq (by rfl) (by rfl) (PQ (spansOf S) ⟨pf,pto⟩ (by unfold spansOf;rw[List.length_map];omega)) (by simp) ?_
   by_cases C:jI (spansOf S) ⟨pf,pto⟩=true
   .simp[C] at H
    simp+decide[I64,C];exact⟨by omega,k+1,out,⟨G,fin _ H HO⟩,by omega,by omega⟩
   .simp[C] at H
    simp+decide[I64,C];exact⟨by omega,k+1,16,⟨G,fin _ H HO⟩,by omega,by omega⟩
 by_cases k2:kd=2
 .subst k2
  have A:zQ 2=true:=rfl
  simp+decide[A];refine zc.pure (by rfl) (KL S (by omega)) (by simp) ?_
  cases B:qm S with
  |true=>simp+decide[E A B]
  |false=>
   have HO:zQ 2=true->qm S=false:=λ_=>B
   simp+decide[int,zw];refine zc.pure (by rfl) (wn d n.par (by omega)) (by simp+decide) ?_
   obtain⟨⟨p,ok⟩,eg⟩:∃ g,zy d.notes n.par=g:=⟨_,rfl⟩;rw[eg] at H ⊢;obtain⟨pi,pt,pp,pf,pto,prr,px⟩:=p;simp only[getD',Nt.row] at H ⊢;simp at H
   simp+decide[int,I64];exact⟨by omega,k+1,out,⟨G,fin _ H HO⟩,by omega,by omega⟩
 by_cases k3:kd=3
 .subst k3
  have A:zQ 3=false:=rfl
  have HO:zQ 3=true->qm S=false:=λh=>by rw[A] at h;cases h
  simp+decide[int,A,zw];refine zc.pure (by rfl) (wn d n.par (by omega)) (by simp+decide) ?_
  obtain⟨⟨p,ok⟩,eg⟩:∃ g,zy d.notes n.par=g:=⟨_,rfl⟩;rw[eg] at H ⊢;obtain⟨pi,pt,pp,pf,pto,prr,px⟩:=p;simp only[getD',Nt.row] at H ⊢;simp+decide[int];refine zc.pure (by rfl) (PU S (by omega)) (by simp) ?_
  by_cases C:jJ S=true
  .simp[C] at H
   simp+decide[I64,C];exact⟨by omega,k+1,out,⟨G,fin _ H HO⟩,by omega,by omega⟩
  .simp[C] at H
   simp+decide[I64,C];exact⟨by omega,k+1,10,⟨G,fin _ H HO⟩,by omega,by omega⟩
 by_cases k4:kd=4
 .subst k4
  have A:zQ 4=false:=rfl
  have HO:zQ 4=true->qm S=false:=λh=>by rw[A] at h;cases h
  simp+decide[int,A,zw];refine zc.pure (by rfl) (wn d n.par (by omega)) (by simp+decide) ?_
  obtain⟨⟨p,ok⟩,eg⟩:∃ g,zy d.notes n.par=g:=⟨_,rfl⟩;rw[eg] at H ⊢;obtain⟨pi,pt,pp,pf,pto,prr,px⟩:=p;simp only[getD',Nt.row] at H ⊢;by_cases C:1<S.length
  .have K:(1:Int)<S.length:=by omega
   simp[C] at H;simp+decide[int,I64,K];exact⟨by omega,k+1,8,⟨G,fin _ H HO⟩,by omega,by omega⟩
  .have K:¬(1:Int)<S.length:=by omega
   simp[C] at H;simp+decide[int,I64,K];exact⟨by omega,k+1,out,⟨G,fin _ H HO⟩,by omega,by omega⟩
 have A:zQ kd=false:=by simp[zQ,k0,k1,k2]
 have HO:zQ kd=true->qm S=false:=λh=>by rw[A] at h;cases h
 simp+decide[int,A,zw]
 refine zc.pure (by rfl) (wn d n.par (by omega)) (by simp+decide) ?_
 obtain⟨⟨p,ok⟩,eg⟩:∃ g,zy d.notes n.par=g:=⟨_,rfl⟩
 rw[eg] at H ⊢
 obtain⟨pi,pt,pp,pf,pto,prr,px⟩:=p
 simp only[getD',Nt.row] at H ⊢
 simp[k1,k3,k4] at H
 simp+decide[int,I64,k1,k3,k4]
 exact⟨by omega,k+1,out,⟨G,fin _ H HO⟩,by omega,by omega⟩
def jM(d:Dc):Nat->Nat->Int
 |0,_=>0
 |m+1,i=>if i<d.tiers.length then (if jL d i=0 then jM d m (i+1) else jL d i) else 0
def wt(d:Dc):Int:=
 if jH d.tiers≠0 then jH d.tiers else if d.len<0\/86400000<d.len then 12 else if 300<d.notes.length then 11
 else if qV d d.notes.length 0≠0 then qV d d.notes.length 0 else jM d d.tiers.length 0
theorem KN(d:Dc)(K:d.tiers.length<2^40)(J:d.notes.length<2^40)(hs:∀ t∈d.tiers,t.name.size<=9223372036854775807)(L:∀ n∈d.notes,n.text.size<=9223372036854775807):
  zi Tryz.prog 32 [zA d] (int (wt d)):=by
 refine zp mixed Tryz.func32 rfl c_32 ?_
 simp+decide[Tryz.f32,zA,Dc.row]
 refine zc.pure (by rfl) (P1 d.tiers (by omega) hs) (by simp) ?_
 by_cases M:jH d.tiers=0
 case neg=>simp+decide[int,M,wt]
 by_cases O:d.len<0
 .simp+decide[int,M,O,wt]
 by_cases Q:86400000<d.len
 .simp+decide[int,M,O,Q,wt]
 by_cases T:300<d.notes.length
 .have F:(300:Int)<d.notes.length:=by omega
  simp+decide[int,M,O,Q,T,F,wt,zw]
 have F:¬(300:Int)<d.notes.length:=by omega
 have V:wt d=if qV d d.notes.length 0=0 then jM d d.tiers.length 0 else qV d d.notes.length 0:=by
  simp only[wt];rw[if_neg (by simpa using M),if_neg (by omega),if_neg T]
  by_cases h:qV d d.notes.length 0=0 <;> simp[h]
 rw[V]
 simp+decide[int,M,O,Q,F,zw]
 refine zr mixed (λi:Nat=>{n:=54,next:=1,slots:=[(1,.bp 0 0),(4,.d (.int .i64 i))],own:=[(0,.box 53 (yy d))]})
  (λi=>i<=d.notes.length/\qV d d.notes.length 0=qV d (d.notes.length-i) i) (λi=>d.notes.length-i) 0 (by simp) (by simp+decide[int,zw,zF,ints]) ?_
 rintro i ⟨hi,X⟩
 by_cases G:i<d.notes.length
 .obtain⟨m,Y⟩:∃ m,d.notes.length-i=m+1:=⟨d.notes.length-i-1,by omega⟩
  have E:d.notes.length-(i+1)=m:=by omega
  rw[Y,KI,if_pos G] at X;have H:(i:Int)<d.notes.length:=by omega
  simp+decide[int,zw,H];refine zc.pure (by rfl) (Px d i G (by omega) (by omega) L) (by simp+decide[int]) ?_
  by_cases Z:j6 d i=0
  .rw[if_pos Z] at X
   simp+decide[int,Z,I64];exact⟨by omega,i+1,⟨by omega,by rw[X,E]⟩,by omega,by simp⟩
  .rw[if_neg Z] at X
   simp+decide[int,Z,X]
 .have:i=d.notes.length:=by omega
  subst this;rw[Nat.sub_self] at X;rw[X];simp+decide[int,qV,zF,zw];refine zr mixed (λi:Nat=>{n:=54,next:=1,slots:=[(1,.bp 0 0),(6,.d (.int .i64 i))],own:=[(0,.box 53 (yy d))]})
   (λi=>i<=d.tiers.length/\jM d d.tiers.length 0=jM d (d.tiers.length-i) i) (λi=>d.tiers.length-i) 0 (by simp) (by simp+decide) ?_
  rintro i ⟨hi,X⟩
  by_cases G:i<d.tiers.length
  .have H:(i:Int)<d.tiers.length:=by omega
   obtain⟨m,Y⟩:∃ m,d.tiers.length-i=m+1:=⟨d.tiers.length-i-1,by omega⟩
   have E:d.tiers.length-(i+1)=m:=by omega
   rw[Y] at X;simp only[jM,if_pos G] at X;simp+decide[int,zF,H];refine zc.pure (by rfl) (PV d i G (by omega)) (by simp+decide[int]) ?_
   by_cases Z:jL d i=0
   .rw[if_pos Z] at X
    simp+decide[int,Z,I64];exact⟨by omega,i+1,⟨by omega,by rw[X,E]⟩,by omega,by simp⟩
   .rw[if_neg Z] at X
    simp+decide[int,Z,X]
  .have:i=d.tiers.length:=by omega
   subst this;rw[Nat.sub_self] at X;simp+decide[int,zF,X,jM]
def wu(d:Dc):Bool:=decide (d.notes.length<=14)&&decide (d.tiers.length<=6)&&decide (d.spk.length<=6)&&decide (wt d=0)
theorem PW(d:Dc)(hs:∀ t∈d.tiers,t.name.size<=9223372036854775807)(H:∀ n∈d.notes,n.text.size<=9223372036854775807):
  zi Tryz.prog 17 [zA d] (.bool (wu d)):=by
 refine zp mixed Tryz.func17 rfl c_17 ?_
 by_cases G:d.notes.length<=14
 case neg=>
  have g1:¬(d.notes.length:Int)<=14:=by omega
  simp+decide[Tryz.f17,zA,Dc.row,zw,zF,ints,int,wu,G,g1]
 have g1:(d.notes.length:Int)<=14:=by omega
 by_cases F:d.tiers.length<=6
 case neg=>
  have g2:¬(d.tiers.length:Int)<=6:=by omega
  simp+decide[Tryz.f17,zA,Dc.row,zw,zF,ints,int,wu,G,g1,F,g2]
 have g2:(d.tiers.length:Int)<=6:=by omega
 by_cases E:d.spk.length<=6
 case neg=>
  have g3:¬(d.spk.length:Int)<=6:=by omega
  simp+decide[Tryz.f17,zA,Dc.row,zw,zF,ints,int,wu,G,g1,F,g2,E,g3]
 have g3:(d.spk.length:Int)<=6:=by omega
 simp+decide[Tryz.f17,zA,Dc.row,zw,zF,ints,int,g1,g2,g3]
 refine zc.pure (by rfl) (KN d (by omega) (by omega) hs H) (by simp+decide[int]) ?_
 by_cases K:wt d=0
 .simp+decide[int,K,wu,G,F,E]
 .simp+decide[int,K,wu,G,F,E]
def ui(l:List Sp)(v:Int):Prop:=∃ y∈l,y.fr<=v/\v<y.tO
theorem Cj{s:Sp}:s.rt=true↔0<=s.fr/\s.fr<s.tO/\s.tO<=86400000:=by
 simp only[Sp.rt,yA,Bool.and_eq_true,decide_eq_true_eq,and_assoc]
theorem Ck{x s:Sp}(H:x.rt=true)(hs:s.rt=true)(v:Int):ui (wq x s) v↔(x.fr<=v/\v<x.tO)/\¬(s.fr<=v/\v<s.tO):=by
 rw[Cj] at H hs
 obtain⟨a1,a2,a3⟩:=H
 obtain⟨b1,b2,b3⟩:=hs
 have e1:yA x.fr (min x.tO s.fr)=true↔x.fr<min x.tO s.fr:=by
  simp only[yA,Bool.and_eq_true,decide_eq_true_eq];omega
 have e2:yA (max x.fr s.tO) x.tO=true↔max x.fr s.tO<x.tO:=by
  simp only[yA,Bool.and_eq_true,decide_eq_true_eq];omega
 unfold ui wq
 constructor
 .rintro⟨y,G,F,E⟩
  rcases List.mem_append.1 G with h | h
  .split at h
   .simp at h;subst h;simp only at F E;omega
   .cases h
  .split at h
   .simp at h;subst h;simp only at F E;omega
   .cases h
 .rintro⟨⟨F,E⟩,K⟩
  by_cases J:v<s.fr
  .refine⟨⟨x.fr,min x.tO s.fr⟩,?_,F,by simp only;omega⟩
   rw[if_pos (e1.2 (by omega))];simp
  .refine⟨⟨max x.fr s.tO,x.tO⟩,?_,by simp only;omega,E⟩
   rw[if_pos (e2.2 (by omega))];simp
theorem PX{s:Sp}(hs:s.rt=true)(v:Int){l:List Sp}(H:∀ x∈l,x.rt=true):ui (xZ l s) v↔ui l v/\¬(s.fr<=v/\v<s.tO):=by
 unfold xZ
 constructor
 .rintro⟨y,G,F⟩
  obtain⟨x,E,h⟩:=List.mem_flatMap.1 G;have:=(Ck (H x E) hs v).1 ⟨y,h,F⟩
  exact⟨⟨x,E,this.1⟩,this.2⟩
 .rintro⟨⟨x,E,F⟩,K⟩
  obtain⟨y,G,J⟩:=(Ck (H x E) hs v).2 ⟨F,K⟩;exact⟨y,List.mem_flatMap.2 ⟨x,E,G⟩,J⟩
theorem VK(v:Int):∀ (b a:List Sp),(∀ x∈a,x.rt=true)->(ui (qk a b) v↔ui a v/\∀ y∈b,y.rt=true->¬(y.fr<=v/\v<y.tO))
 | [],a,h=>by simp[qk]
 |y::r,a,h=>by
  have e:qk a (y::r)=qk (if y.rt=true then xZ a y else a) r:=rfl
  rw[e];by_cases H:y.rt=true
  .rw[if_pos H,VK v r _ Cf,PX H v h]
   constructor
   .rintro⟨⟨G,F⟩,E⟩
    refine⟨G,λz K J=>?_⟩
    rcases List.mem_cons.1 K with rfl | K
    .exact F
    .exact E z K J
   .rintro⟨G,E⟩
    exact⟨⟨G,E y (by simp) H⟩,λz K J=>E z (by simp[K]) J⟩
  .rw[if_neg H,VK v r _ h]
   constructor
   .rintro⟨G,E⟩
    refine⟨G,λz K J=>?_⟩
    rcases List.mem_cons.1 K with rfl | K
    .exact absurd J H
    .exact E z K J
   .rintro⟨G,E⟩
    exact⟨G,λz K J=>E z (by simp[K]) J⟩
theorem Cl{l:List Sp}{s:Sp}:jI l s=true↔s.rt=true/\∀ v,s.fr<=v->v<s.tO->∃ y∈l,y.rt=true/\y.fr<=v/\v<y.tO:=by
 unfold jI
 rw[Bool.and_eq_true]
 constructor
 .rintro⟨hs,F⟩
  refine⟨hs,λv E K=>?_⟩
  have J:=VK v l [s] (by simpa using hs)
  rw[List.isEmpty_iff.1 F] at J;have L:¬ui [] v:=by rintro⟨y,M,_⟩;cases M
  have:¬(ui [s] v/\∀ y∈l,y.rt=true->¬(y.fr<=v/\v<y.tO)):=λh=>L (J.2 h)
  apply Classical.byContradiction
  intro O;exact this ⟨⟨s,by simp,E,K⟩,λy M Q T=>O ⟨y,M,Q,T⟩⟩
 .rintro⟨hs,h⟩
  refine⟨hs,?_⟩
  have H:=(VI l [s] (by simpa using hs)).1
  cases J:qk [s] l with
  |nil=>rfl
  |cons y r=>
   exfalso
   have M:=Cj.1 (H y (by rw[J];simp))
   have G:ui (qk [s] l) y.fr:=⟨y,by rw[J];simp,Int.le_refl _,M.2.1⟩
   obtain⟨⟨z,V,E,K⟩,X⟩:=(VK y.fr l [s] (by simpa using hs)).1 G
   simp at V;subst V
   obtain⟨u,Y,Q,T⟩:=h _ E K;exact X u Y Q T
theorem Cm{α:Type}{q:α->Bool}:∀ {s:List α} {i:Nat} (h:i<s.length),q s[i]=true->(s.filter q)[((s.take i).filter q).length]?=some s[i]
 |x::r,0,h,G=>by
  have H:q x=true:=G
  simp[H]
 |x::r,i+1,h,G=>by
  have F:i<r.length:=by simpa using h
  have ih:=Cm (q:=q) F G;by_cases E:q x=true
  .simp only[List.take_succ_cons,List.filter_cons_of_pos E,List.length_cons,List.getElem?_cons_succ,List.getElem_cons_succ]
   exact ih
  .simp only[List.take_succ_cons,List.filter_cons_of_neg E,List.getElem_cons_succ]
   exact ih
theorem KO{α:Type}{q:α->Bool}:∀ {s:List α} {j:Nat},j<(s.filter q).length->∃ i,∃ h:i<s.length,q s[i]=true/\((s.take i).filter q).length=j
 | [],j,h=>by simp at h
 |x::r,j,h=>by
  by_cases H:q x=true
  .cases j with
   |zero=>exact⟨0,by simp,H,by simp⟩
   |succ j=>
    rw[List.filter_cons_of_pos H,List.length_cons] at h;obtain⟨i,hi,G,F⟩:=KO (q:=q) (s:=r) (j:=j) (by omega)
    exact⟨i+1,by simpa using hi,G,by rw[List.take_succ_cons,List.filter_cons_of_pos H,List.length_cons,F]⟩
  .rw[List.filter_cons_of_neg H] at h
   obtain⟨i,hi,G,F⟩:=KO (q:=q) (s:=r) h;exact⟨i+1,by simpa using hi,G,by rw[List.take_succ_cons,List.filter_cons_of_neg H,F]⟩
theorem Cn:∀ (l:List Int) (c:Int),l.Pairwise (·<=·)->(∀ n:Nat,n<=l.length->c+n∈l)->False
 | [],c,_,h=>by have:=h 0 (by simp);simp at this
 |x::r,c,H,h=>by
  rw[List.pairwise_cons] at H;have G:x<=c:=by
   have:=h 0 (by simp)
   rcases List.mem_cons.1 this with e | e
   .simp at e;omega
   .have:=H.1 _ e;simp at this;exact this
  refine Cn r (c+1) H.2 λn hn=>?_
  have:=h (n+1) (by simp;omega)
  rcases List.mem_cons.1 this with e | e
  .exfalso;push_cast at e;omega
  .have e2:c+1+(n:Int)=c+((n+1:Nat):Int):=by push_cast;omega
   rw[e2];exact e
theorem Co:∀ (l:List Int) (c:Int),l.Pairwise (·<=·)->(∀ n:Nat,n<l.length->c+n∈l)->∀ j:Nat,j<l.length->l[j]?=some (c+j)
 | [],c,_,h,j,hj=>by simp at hj
 |x::r,c,F,h,j,hj=>by
  rw[List.pairwise_cons] at F;have E:x<=c:=by
   have:=h 0 (by simp)
   rcases List.mem_cons.1 this with e | e
   .simp at e;omega
   .have:=F.1 _ e;simp at this;exact this
  have H:x=c:=by
   apply Classical.byContradiction
   intro G;refine Cn r c F.2 λn K=>?_
   have:=h n (by simp;omega)
   rcases List.mem_cons.1 this with e | e
   .exfalso;omega
   .exact e
  cases j with
  |zero=>simp[H]
  |succ j=>
   have:=Co r (c+1) F.2 (λn K=>by
    have:=h (n+1) (by simp;omega)
    rcases List.mem_cons.1 this with e | e
    .exfalso;push_cast at e;omega
    .have e2:c+1+(n:Int)=c+((n+1:Nat):Int):=by push_cast;omega
     rw[e2];exact e) j (by simpa using hj)
   rw[List.getElem?_cons_succ,this];congr 1;push_cast;omega
end Go.V.Doc
namespace Go.V.Doc
open Go Go.Proofs
def gN(s:List Nt)(i:Nat):Nt:=s[i]?.getD default
theorem xm{s:List Nt}{i:Nat}(h:i<s.length):gN s i=s[i]:=by unfold gN;rw[List.getElem?_eq_getElem h];rfl
theorem j7{s:List Nt}{i:Nat}(h:i<s.length):gN s i∈s:=by rw[xm h];exact List.getElem_mem h
def gx{α:Type}(ov bad:α->Bool)(c:Int):List α->Int->Int
 | [],out=>out
 |x::r,out=>if ov x=true then 15 else gx ov bad c r (if bad x=true then c else out)
theorem KP{α:Type}(ov bad:α->Bool)(c:Int):∀ (l:List α) (out:Int),gx ov bad c l out=if l.any ov=true then 15 else if l.any bad=true then c else out
 | [],out=>by simp[gx]
 |x::r,out=>by
  simp only[gx];rw[KP ov bad c r];simp only[List.any_cons];have h:∀ a b e g:Bool,(if a=true then (15:Int) else if e=true then 15 else if g=true then c else if b=true then c else out)=if (a || e)=true then 15 else if (b || g)=true then c else out:=by
   intro a b e g;cases a <;> cases b <;> cases e <;> cases g <;> simp
  exact h _ _ _ _
def gy(kd:Int):Int:=if kd=1 then 16 else if kd=3 then 10 else 8
def Yn(kd:Int)(s:List Nt)(i:Nat):Bool:=zQ kd&&(!yB s i&&decide ((gN s i).fr<(gN s (i-1)).tO))
def wZ(notes:List Nt)(kd:Int)(s:List Nt)(i:Nat):Bool:=
 (decide (kd=1)&&((yB s i && !decide ((gN s i).fr=(zy notes (gN s i).par).1.fr)) || (!yB s i && !decide ((gN s (i-1)).tO=(gN s i).fr)) || (lastB s i && !decide ((gN s i).tO=(zy notes (gN s i).par).1.tO)))) ||
 (decide (kd=3)&&((yB s i && !decide ((gN s i).rank=0)) || (!yB s i && !decide ((gN s i).rank=IntKind.i64.wrap ((gN s (i-1)).rank+1))))) ||
 (decide (kd=4) && !yB s i)
theorem Cp(notes:List Nt)(kd:Int)(s:List Nt):∀ (m i:Nat) (why:Int),i+m<=s.length->Zx notes kd s m i why=gx (Yn kd s) (wZ notes kd s) (gy kd) (List.range' i m) why
 |0,i,why,_=>rfl
 |m+1,i,why,h=>by
  have ih:=λw=>Cp notes kd s m (i+1) w (by omega)
  rw[List.range'_succ];simp only[Zx,gx];rw[if_pos (show i<s.length by omega)]
  simp only[ih];have e1:(s[i]?.getD default)=gN s i:=rfl
  have e2:(s[i-1]?.getD default)=gN s (i-1):=rfl
  rw[e1,e2];unfold Yn wZ gy;generalize gN s i=n;generalize gN s (i-1)=pv;generalize (zy notes n.par).1=p;generalize yB s i=F;generalize lastB s i=L;by_cases k0:kd=0
  .subst k0
   cases F <;> simp[zQ]
  by_cases k1:kd=1
  .subst k1
   cases F <;> cases L <;> simp[zQ]
  by_cases k2:kd=2
  .subst k2
   cases F <;> simp[zQ]
  by_cases k3:kd=3
  .subst k3
   cases F <;> simp[zQ]
  by_cases k4:kd=4
  .subst k4
   cases F <;> simp[zQ]
  simp[zQ,k0,k1,k2,k3,k4]
theorem PY(d:Dc)(t:Int):XN d t=if (List.range' 0 (xf (zX d.notes t)).length).any (Yn (zB d t).kind (xf (zX d.notes t)))=true then 15
  else if (List.range' 0 (xf (zX d.notes t)).length).any (wZ d.notes (zB d t).kind (xf (zX d.notes t)))=true then gy (zB d t).kind else 0:=by
 unfold XN
 rw[<-VG (zX d.notes t),Cp _ _ _ _ _ _ (by simp),KP]
def k5(d:Dc)(t kd:Int)(n:Nt):Bool:=zQ kd&&qm (yk d.notes t n.par)
def badR(d:Dc)(t kd:Int)(n:Nt):Bool:=
 (decide (kd=1) && !jI (spansOf (yk d.notes t n.par)) ⟨(zy d.notes n.par).1.fr,(zy d.notes n.par).1.tO⟩) || (decide (kd=3) && !jJ (yk d.notes t n.par)) || (decide (kd=4)&&decide (1<(yk d.notes t n.par).length))
theorem Cq(d:Dc)(t kd:Int):∀ (l:List Nt) (out:Int),jK d t kd l out=gx (k5 d t kd) (badR d t kd) (gy kd) (zX l t) out
 | [],out=>rfl
 |n::r,out=>by
  have ih:=λw=>Cq d t kd r w
  simp only[jK];by_cases h:n.tier=t
  .have e:zX (n::r) t=n::zX r t:=by unfold zX;rw[List.filter_cons_of_pos (by simpa using h)]
   rw[if_pos h,e];simp only[gx,ih];unfold k5 badR XO gy;generalize jI (spansOf (yk d.notes t n.par)) ⟨(zy d.notes n.par).1.fr,(zy d.notes n.par).1.tO⟩=C;generalize jJ (yk d.notes t n.par)=R;generalize (yk d.notes t n.par).length=z;generalize qm (yk d.notes t n.par)=O;by_cases k1:kd=1
   .subst k1;cases C <;> simp[zQ]
   by_cases k3:kd=3
   .subst k3;cases R <;> simp[zQ]
   by_cases k4:kd=4
   .subst k4;simp[zQ]
   simp[k1,k3,k4]
  .have e:zX (n::r) t=zX r t:=by unfold zX;rw[List.filter_cons_of_neg (by simpa using h)]
   rw[if_neg h,e,ih]
theorem Cr(d:Dc)(t:Int):jL d t=if (zX d.notes t).any (k5 d t (zB d t).kind)=true then 15 else if (zX d.notes t).any (badR d t (zB d t).kind)=true then gy (zB d t).kind else 0:=by
 unfold jL
 rw[Cq,KP]
structure Srt(s:List Nt):Prop where
 par:∀ i j,i<j->j<s.length->(gN s i).par<=(gN s j).par
 fr:∀ i j,i<j->j<s.length->(gN s i).par=(gN s j).par->(gN s i).fr<=(gN s j).fr
 rank:∀ i j,i<j->j<s.length->(gN s i).par=(gN s j).par->(gN s i).fr=(gN s j).fr->(gN s i).rank<=(gN s j).rank
theorem Cs(l:List Nt):Srt (xf l):=by
 have h:∀ i j,i<j->j<(xf l).length->¬((gN (xf l) j).par<(gN (xf l) i).par\/((gN (xf l) j).par=(gN (xf l) i).par/\((gN (xf l) j).fr<(gN (xf l) i).fr\/((gN (xf l) j).fr=(gN (xf l) i).fr/\(gN (xf l) j).rank<(gN (xf l) i).rank)))):=by
  intro i j H hj;have:=List.pairwise_iff_getElem.1 (Pr l) i j (by omega) hj H
  rw[VF] at this;rw[xm hj,xm (show i<_ by omega)]
  exact this
 exact⟨λi j H hj=>by have:=h i j H hj;omega,λi j H hj e=>by have:=h i j H hj;omega,λi j H hj e e'=>by have:=h i j H hj;omega⟩
theorem XP{s:List Nt}{i:Nat}:yB s i=true↔i=0\/(gN s (i-1)).par≠(gN s i).par:=by
 unfold yB
 rw[Bool.or_eq_true,decide_eq_true_eq,Bool.not_eq_true',decide_eq_false_iff_not]
 rfl
theorem Yo{s:List Nt}{i:Nat}:yB s i=false↔i≠0/\(gN s (i-1)).par=(gN s i).par:=by
 rw[<-Bool.not_eq_true,XP]
 exact⟨λh=>⟨λe=>h (.inl e),Classical.byContradiction λe=>h (.inr e)⟩,λh h'=>h'.elim (λe=>h.1 e) (λe=>e h.2)⟩
theorem Ct{s:List Nt}{i:Nat}:lastB s i=true↔i+1=s.length\/(gN s (i+1)).par≠(gN s i).par:=by
 unfold lastB
 rw[Bool.or_eq_true,decide_eq_true_eq,Bool.not_eq_true',decide_eq_false_iff_not]
 rfl
def XQ(s:List Nt):Prop:=∀ i j,i<j->j<s.length->(gN s i).par=(gN s j).par->(gN s i).tO<=(gN s j).fr
theorem PZ{s:List Nt}(hs:Srt s)(h:∀ i,i<s.length->(!yB s i&&decide ((gN s i).fr<(gN s (i-1)).tO))=false):XQ s:=by
 intro i j H hj G
 have F:(gN s i).par=(gN s (i+1)).par:=by
  rcases Nat.eq_or_lt_of_le (show i+1<=j from H) with e | e
  .rw[e];exact G
  .have a:=hs.par i (i+1) (by omega) (by omega)
   have b:=hs.par (i+1) j e hj;omega
 have E:=h (i+1) (by omega)
 have K:yB s (i+1)=false:=Yo.2 ⟨by omega,F⟩
 rw[K] at E
 simp at E
 rcases Nat.eq_or_lt_of_le (show i+1<=j from H) with e | e
 .subst e;exact E
 .have:=hs.fr (i+1) j e hj (by omega)
  omega
theorem R1{s:List Nt}(h:XQ s):∀ i,i<s.length->(!yB s i&&decide ((gN s i).fr<(gN s (i-1)).tO))=false:=by
 intro i hi
 cases H:yB s i with
 |true=>rfl
 |false=>
  obtain⟨G,F⟩:=Yo.1 H;have:=h (i-1) i (by omega) hi F
  simp;omega
def NM(x y:Nt):Prop:=¬(x.fr<y.tO/\y.fr<x.tO)
theorem NM.symm{x y:Nt}(h:NM x y):NM y x:=λe=>h ⟨e.2,e.1⟩
theorem KQ{l:List Nt}:qm l=false↔l.Pairwise NM:=by
 rw[KJ,List.pairwise_iff_getElem]
 constructor
 .intro h i j hi hj H
  have:=h j hj i H
  unfold uh at this;rw[List.getElem?_eq_getElem hj,List.getElem?_eq_getElem hi] at this;simp only[Option.getD_some,Bool.and_eq_false_iff,decide_eq_false_iff_not] at this;rintro⟨a,b⟩
  rcases this with h | h
  .exact h b
  .exact h a
 .intro h i hi k G
  have:=h k i (by omega) hi G
  unfold uh;rw[List.getElem?_eq_getElem hi,List.getElem?_eq_getElem (show k<l.length by omega)]
  simp only[Option.getD_some,Bool.and_eq_false_iff,decide_eq_false_iff_not];by_cases c:l[i].fr<l[k].tO
  .right;intro c';exact this ⟨c',c⟩
  .left;exact c
section
variable {d:Dc} {t:Int} {s:List Nt}
theorem R2(notes:List Nt)(t p:Int):yk notes t p=(zX notes t).filter λn=>decide (n.par=p):=by
 unfold yk zX
 rw[List.filter_filter]
 congr 1;funext n;rw[Bool.and_comm]
theorem gA(H:s.Perm (zX d.notes t))(p:Int):(s.filter λn=>decide (n.par=p)).Perm (yk d.notes t p):=by
 rw[R2];exact H.filter _
theorem Cu(F:s.Perm (zX d.notes t))(hs:Srt s)(E:∀ n∈s,n.fr<n.tO):XQ s↔∀ n∈zX d.notes t,qm (yk d.notes t n.par)=false:=by
 constructor
 .intro h n hn
  rw[KQ];refine((gA F n.par).pairwise_iff λh=>NM.symm h).1 ?_
  rw[List.pairwise_filter,List.pairwise_iff_getElem];intro i j hi hj H K J;simp at K J
  have:=h i j H hj (by rw[xm hi,xm hj,K,J])
  rw[xm hi,xm hj] at this;rintro⟨_,b⟩
  omega
 .intro h i j H hj G
  have hi:i<s.length:=by omega
  have K:=h (gN s i) (F.mem_iff.1 (j7 hi));rw[KQ] at K;have J:=((gA F (gN s i).par).pairwise_iff λh=>NM.symm h).2 K
  rw[List.pairwise_filter,List.pairwise_iff_getElem] at J;have L:=J i j hi hj H (by rw[xm hi];simp) (by rw[<-xm hj,<-G];simp)
  rw[<-xm hi,<-xm hj] at L;have a:=hs.fr i j H hj G;have b:=E _ (j7 hj);have c:¬(gN s j).fr<(gN s i).tO:=λe=>L ⟨by omega,e⟩
  omega
end
end Go.V.Doc
namespace Go.V.Doc
open Go Go.Proofs
section
variable {d:Dc} {t:Int} {s:List Nt}
def Zy(notes:List Nt)(s:List Nt)(i:Nat):Bool:=
 (yB s i && !decide ((gN s i).fr=(zy notes (gN s i).par).1.fr)) || (!yB s i && !decide ((gN s (i-1)).tO=(gN s i).fr)) || (lastB s i && !decide ((gN s i).tO=(zy notes (gN s i).par).1.tO))
theorem Cv:∀ i,∃ j,j<=i/\(gN s j).par=(gN s i).par/\yB s j=true
 |0=>⟨0,by omega,rfl,XP.2 (.inl rfl)⟩
 |i+1=>by
  cases h:yB s (i+1) with
  |true=>exact⟨i+1,by omega,rfl,h⟩
  |false=>
   obtain⟨_,G⟩:=Yo.1 h;obtain⟨j,F,E,K⟩:=Cv i;have H:(gN s i).par=(gN s (i+1)).par:=G
   exact⟨j,by omega,E.trans H,K⟩
theorem KR(H:s.Perm (zX d.notes t)){p:Int}{m:Nt}:m∈yk d.notes t p↔∃ j,j<s.length/\(gN s j).par=p/\gN s j=m:=by
 rw[<-(gA H p).mem_iff,List.mem_filter]
 constructor
 .rintro⟨G,F⟩
  obtain⟨j,hj,e⟩:=List.mem_iff_getElem.1 G;rw[<-xm hj] at e;exact⟨j,hj,by rw[e];simpa using F,e⟩
 .rintro⟨j,hj,G,rfl⟩
  exact⟨j7 hj,by simpa using G⟩
structure Wit(notes s:List Nt):Prop where
 right:∀ n∈s,yA n.fr n.tO=true
 prt:∀ n∈s,yA (zy notes n.par).1.fr (zy notes n.par).1.tO=true
 lo:∀ n∈s,(zy notes n.par).1.fr<=n.fr
 hi:∀ n∈s,n.tO<=(zy notes n.par).1.tO
theorem R7(hp:s.Perm (zX d.notes t))(hs:Srt s)(ha:XQ s)(hw:Wit d.notes s):
  (∀ i,i<s.length->Zy d.notes s i=false)↔∀ n∈zX d.notes t,jI (spansOf (yk d.notes t n.par)) ⟨(zy d.notes n.par).1.fr,(zy d.notes n.par).1.tO⟩=true:=by
 have L:∀ n∈s,0<=n.fr/\n.fr<n.tO/\n.tO<=86400000:=λn hn=>by have:=hw.right n hn;simpa only [yA,Bool.and_eq_true,decide_eq_true_eq,and_assoc] using this
 constructor
 .intro h n hn
  have M:n∈s:=hp.mem_iff.2 hn
  obtain⟨i0,A,e0⟩:=List.mem_iff_getElem.1 M;rw[<-xm A] at e0;subst e0;rw[Cl];refine⟨hw.prt _ M,λv B hv2=>?_⟩
  simp only at B hv2
  have up:∀ k i,s.length-i<=k->i<s.length->(gN s i).par=(gN s i0).par->(gN s i).fr<=v->∃ j,j<s.length/\(gN s j).par=(gN s i0).par/\(gN s j).fr<=v/\v<(gN s j).tO:=by
   intro k;induction k with
   |zero=>intro i h1 h2;omega
   |succ k ih=>
    intro i h1 h2 h3 h4;by_cases h5:v<(gN s i).tO
    .exact⟨i,h2,h3,h4,h5⟩
    have hg:=h i h2;simp only[Zy,Bool.or_eq_false_iff,Bool.and_eq_false_iff,Bool.not_eq_false',decide_eq_true_eq] at hg;have hl:lastB s i=false:=by
     rcases hg.2 with e | e
     .exact e
     .rw[h3] at e;omega
    rw[<-Bool.not_eq_true,Ct,not_or,Classical.not_not] at hl;have O:i+1<s.length:=by omega
    have hf:yB s (i+1)=false:=Yo.2 ⟨by omega,by simpa using hl.2.symm⟩
    have Q:=h (i+1) O;simp only[Zy,Bool.or_eq_false_iff,Bool.and_eq_false_iff,Bool.not_eq_false',decide_eq_true_eq,hf] at Q;have N:(gN s i).tO=(gN s (i+1)).fr:=by
     rcases Q.1.2 with e | e
     .cases e
     .simpa using e
    exact ih (i+1) (by omega) O (hl.2.trans h3) (by omega)
  obtain⟨j,hj,H,C⟩:=Cv (s:=s) i0;have T:j<s.length:=by omega
  have V:=h j T;simp only[Zy,Bool.or_eq_false_iff,Bool.and_eq_false_iff,Bool.not_eq_false',decide_eq_true_eq,C] at V;have P:(gN s j).fr=(zy d.notes (gN s i0).par).1.fr:=by
   rcases V.1.1 with e | e
   .cases e
   .rw[H] at e;exact e
  obtain⟨y,hy,I,F,E⟩:=up _ j (Nat.le_refl _) T H (by omega)
  exact⟨⟨(gN s y).fr,(gN s y).tO⟩,List.mem_map.2 ⟨gN s y,(KR hp).2 ⟨y,hy,I,rfl⟩,rfl⟩,hw.right _ (j7 hy),F,E⟩
 .intro h i hi
  have hc:=Cl.1 (h _ (hp.mem_iff.1 (j7 hi)));have pt:=hw.prt _ (j7 hi);have cov:∀ v,(zy d.notes (gN s i).par).1.fr<=v->v<(zy d.notes (gN s i).par).1.tO->∃ j,j<s.length/\(gN s j).par=(gN s i).par/\(gN s j).fr<=v/\v<(gN s j).tO:=by
   intro v h1 h2;obtain⟨y,hy,_,F,E⟩:=hc.2 v h1 h2;obtain⟨m,hm,rfl⟩:=List.mem_map.1 hy;obtain⟨j,hj,H,rfl⟩:=(KR hp).1 hm;exact⟨j,hj,H,F,E⟩
  have lo:=hw.lo _ (j7 hi);have S:=hw.hi _ (j7 hi);have W:=L _ (j7 hi);generalize hP:(zy d.notes (gN s i).par).1.fr=a at *;generalize hQ:(zy d.notes (gN s i).par).1.tO=b at *;have pt':a<b:=by simp only[yA,Bool.and_eq_true,decide_eq_true_eq] at pt;omega
  simp only[Zy,Bool.or_eq_false_iff,Bool.and_eq_false_iff,Bool.not_eq_false',decide_eq_true_eq,hP,hQ];refine⟨⟨?_,?_⟩,?_⟩
  .cases hf:yB s i with
   |false=>exact .inl rfl
   |true=>
    right
    apply Classical.byContradiction
    intro X;obtain⟨j,hj,H,Y,Z⟩:=cov a (Int.le_refl _) pt';rcases Nat.lt_trichotomy j i with G | rfl | G
    .rcases XP.1 hf with e | e
     .omega
     .apply e
      rcases Nat.eq_or_lt_of_le (show j<=i-1 by omega) with e' | e'
      .rw[<-e',H]
      .have x1:=hs.par j (i-1) e' (by omega)
       have x2:=hs.par (i-1) i (by omega) hi
       omega
    .omega
    .have:=hs.fr i j G hj H.symm
     omega
  .cases hf:yB s i with
   |true=>exact .inl rfl
   |false=>
    right
    obtain⟨h0,K⟩:=Yo.1 hf;have J:i-1<s.length:=by omega
    have h1:=ha (i-1) i (by omega) hi K
    apply Classical.byContradiction
    intro X;have r1:=L _ (j7 J);have l1:=hw.lo _ (j7 J);rw[K,hP] at l1;obtain⟨j,hj,H,Y,Z⟩:=cov (gN s (i-1)).tO (by omega) (by omega)
    rcases Nat.lt_trichotomy j (i-1) with G | e | G
    .have:=ha j (i-1) G J (H.trans K.symm)
     omega
    .subst e;omega
    .rcases Nat.eq_or_lt_of_le (show i<=j by omega) with e' | e'
     .subst e';omega
     .have:=hs.fr i j e' hj H.symm
      omega
  .cases hf:lastB s i with
   |false=>exact .inl rfl
   |true=>
    right
    apply Classical.byContradiction
    intro X;obtain⟨j,hj,H,Y,Z⟩:=cov (gN s i).tO (by omega) (by omega)
    rcases Nat.lt_trichotomy j i with G | rfl | G
    .have:=ha j i G hi H
     omega
    .omega
    .rcases Ct.1 hf with e | e
     .omega
     .apply e
      rcases Nat.eq_or_lt_of_le (show i+1<=j from G) with e' | e'
      .rw[e',H]
      .have x1:=hs.par (i+1) j e' hj
       have x2:=hs.par i (i+1) (by omega) (by omega)
       omega
def vM(s:List Nt)(i:Nat):Nat:=((s.take i).filter λn=>decide (n.par=(gN s i).par)).length
theorem VL(hs:Srt s){i:Nat}(hi:i<s.length)(h:yB s i=true):vM s i=0:=by
 unfold vM
 rw[List.length_eq_zero_iff,List.filter_eq_nil_iff]
 intro x F E
 obtain⟨j,hj,rfl⟩:=List.mem_take_iff_getElem.1 F
 have H:j<s.length:=by omega
 have G:j<i:=by omega
 simp only[decide_eq_true_eq] at E
 rw[<-xm H] at E
 rcases XP.1 h with e | e
 .omega
 .apply e
  rcases Nat.eq_or_lt_of_le (show j<=i-1 by omega) with e' | e'
  .rw[<-e',E]
  .have x1:=hs.par j (i-1) e' (by omega)
   have x2:=hs.par (i-1) i (by omega) hi
   omega
theorem KT{i:Nat}(hi:i<s.length)(h:yB s i=false):vM s i=vM s (i-1)+1:=by
 obtain⟨G,F⟩:=Yo.1 h
 obtain⟨j,rfl⟩:∃ j,i=j+1:=⟨i-1,by omega⟩
 have hj:j<s.length:=by omega
 have H:(gN s j).par=(gN s (j+1)).par:=F
 unfold vM
 rw[take_snoc' hj,List.filter_append,List.length_append]
 have:[s[j]].filter (λn=>decide (n.par=(gN s (j+1)).par))=[s[j]]:=by
  rw[List.filter_cons_of_pos (by rw[<-xm hj];simpa using H)];rfl
 rw[this]
 simp only[Nat.add_sub_cancel,List.length_singleton,H]
theorem pos_at{i:Nat}(hi:i<s.length):(s.filter λn=>decide (n.par=(gN s i).par))[vM s i]?=some (gN s i):=by
 have:=Cm (q:=λn=>decide (n.par=(gN s i).par)) hi (by rw[<-xm hi];simp)
 rw[<-xm hi] at this
 exact this
theorem Cw{p:Int}{j:Nat}(h:j<(s.filter λn=>decide (n.par=p)).length):∃ i,i<s.length/\(gN s i).par=p/\vM s i=j:=by
 obtain⟨i,hi,G,F⟩:=KO h
 have H:(gN s i).par=p:=by rw[xm hi];simpa using G
 exact⟨i,hi,H,by unfold vM;rw[H];exact F⟩
def uj(s:List Nt)(i:Nat):Bool:=(yB s i && !decide ((gN s i).rank=0)) || (!yB s i && !decide ((gN s i).rank=IntKind.i64.wrap ((gN s (i-1)).rank+1)))
theorem Cx(hs:Srt s)(G:s.length<2^40):(∀ i,i<s.length->uj s i=false)↔∀ i,i<s.length->(gN s i).rank=vM s i:=by
 have F:∀ i,vM s i<=s.length:=by
  intro i;unfold vM;exact Nat.le_trans (List.length_filter_le _ _) (by rw[List.length_take];omega)
 constructor
 .intro h i
  induction i with
  |zero=>
   intro hi;have E:yB s 0=true:=XP.2 (.inl rfl)
   have:=h 0 hi
   rw[VL hs hi E];simp[uj,E] at this;exact this
  |succ j ih=>
   intro hi;have:=h (j+1) hi
   cases E:yB s (j+1) with
   |true=>
    rw[VL hs hi E];simp[uj,E] at this;exact this
   |false=>
    have e:=ih (by omega)
    have H:=F j;have e2:=KT hi E;simp only[Nat.add_sub_cancel] at e2;simp[uj,E] at this;rw[this,e,e2,wrap64 (by omega)];push_cast;rfl
 .intro h i hi
  cases E:yB s i with
  |true=>
   have:=h i hi
   rw[VL hs hi E] at this;simp[uj,E,this]
  |false=>
   have e2:=KT hi E;have e:=h i hi;have e1:=h (i-1) (by omega)
   have H:=F (i-1);simp only[uj,E,Bool.false_and,Bool.false_or,Bool.not_false,Bool.true_and,Bool.not_eq_false',decide_eq_true_eq];rw[e,e1,e2,wrap64 (by omega)];push_cast;rfl
theorem Cy(M:s.Perm (zX d.notes t))(hs:Srt s)(O:s.length<2^40)(Q:∀ n∈s,n.fr=0):
  (∀ i,i<s.length->uj s i=false)↔∀ n∈zX d.notes t,jJ (yk d.notes t n.par)=true:=by
 rw[Cx hs O]
 constructor
 .intro h n T
  rw[VJ];intro m V;rw[<-(gA M n.par).length_eq] at V;obtain⟨i,hi,X,Y⟩:=Cw V;rw[List.any_eq_true];exact⟨gN s i,(KR M).2 ⟨i,hi,X,rfl⟩,by rw[decide_eq_true_eq,h i hi,Y]⟩
 .intro h i hi
  have Z:=VJ.1 (h _ (M.mem_iff.1 (j7 hi)));have H:=(gA M (gN s i).par).length_eq;have E:((s.filter λn=>decide (n.par=(gN s i).par)).map (·.rank)).Pairwise (·<=·):=by
   rw[List.pairwise_map,List.pairwise_filter,List.pairwise_iff_getElem];intro a b A B K X Y;simp only[decide_eq_true_eq] at X Y;rw[<-xm A] at X ⊢;rw[<-xm B] at Y ⊢;exact hs.rank a b K B (X.trans Y.symm) (by rw[Q _ (j7 A),Q _ (j7 B)])
  have J:=Co _ 0 E (λn T=>by
   rw[List.length_map,H] at T;have:=Z n T
   rw[List.any_eq_true] at this;obtain⟨x,C,G⟩:=this;simp only[decide_eq_true_eq] at G;rw[List.mem_map];exact⟨x,(gA M _).mem_iff.2 C,by rw[G];omega⟩)
  have F:=pos_at hi;have L:vM s i<(s.filter λn=>decide (n.par=(gN s i).par)).length:=(List.getElem?_eq_some_iff.1 F).1
  have:=J (vM s i) (by rw[List.length_map];exact L)
  rw[List.getElem?_map,F] at this;simp at this
  exact this
theorem R9(G:s.Perm (zX d.notes t))(hs:Srt s):(∀ i,i<s.length->yB s i=true)↔∀ n∈zX d.notes t,¬1<(yk d.notes t n.par).length:=by
 constructor
 .intro h n F E
  rw[<-(gA G n.par).length_eq] at E;obtain⟨i,hi,_,K⟩:=Cw E;rw[VL hs hi (h i hi)] at K;cases K
 .intro h i hi
  cases J:yB s i with
  |true=>rfl
  |false=>
   exfalso
   apply h _ (G.mem_iff.1 (j7 hi))
   have e2:=KT hi J;have H:=(List.getElem?_eq_some_iff.1 (pos_at hi)).1;rw[(gA G (gN s i).par).length_eq] at H;omega
end
end Go.V.Doc
namespace Go.V.Doc
open Go Go.Proofs
theorem KU(d:Dc):∀ (m i:Nat),i+m=d.notes.length->qV d m i=0->∀ j,i<=j->j<d.notes.length->j6 d j=0
 |0,i,h,_,j,H,h2=>by omega
 |m+1,i,h,G,j,H,h2=>by
  rw[KI,if_pos (by omega)] at G
  by_cases F:j6 d i=0
  .rw[if_pos F] at G
   rcases Nat.eq_or_lt_of_le H with e | e
   .rw[<-e];exact F
   .exact KU d m (i+1) (by omega) G j e h2
  .rw[if_neg F] at G;exact absurd G F
theorem KV(l:List Tir):∀ (m i:Nat),i+m=l.length->gn l m i=0->∀ j,i<=j->(h:j<l.length)->qj (l.take j) l[j]=0
 |0,i,h,_,j,H,h2=>by omega
 |m+1,i,h,G,j,H,h2=>by
  simp only[gn] at G;rw[dif_pos (by omega)] at G
  by_cases F:qj (l.take i) (l[i]'(by omega))=0
  .rw[if_pos F] at G
   rcases Nat.eq_or_lt_of_le H with e | e
   .subst e;exact F
   .exact KV l m (i+1) (by omega) G j e h2
  .rw[if_neg F] at G;exact absurd G F
structure Good(d:Dc):Prop where
 tiers:∀ j,(h:j<d.tiers.length)->qj (d.tiers.take j) d.tiers[j]=0
 notes:∀ j,j<d.notes.length->j6 d j=0
theorem KW{l:List Tir}{t:Tir}(h:qj l t=0)(H:t.kind≠0):0<=t.par/\t.par<l.length/\(zQ t.kind=true->zQ (l[t.par.toNat]?.getD default).kind=true):=by
 unfold qj at h
 split at h
 .cases h
 .split at h
  .cases h
  .split at h
   .cases h
   .split at h
    .cases h
    .split at h
     .cases h
     .split at h
      .cases h
      .rename_i hp
       split at h
       .cases h
       .rename_i ha
        refine⟨by omega,by omega,λe=>?_⟩
        cases G:zQ (l[t.par.toNat]?.getD default).kind with
        |true=>rfl
        |false=>exact absurd ⟨e,G⟩ ha
structure NoteOk(d:Dc)(n:Nt):Prop where
 t0:0<=n.tier
 t1:n.tier<d.tiers.length
 place:gw d n=0
theorem ul{d:Dc}(h:Good d){n:Nt}(H:n∈d.notes):NoteOk d n:=by
 obtain⟨i,hi,rfl⟩:=List.mem_iff_getElem.1 H
 have:=h.notes i hi
 simp only[j6,List.getElem?_eq_getElem hi,Option.getD_some] at this
 split at this
 .cases this
 .split at this
  .cases this
  .split at this
   .cases this
   .rename_i ht
    rw[KH] at this;split at this
    .exact⟨by omega,by omega,this⟩
    .rename_i hx;exact absurd this hx
theorem XT{d:Dc}{n:Nt}(h:gw d n=0):((zB d n.tier).kind=0->n.par=0)/\((zB d n.tier).kind≠0->(zy d.notes n.par).2=true/\(zy d.notes n.par).1.tier=(zB d n.tier).par) /\
  wY d n (zy d.notes n.par).1=true:=by
 unfold gw at h
 by_cases H:(zB d n.tier).kind=0
 .rw[if_pos H] at h
  by_cases G:n.par=0
  .rw[if_pos (by simpa using G)] at h
   by_cases F:wY d n (zy d.notes n.par).1=true
   .exact⟨λ_=>G,λe=>absurd H e,F⟩
   .rw[if_neg F] at h;cases h
  .rw[if_neg (by simpa using G)] at h;cases h
 .rw[if_neg H] at h
  by_cases E:((zy d.notes n.par).2&&decide ((zy d.notes n.par).1.tier=(zB d n.tier).par))=true
  .rw[if_pos E] at h
   by_cases F:wY d n (zy d.notes n.par).1=true
   .rw[Bool.and_eq_true,decide_eq_true_eq] at E
    exact⟨λe=>absurd e H,λ_=>E,F⟩
   .rw[if_neg F] at h;cases h
  .rw[if_neg E] at h;cases h
theorem KX{d:Dc}{i:Int}(H:0<=i)(G:i<d.tiers.length):XJ d.tiers i=zQ (zB d i).kind:=by
 unfold XJ zB
 rw[decide_eq_true H,decide_eq_true G];rfl
theorem XU{d:Dc}{n:Nt}(h:NoteOk d n)(H:zQ (zB d n.tier).kind=true):yA n.fr n.tO=true:=by
 have G:=(XT h.place).2.2
 unfold wY at G
 rw[if_pos (by rw[KX h.t0 h.t1];exact H),Bool.and_eq_true] at G
 exact G.1
theorem KY{d:Dc}{n:Nt}(h:NoteOk d n)(H:zQ (zB d n.tier).kind=false):n.fr=0/\n.tO=0:=by
 have G:=(XT h.place).2.2
 unfold wY at G
 rw[if_neg (by rw[KX h.t0 h.t1,H];simp),Bool.and_eq_true,decide_eq_true_eq,decide_eq_true_eq] at G
 exact G
theorem Yp{l:List Nt}{id:Int}(h:(zy l id).2=true):(zy l id).1∈l/\(zy l id).1.id=id:=by
 unfold zy at h ⊢
 cases H:l.find? λn=>decide (n.id=id) with
 |none=>rw[H] at h;cases h
 |some n=>
  rw[H] at h;exact⟨List.mem_of_find?_eq_some H,by simpa using List.find?_some H⟩
theorem Ra{d:Dc}(L:Good d){n:Nt}(h:NoteOk d n)(M:(zB d n.tier).kind≠0)(O:zQ (zB d n.tier).kind=true):
  yA (zy d.notes n.par).1.fr (zy d.notes n.par).1.tO=true/\(zy d.notes n.par).1.fr<=n.fr/\n.tO<=(zy d.notes n.par).1.tO:=by
 obtain⟨_,Q,T⟩:=XT h.place
 obtain⟨E,G⟩:=Q M
 have V:=Yp E
 have K:=ul L V.1
 obtain⟨k,J⟩:∃ k:Nat,n.tier=k:=⟨n.tier.toNat,by have:=h.t0;omega⟩
 have F:k<d.tiers.length:=by have:=h.t1;omega
 have et:zB d n.tier=d.tiers[k]:=by rw[J];simp[zB,List.getElem?_eq_getElem F]
 rw[et] at M O G
 obtain⟨q1,q2,q3⟩:=KW (L.tiers k F) M
 have H:(d.tiers.take k).length=k:=by rw[List.length_take];omega
 rw[H] at q2
 have q4:=q3 O
 have e2:(d.tiers.take k)[(d.tiers[k]).par.toNat]?.getD default=zB d (d.tiers[k]).par:=by
  unfold zB;rw[List.getElem?_take,if_pos (by omega)]
 rw[e2] at q4
 refine⟨XU K (by rw[G];exact q4),?_⟩
 unfold wY at T
 rw[if_pos (by rw[KX h.t0 h.t1,et];exact O),et,if_neg M,Bool.and_eq_true,Bool.and_eq_true,decide_eq_true_eq,decide_eq_true_eq] at T
 exact T.2
theorem Cz{n:Nat}{f:Nat->Bool}:(List.range' 0 n).any f=false↔∀ i,i<n->f i=false:=by
 rw[List.any_eq_false]
 constructor
 .intro h i hi
  have:=h i (by rw[List.mem_range'];exact⟨i,hi,by omega⟩)
  simpa using this
 .intro h i hi
  rw[List.mem_range'] at hi;obtain⟨j,hj,rfl⟩:=hi;simpa using h _ (by omega)
theorem XV{α:Type}{l:List α}{f:α->Bool}:l.any f=false↔∀ x∈l,f x=false:=by
 rw[List.any_eq_false]
 exact⟨λh x H=>by simpa using h x H,λh x H=>by simpa using h x H⟩
theorem CB{a b:Bool}(h:a=false↔b=false):a=b:=by
 cases a <;> cases b <;> simp_all
theorem Rb(d:Dc)(L:Good d)(M:d.notes.length<=300)(t:Nat)(O:t<d.tiers.length):XN d t=jL d t:=by
 rw[PY,Cr]
 have Q:=Ce (zX d.notes t)
 have hs:=Cs (zX d.notes t)
 have T:(xf (zX d.notes t)).length<2^40:=by
  rw[VG];have:(zX d.notes t).length<=d.notes.length:=List.length_filter_le _ _
  omega
 have H:∀ n∈xf (zX d.notes t),NoteOk d n/\n.tier=t:=by
  intro n M;have V:=Q.mem_iff.1 M;unfold zX at V;rw[List.mem_filter] at V;exact⟨ul L V.1,by simpa using V.2⟩
 generalize xf (zX d.notes t)=s at *
 generalize G:(zB d (t:Int)).kind=kd
 have K:(List.range' 0 s.length).any (Yn kd s)=(zX d.notes t).any (k5 d t kd):=by
  apply CB
  rw[Cz,XV];cases X:zQ kd with
  |false=>simp[Yn,k5,X]
  |true=>
   have Y:∀ n∈s,n.fr<n.tO:=by
    intro n M;obtain⟨V,Z⟩:=H n M;have:=XU V (by rw[Z,G];exact X)
    simp only[yA,Bool.and_eq_true,decide_eq_true_eq] at this;omega
   simp only[Yn,k5,X,Bool.true_and];rw[<-Cu Q hs Y];exact⟨PZ hs,R1⟩
 rw[K]
 cases A:(zX d.notes t).any (k5 d t kd) with
 |true=>rfl
 |false=>
  have F:(List.range' 0 s.length).any (wZ d.notes kd s)=(zX d.notes t).any (badR d t kd):=by
   apply CB
   rw[Cz,XV];by_cases k1:kd=1
   .subst k1
    have X:zQ 1=true:=rfl
    have Y:∀ n∈s,yA n.fr n.tO=true:=λn M=>by
     obtain⟨V,Z⟩:=H n M;exact XU V (by rw[Z,G];exact X)
    have J:∀ n∈s,n.fr<n.tO:=λn M=>by
     have:=Y n M
     simp only[yA,Bool.and_eq_true,decide_eq_true_eq] at this;omega
    have E:XQ s:=by
     rw[Cu Q hs J];intro n M;have:=XV.1 A n M
     simpa[k5,X] using this
    have B:Wit d.notes s:=by
     have w:=λn (M:n∈s)=>Ra L (H n M).1 (by rw[(H n M).2,G];decide) (by rw[(H n M).2,G];exact X)
     exact⟨Y,λn M=>(w n M).1,λn M=>(w n M).2.1,λn M=>(w n M).2.2⟩
    have:=R7 Q hs E B
    have e1:∀ i,wZ d.notes 1 s i=Zy d.notes s i:=λi=>by simp[wZ,Zy]
    have e2:∀ n,badR d t 1 n = !jI (spansOf (yk d.notes t n.par)) ⟨(zy d.notes n.par).1.fr,(zy d.notes n.par).1.tO⟩:=λn=>by simp[badR]
    simp only[e1,e2,Bool.not_eq_false'];exact this
   by_cases k3:kd=3
   .subst k3
    have X:zQ 3=false:=rfl
    have:=Cy Q hs T λn M=>(KY (H n M).1 (by rw[(H n M).2,G];exact X)).1
    have e1:∀ i,wZ d.notes 3 s i=uj s i:=λi=>by simp[wZ,uj]
    have e2:∀ n,badR d t 3 n = !jJ (yk d.notes t n.par):=λn=>by simp[badR]
    simp only[e1,e2,Bool.not_eq_false'];exact this
   by_cases k4:kd=4
   .subst k4
    have:=R9 Q hs
    have e1:∀ i,wZ d.notes 4 s i = !yB s i:=λi=>by simp[wZ]
    have e2:∀ n,badR d t 4 n=decide (1<(yk d.notes t n.par).length):=λn=>by simp[badR]
    simp only[e1,e2,Bool.not_eq_false',decide_eq_false_iff_not];exact this
   simp[wZ,badR,k1,k3,k4]
  rw[F]
theorem CG(d:Dc)(H:Good d)(G:d.notes.length<=300):∀ (m i:Nat),i+m=d.tiers.length->VH d m i=jM d m i
 |0,i,_=>rfl
 |m+1,i,h=>by
  simp only[VH,jM];have hi:i<d.tiers.length:=by omega
  rw[if_pos hi,if_pos hi,Rb d H G i hi,CG d H G m (i+1) (by omega)]
theorem CH(d:Dc):KG d=wt d:=by
 unfold KG wt
 split
 .rfl
 .rename_i F
  split
  .rfl
  .split
   .rfl
   .rename_i h3
    split
    .rfl
    .rename_i E
     have H:jH d.tiers=0:=by simpa using F
     have G:qV d d.notes.length 0=0:=by simpa using E
     unfold jH at H;split at H
     .cases H
     .exact CG d ⟨λj hj=>KV _ _ _ (by omega) H j (by omega) hj,λj hj=>KU d _ _ (by omega) G j (by omega) hj⟩ (by omega) _ _ (by omega)
structure Nok(d:Dc)(n:Nt):Prop where
 lo:1<=n.id
 hi:n.id<=1099511627776
 t0:0<=n.tier
 t1:n.tier<d.tiers.length
 e:XM d n=0
structure Rgt(d:Dc):Prop where
 tiers:jH d.tiers=0
 len:0<=d.len/\d.len<=86400000
 few:d.notes.length<=300
 nok:∀ n∈d.notes,Nok d n
 inc:d.notes.Pairwise λa b=>a.id<b.id
 ter:∀ t:Nat,t<d.tiers.length->jL d t=0
theorem CJ(d:Dc):∀ (m i:Nat),i+m=d.notes.length->(∀ j,i<=j->j<d.notes.length->j6 d j=0)->qV d m i=0
 |0,i,h,_=>rfl
 |m+1,i,h,H=>by
  rw[KI,if_pos (by omega),if_pos (H i (Nat.le_refl _) (by omega))]
  exact CJ d m (i+1) (by omega) λj G h2=>H j (by omega) h2
theorem CL(d:Dc):∀ (m i:Nat),i+m=d.tiers.length->jM d m i=0->∀ j:Nat,i<=j->j<d.tiers.length->jL d j=0
 |0,i,h,_,j,H,h2=>by omega
 |m+1,i,h,G,j,H,h2=>by
  simp only[jM] at G;rw[if_pos (by omega)] at G
  by_cases F:jL d i=0
  .rw[if_pos F] at G
   rcases Nat.eq_or_lt_of_le H with e | e
   .rw[<-e];exact F
   .exact CL d m (i+1) (by omega) G j e h2
  .rw[if_neg F] at G;exact absurd G F
theorem CM(d:Dc):∀ (m i:Nat),i+m=d.tiers.length->(∀ j:Nat,i<=j->j<d.tiers.length->jL d j=0)->jM d m i=0
 |0,i,h,_=>rfl
 |m+1,i,h,H=>by
  simp only[jM];rw[if_pos (by omega),if_pos (H i (Nat.le_refl _) (by omega))]
  exact CM d m (i+1) (by omega) λj G h2=>H j (by omega) h2
theorem VM{d:Dc}{i:Nat}(hi:i<d.notes.length):j6 d i=0↔Nok d d.notes[i]/\(i≠0->(d.notes[i-1]?.getD default).id<d.notes[i].id):=by
 simp only[j6,List.getElem?_eq_getElem hi,Option.getD_some]
 constructor
 .intro h
  split at h
  .cases h
  .split at h
   .cases h
   .split at h
    .cases h
    .exact⟨⟨by omega,by omega,by omega,by omega,h⟩,λh0=>by omega⟩
 .rintro⟨⟨H,G,F,E,K⟩,J⟩
  rw[if_neg (by omega),if_neg (by rintro⟨a,b⟩;have:=J a;omega),if_neg (by omega)]
  exact K
theorem KZ{d:Dc}:(∀ i,i<d.notes.length->j6 d i=0)↔(∀ n∈d.notes,Nok d n)/\d.notes.Pairwise λa b=>a.id<b.id:=by
 constructor
 .intro h
  refine⟨λn hn=>?_,?_⟩
  .obtain⟨i,hi,rfl⟩:=List.mem_iff_getElem.1 hn
   exact((VM hi).1 (h i hi)).1
  .rw[List.pairwise_iff_getElem]
   have key:∀ (k i:Nat) (hj:i+k+1<d.notes.length),(d.notes[i]'(by omega)).id<(d.notes[i+k+1]'hj).id:=by
    intro k;induction k with
    |zero=>
     intro i hj;have:=((VM hj).1 (h _ hj)).2 (by omega)
     rw[Nat.add_sub_cancel,List.getElem?_eq_getElem (by omega)] at this
     exact this
    |succ k ih=>
     intro i hj;have a:=ih i (by omega)
     have:=((VM hj).1 (h _ hj)).2 (by omega)
     rw[Nat.add_sub_cancel,List.getElem?_eq_getElem (by omega)] at this
     exact Int.lt_trans a this
   intro i j hi hj H;obtain⟨k,rfl⟩:∃ k,j=i+k+1:=⟨j-i-1,by omega⟩
   exact key k i hj
 .rintro⟨G,F⟩ i hi
  rw[VM hi];refine⟨G _ (List.getElem_mem hi),λh0=>?_⟩
  rw[List.getElem?_eq_getElem (by omega)]
  exact List.pairwise_iff_getElem.1 F (i-1) i (by omega) hi (by omega)
theorem Rc{d:Dc}:KG d=0↔Rgt d:=by
 rw[CH]
 unfold wt
 constructor
 .intro h
  split at h
  .rename_i G;exact absurd h G
  .rename_i G
   split at h
   .cases h
   .split at h
    .cases h
    .split at h
     .rename_i F;exact absurd h F
     .rename_i F
      have H:qV d d.notes.length 0=0:=by simpa using F
      have E:=KZ.1 λi hi=>KU d _ _ (by omega) H i (by omega) hi
      exact⟨by simpa using G,by omega,by omega,E.1,E.2,λt K=>CL d _ _ (by omega) h t (by omega) K⟩
 .intro h
  rw[if_neg (by simpa using h.tiers),if_neg (by have:=h.len;omega),if_neg (by have:=h.few;omega)]
  have:=KZ.2 ⟨h.nok,h.inc⟩
  rw[CJ d _ _ (by omega) λj _ hj=>this j hj]
  rw[if_neg (by simp)]
  exact CM d _ _ (by omega) λj _ hj=>h.ter j hj
theorem Rgt.good{d:Dc}(h:Rgt d):Good d:=by
 refine⟨?_,KZ.2 ⟨h.nok,h.inc⟩⟩
 have H:=h.tiers
 unfold jH at H
 split at H
 .cases H
 .exact λj hj=>KV _ _ _ (by omega) H j (by omega) hj
theorem CN{d:Dc}{t:Int}:jL d t=0↔(∀ n∈zX d.notes t,k5 d t (zB d t).kind n=false)/\∀ n∈zX d.notes t,badR d t (zB d t).kind n=false:=by
 rw[Cr,<-XV,<-XV]
 have H:gy (zB d t).kind≠0:=by unfold gy;split <;> (try split) <;> omega
 cases (zX d.notes t).any (k5 d t (zB d t).kind) <;> cases (zX d.notes t).any (badR d t (zB d t).kind) <;> simp[H]
theorem U0{d:Dc}(h:Rgt d){a b:Nt}(H:a∈d.notes)(G:b∈d.notes)(e:a.id=b.id):a=b:=by
 obtain⟨i,hi,rfl⟩:=List.mem_iff_getElem.1 H
 obtain⟨j,hj,rfl⟩:=List.mem_iff_getElem.1 G
 have F:=List.pairwise_iff_getElem.1 h.inc
 rcases Nat.lt_trichotomy i j with E | rfl | E
 .have:=F i j hi hj E;omega
 .rfl
 .have:=F j i hj hi E;omega
theorem Zz{d:Dc}(h:Rgt d){n:Nt}(H:n∈d.notes):zy d.notes n.id=(n,true):=by
 unfold zy
 cases G:d.notes.find? λm=>decide (m.id=n.id) with
 |none=>rw[List.find?_eq_none] at G;exact absurd (G n H) (by simp)
 |some m=>
  have F:=List.mem_of_find?_eq_some G;have E:m.id=n.id:=by simpa using List.find?_some G
  rw[U0 h F H E]
end Go.V.Doc

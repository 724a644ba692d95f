/- Contracts and plain laws of this seat: part MB. It needs no conditions. -/
import Derived.Test.YtknekjalbninmaaGreatMA
import Derived.Test.YtknekjalbninmaaGreatU0
import Derived.Test.YtknekjalbninmaaGreatX9
import Derived.Test.YtknekjalbninmaaGreatProg
import Derived.KernelRfl
import Derived.Test.YtknekjalbninmaaGreatSh
import Derived.Test.YtknekjalbninmaaGreatSq
set_option maxHeartbeats 32000000
set_option linter.unusedVariables false
set_option linter.unusedSimpArgs false
set_option linter.unusedSectionVars false
set_option maxRecDepth 100000
namespace Go.V.Doc
open Go Go.Proofs
def zK(k:Int):Bool:=decide (k=0) || decide (k=1) || decide (k=2)
def X5(l:List Tir)(i:Int):Bool:=decide (0<=i)&&decide (i<l.length)&&zK (l[i.toNat]?.getD default).kind
def Z4(l:List Tir)(name:ByteArray):Bool:=l.any λt=>decide (t.name=name)
def wK(l:List Tir)(role:Int):Bool:=!decide (role=0)&&l.any λt=>decide (t.role=role)
def uH(pr tk tr:Int):Int:=
 if tr=1 then (if tk=0 then 0 else 14) else if tr=2 then (if pr=1 then 0 else 13) else if tr=3 then (if tk=3 then (if pr=2 then 0 else 13) else 14)
 else if tr=4 then (if tk=4 then (if pr=3 then 0 else 13) else 14) else if tr=5 then (if tk=4 then (if pr=1 then 0 else 13) else 14) else 0
def qe(before:List Tir)(t:Tir):Int:=
 if nameP t.name=false then 7 else if Z4 before t.name=true then 8 else if t.kind<0\/4<t.kind then 14 else if t.role<0\/5<t.role then 2
 else if wK before t.role=true then 8 else if t.kind=0 then (if t.par = -1 then uH (-1) t.kind t.role else 13)
 else if t.par<0\/before.length<=t.par then 13
 else if zK t.kind=true/\zK (before[t.par.toNat]?.getD default).kind=false then 13 else uH (before[t.par.toNat]?.getD default).role t.kind t.role
def uI(l:List Tir):Nat->Nat->Int
 |0,_=>0
 |n+1,i=>if h:i<l.length then (if qe (l.take i) l[i]=0 then uI l n (i+1) else qe (l.take i) l[i]) else 0
def jb(l:List Tir):Int:=if 12<l.length then 11 else uI l l.length 0
theorem uJ(k:Int):zj Tryz.prog 189 [int k] (.bool (zK k)):=by
 refine zn mixed Tryz.func189 rfl c_189 ?_
 by_cases H:k=0
 .subst H;simp+decide[Tryz.f189,int,zK]
 by_cases G:k=1
 .subst G;simp+decide[Tryz.f189,int,zK]
 by_cases h2:k=2
 .subst h2;simp+decide[Tryz.f189,int,zK]
 simp+decide[Tryz.f189,int,zK,H,G,h2]
def wL(r:Int):Int:=if r=1 then 0 else if r=3 then 3 else if r=4 then 4 else if r=5 then 4 else -1
def overR(r:Int):Int:=if r=2 then 1 else if r=5 then 1 else if r=3 then 2 else if r=4 then 3 else -1
theorem Ph(r:Int):zj Tryz.prog 190 [int r] (int (wL r)):=by
 refine zn mixed Tryz.func190 rfl c_190 ?_
 by_cases H:r=1
 .subst H;simp+decide[Tryz.f190,int,wL]
 by_cases G:r=3
 .subst G;simp+decide[Tryz.f190,int,wL]
 by_cases F:r=4
 .subst F;simp+decide[Tryz.f190,int,wL]
 by_cases E:r=5
 .subst E;simp+decide[Tryz.f190,int,wL]
 simp+decide[Tryz.f190,int,wL,H,G,F,E]
theorem Pj(r:Int):zj Tryz.prog 191 [int r] (int (overR r)):=by
 refine zn mixed Tryz.func191 rfl c_191 ?_
 by_cases h2:r=2
 .subst h2;simp+decide[Tryz.f191,int,overR]
 by_cases H:r=5
 .subst H;simp+decide[Tryz.f191,int,overR]
 by_cases G:r=3
 .subst G;simp+decide[Tryz.f191,int,overR]
 by_cases F:r=4
 .subst F;simp+decide[Tryz.f191,int,overR]
 simp+decide[Tryz.f191,int,overR,h2,H,G,F]
theorem Ww{α:Type}{l:List α}{p:α->Bool}{k:Nat}(h:k<l.length):(l.take (k+1)).any p=((l.take k).any p || p l[k]):=by
 rw[List.take_succ_eq_append_getElem h,List.any_append];simp
theorem Pm{pr tk tr:Int}(h:0<=tr/\tr<=5):uH pr tk tr=if 0<=wL tr/\¬tk=wL tr then 14 else if 0<=overR tr/\¬pr=overR tr then 13 else 0:=by
 rcases(by omega:tr=0\/tr=1\/tr=2\/tr=3\/tr=4\/tr=5) with rfl | rfl | rfl | rfl | rfl | rfl <;> simp[uH,wL,overR] <;> (repeat' split) <;> simp_all
theorem Pn(l:List Tir)(i:Nat)(hi:i<l.length)(Y:l.length<2^62)(hs:∀ t∈l,t.name.size<=9223372036854775807):zj Tryz.prog 131 [zw l,int i] (int (qe (l.take i) l[i])):=by
 refine zn mixed Tryz.func131 rfl c_131 ?_
 have V:(i:Int)<l.length:=by omega
 have ei:l[i]?=some l[i]:=List.getElem?_eq_getElem hi
 have F:(l.take i).length=i:=by rw[List.length_take];omega
 have Q:=hs _ (List.getElem_mem hi)
 obtain⟨t,et⟩:∃ t,l[i]=t:=⟨_,rfl⟩
 rw[et] at Q ei ⊢
 obtain⟨nm,kd,rl,pr⟩:=t
 simp+decide[Tryz.f131,zw,Tir.row,int,ei,et,hi,V]
 refine zg (Dj nm Q) ?_
 by_cases Z:nameP nm=true
 case neg=>simp+decide[Z,qe,int]
 simp+decide[Z,int]
 refine zm mixed (λk:Nat=>{n:=136,next:=1,slots:=[(0,.d (zw l)),(1,.d (int i)),(4,.d (int 0)),(5,.bp 0 0),(6,.d (.int .i64 k))],own:=[(0,.box 74 [.d (.str nm),.d (int kd),.d (int rl),.d (int pr)])]})
  (λk=>k<=i/\Z4 (l.take k) nm=false) (λk=>i-k) 0 (by simp[Z4]) (by simp+decide[zw,int]) ?_
 rintro k ⟨A,B⟩
 by_cases X:k<i
 .have H:(k:Int)<i:=by omega
  have L:k<l.length:=by omega
  have E:(k:Int)<l.length:=by omega
  have e1:l[k]?=some l[k]:=List.getElem?_eq_getElem L
  have M:Z4 (l.take (k+1)) nm=decide (l[k].name=nm):=by unfold Z4 at B ⊢;rw[Ww L,B,Bool.false_or]
  by_cases C:l[k].name=nm
  .have I:Z4 (l.take i) nm=true:=by
    unfold Z4;rw[List.any_eq_true];exact⟨l[k],by rw[List.mem_take_iff_getElem];exact⟨k,by omega,rfl⟩,by simp[C]⟩
   simp+decide[zw,Tir.row,int,e1,L,E,H,C,qe,Z,I]
  .simp+decide[zw,Tir.row,int,e1,L,E,H,C,I64]
   exact⟨by omega,k+1,⟨by omega,by rw[M];simp[C]⟩,by omega,by omega⟩
 have:k=i:=by omega
 subst this
 by_cases k1:kd<0
 .simp+decide[int,zw,k1,qe,Z,B]
 by_cases k2:4<kd
 .simp+decide[int,zw,k1,k2,qe,Z,B]
 by_cases r1:rl<0
 .simp+decide[int,zw,k1,k2,r1,qe,Z,B]
 by_cases r2:5<rl
 .simp+decide[int,zw,k1,k2,r1,r2,qe,Z,B]
 simp+decide[int,zw,k1,k2,r1,r2]
 refine zm mixed (λj:Nat=>{n:=136,next:=1,slots:=[(0,.d (zw l)),(1,.d (int k)),(4,.d (int 0)),(5,.bp 0 0),(7,.d (.int .i64 j))],own:=[(0,.box 74 [.d (.str nm),.d (int kd),.d (int rl),.d (int pr)])]})
  (λj=>j<=k/\wK (l.take j) rl=false) (λj=>k-j) 0 (by simp[wK]) (by simp+decide[zw,int]) ?_
 rintro j ⟨N,P⟩
 by_cases X:j<k
 .have H:(j:Int)<k:=by omega
  have J:j<l.length:=by omega
  have G:(j:Int)<l.length:=by omega
  have e1:l[j]?=some l[j]:=List.getElem?_eq_getElem J
  by_cases z:rl=0
  .subst z
   simp+decide[zw,Tir.row,int,e1,J,G,H,I64];exact⟨by omega,j+1,⟨by omega,by simp[wK]⟩,by omega,by omega⟩
  have M:wK (l.take (j+1)) rl=decide (l[j].role=rl):=by
   unfold wK at P ⊢;simp only[z,decide_false,Bool.not_false,Bool.true_and] at P ⊢;rw[Ww J,P,Bool.false_or]
  by_cases C:l[j].role=rl
  .have I:wK (l.take k) rl=true:=by
    unfold wK;simp only[z,decide_false,Bool.not_false,Bool.true_and];rw[List.any_eq_true];exact⟨l[j],by rw[List.mem_take_iff_getElem];exact⟨j,by omega,rfl⟩,by simp[C]⟩
   simp+decide[zw,Tir.row,int,e1,J,G,H,C,qe,Z,B,I,k1,k2,r1,r2,z]
  .simp+decide[zw,Tir.row,int,e1,J,G,H,C,I64,z]
   exact⟨by omega,j+1,⟨by omega,by rw[M];simp[C]⟩,by omega,by omega⟩
 have:j=k:=by omega
 subst this
 have S:qe (l.take j) ⟨nm,kd,rl,pr⟩=if kd=0 then (if pr = -1 then uH (-1) kd rl else 13) else if pr<0\/(j:Int)<=pr then 13 else if zK kd=true/\zK ((l.take j)[pr.toNat]?.getD default).kind=false then 13 else uH ((l.take j)[pr.toNat]?.getD default).role kd rl:=by
  simp only[qe];rw[if_neg (by simp[Z]),if_neg (by simp[B]),if_neg (by omega),if_neg (by omega),if_neg (by simp[P]),F]
 rw[S]
 simp only[Pm (show 0<=rl/\rl<=5 by omega)]
 clear S B P Z F
 have W:=Ph rl
 have hO:=Pj rl
 generalize wL rl=K at W ⊢
 generalize overR rl=O at hO ⊢
 by_cases k0:kd=0
 .subst k0
  by_cases p0:pr = -1
  case neg=>simp+decide[int,zw,Tir.row,p0]
  subst p0;have g4:0<=O->¬ -1=O:=by omega
  by_cases g2:0=K
  .subst g2
   by_cases g3:0<=O <;> (repeat first | refine scp W ?_ | refine scp hO ?_ | refine scp (uJ _) ?_ | refine zg (uJ _) ?_ | simp+decide[int,zw,Tir.row,g3,g4])
  by_cases g1:0<=K <;> by_cases g3:0<=O <;> (repeat first | refine scp W ?_ | refine scp hO ?_ | refine scp (uJ _) ?_ | refine zg (uJ _) ?_ | simp+decide[int,zw,Tir.row,g1,g2,g3,g4])
 by_cases p0:pr<0
 .simp+decide[int,zw,Tir.row,k0,p0]
 by_cases p1:(j:Int)<=pr
 .simp+decide[int,zw,Tir.row,k0,p0,p1]
 obtain⟨q,rfl⟩:∃ q:Nat,pr=q:=⟨pr.toNat,by omega⟩
 have C:q<l.length:=by omega
 have T:(q:Int)<l.length:=by omega
 obtain⟨u,eu'⟩:∃ u,l[q]=u:=⟨_,rfl⟩
 have eu:l[q]?=some u:=by rw[List.getElem?_eq_getElem C,eu']
 have et:(l.take j)[(q:Int).toNat]?=some u:=by rw[Int.toNat_natCast,List.getElem?_take,if_pos (by omega),eu]
 obtain⟨un,uk,ur,up⟩:=u
 rw[et]
 simp only[Option.getD_some]
 by_cases g2:kd=K
 .subst g2
  have g1:0<=kd:=by omega
  by_cases a1:zK kd=true <;> by_cases a2:zK uk=true <;> by_cases g3:0<=O <;> by_cases g4:ur=O <;>
   (repeat first | refine scp W ?_ | refine scp hO ?_ | refine scp (uJ _) ?_ | refine zg (uJ _) ?_ | simp+decide[int,zw,Tir.row,k0,p0,p1,C,T,eu,eu',a1,a2,g1,g3,g4])
 by_cases a1:zK kd=true <;> by_cases a2:zK uk=true <;> by_cases g1:0<=K <;> by_cases g3:0<=O <;> by_cases g4:ur=O <;>
  (repeat first | refine scp W ?_ | refine scp hO ?_ | refine scp (uJ _) ?_ | refine zg (uJ _) ?_ | simp+decide[int,zw,Tir.row,k0,p0,p1,C,T,eu,eu',a1,a2,g1,g2,g3,g4])
theorem Po(l:List Tir)(E:l.length<2^62)(hs:∀ t∈l,t.name.size<=9223372036854775807):zj Tryz.prog 79 [zw l] (int (jb l)):=by
 refine zn mixed Tryz.func79 rfl c_79 ?_
 by_cases K:12<l.length
 .have H:(12:Int)<l.length:=by omega
  simp+decide[Tryz.f79,zw,int,H,jb,K]
 have H:¬(12:Int)<l.length:=by omega
 simp+decide[Tryz.f79,zw,int,H,jb,K]
 refine zm mixed (λk:Nat=>{n:=20,next:=0,slots:=[(0,.d (zw l)),(3,.d (.int .i64 k))],own:=[]})
  (λk=>k<=l.length/\uI l l.length 0=uI l (l.length-k) k) (λk=>l.length-k) 0 (by simp) (by simp+decide[zw,int]) ?_
 intro k ⟨J,L⟩
 by_cases F:k<l.length
 .have G:(k:Int)<l.length:=by omega
  obtain⟨m,M⟩:∃ m,l.length-k=m+1:=⟨l.length-k-1,by omega⟩
  rw[M] at L;simp only[uI,dif_pos F] at L;simp+decide[zw,int,G];refine zg (Pn l k F E hs) ?_
  by_cases O:qe (l.take k) l[k]=0
  .rw[if_pos O] at L
   simp+decide[int,O,I64];exact⟨by omega,k+1,⟨by omega,by rw[L];congr 1;omega⟩,by omega,by simp[zw]⟩
  .rw[if_neg O] at L
   simp+decide[int,O,L]
 .have:k=l.length:=by omega
  subst this;rw[Nat.sub_self] at L;simp+decide[zw,int,L,uI]
end Go.V.Doc
namespace Go.V
open Go Go.Proofs
def Dq(inv:List Phon):Prop:=inv.length<=1048576/\∀ p∈inv,p.name.size<=1048576
theorem Pq(inv:List Phon)(hi:Dq inv):xy Tryz.prog 86 [.agg [zF inv]] V4:=by
 obtain⟨M,O⟩:=hi
 refine qb mixed Tryz.func86 rfl c_86 ?_
 by_cases Q:(60:Int)<inv.length
 .simp+decide[Tryz.f86,zF,Q]
 simp+decide[Tryz.f86,zF,Q]
 refine zm mixed (λk:Nat=>{n:=58,next:=1,slots:=[(1,.bp 0 0),(11,.d (int inv.length)),(12,.d (int k))],own:=[(0,.box 24 [.d (zF inv)])]})
  (λk=>k<=inv.length) (λk=>inv.length-k) 0 (by simp) (by simp+decide[int,zF]) ?_
 intro k T
 by_cases F:k<inv.length
 .have H:(k:Int)<inv.length:=by omega
  have J:=O inv[k] (List.getElem_mem F);obtain⟨x,ex⟩:∃ x,inv[k]=x:=⟨_,rfl⟩;have ex1:inv[k]?=some x:=by rw[List.getElem?_eq_getElem F,ex]
  rw[ex] at J;simp+decide[int,zF,F,H,ex,Phon.row];refine zC.some (by rfl) (Di x.name J) ?_
  rintro r ⟨b,rfl⟩
  cases b with
  |false=>simp+decide
  |true=>
   simp+decide
   refine zm mixed (λm:Nat=>{n:=58,next:=1,slots:=[(1,.bp 0 0),(3,.d (int k)),(4,.d (int m)),(11,.d (int inv.length)),(12,.d (int k))],own:=[(0,.box 24 [.d (zF inv)])]})
    (λm=>m<=k) (λm=>k-m) 0 (by simp) (by simp+decide[int,zF]) ?_
   intro m V;by_cases L:m<k
   .have G:(m:Int)<k:=by omega
    have K:m<inv.length:=by omega
    have E:(m:Int)<inv.length:=by omega
    obtain⟨y,ey⟩:∃ y,inv[m]=y:=⟨_,rfl⟩;have ey1:inv[m]?=some y:=by rw[List.getElem?_eq_getElem K,ey]
    by_cases b1:y.name=x.name
    .simp+decide[int,zF,G,K,E,F,H,ex,ey,Phon.row,b1]
    .simp+decide[int,zF,G,K,E,F,H,ex,ey,Phon.row,I64]
     exact λ_=>⟨⟨by omega,by omega⟩,m+1,L,by omega,by omega⟩
   .have G:¬(m:Int)<k:=by omega
    by_cases b1:x.feat<0
    .simp+decide[int,zF,G,F,H,ex,Phon.row,b1]
    .by_cases b2:65536<=x.feat
     .simp+decide[int,zF,G,F,H,ex,Phon.row,b1,b2]
     .simp+decide[int,zF,G,F,H,ex,Phon.row,b1,b2,I64]
      exact⟨⟨by omega,by omega⟩,k+1,F,by omega,by omega⟩
 .have H:¬(k:Int)<inv.length:=by omega
  simp+decide[int,zF,H]
def jn(l:List (List ByteArray)):List ByteArray:=l.flatten
def yC(l:List Int)(n:Int):Nat:=(l.takeWhile λx=>decide (x<n)).length
def vO(l:List Int)(n:Int):List Int:=l.take (yC l n)++[n]++(if l[yC l n]?=some n then l.drop (yC l n+1) else l.drop (yC l n))
theorem Wx{l:List Int}{n:Int}{k:Nat}(H:k<=l.length)(G:∀ x∈l.take k,x<n)(h2:∀ h:k<l.length,¬l[k]<n):yC l n=k:=by
 unfold yC
 have e:l=l.take k++l.drop k:=(List.take_append_drop k l).symm
 have F:(l.takeWhile λx=>decide (x<n))=l.take k:=by
  conv=>lhs;rw[e]
  rw[List.takeWhile_append_of_pos (by intro a E;simpa using G a E)]
  by_cases K:k<l.length
  .rw[List.drop_eq_getElem_cons K,List.takeWhile_cons_of_neg (by simpa using h2 K),List.append_nil]
  .rw[List.drop_eq_nil_of_le (by omega)];simp
 rw[F,List.length_take];omega
theorem Pv(l:List Int)(n:Int)(K:l.length<2^40):zj Tryz.prog 230 [ints l,int n] (ints (vO l n)):=by
 refine gA mixed Tryz.func230 rfl c_230 [1] ?_
 simp+decide[Tryz.f230,int,ints]
 refine zm mixed (λk:Nat=>{n:=51,next:=2,slots:=[(0,.d (ints l)),(1,.d (int n)),(5,.ar 1),(6,.d (int k))],own:=[(1,.arr 3 1 ((l.take k).map λx=>[int x]))],moved:=[1]})
  (λk=>k<=l.length/\∀ x∈l.take k,x<n) (λk=>l.length-k) 0 (by simp) (by simp+decide[int,ints]) ?_
 rintro k ⟨J,L⟩
 have E:(l.take k).length=k:=by rw[List.length_take];omega
 by_cases H:k<l.length
 .have G:(k:Int)<l.length:=by omega
  have em:l[k]?=some l[k]:=List.getElem?_eq_getElem H
  by_cases M:l[k]<n
  .simp+decide[int,ints,H,G,M,I64]
   refine⟨by omega,by unfold maxLen;omega,⟨by omega,by omega⟩,k+1,⟨H,λx F=>?_⟩,by omega,by omega,?_⟩
   .rw[yr H] at F
    rcases List.mem_append.1 F with h | h
    .exact L x h
    .rw[List.mem_singleton] at h;rw[h];exact M
   .rw[yr (by rw[List.length_map];exact H),List.getElem_map]
  .have O:vO l n=l.take k++[n]++(if l[k]?=some n then l.drop (k+1) else l.drop k):=by
    unfold vO;rw[Wx J L λ_=>M]
   rw[O,em];by_cases Q:l[k]=n
   .rw[if_pos (by rw[Q])]
    simp+decide[int,ints,H,G,Q,I64];refine⟨by omega,by unfold maxLen;omega,⟨by omega,by omega⟩,⟨by omega,by omega⟩,λr T=>?_,by omega,by unfold maxLen;omega,?_⟩
    .have:=List.mem_of_mem_take (List.mem_of_mem_drop T)
     rw[List.mem_map] at this;obtain⟨z,_,rfl⟩:=this;rfl
    .rw[List.take_of_length_le (by simp)]
   .rw[if_neg (by simpa using Q)]
    simp+decide[int,ints,H,G,M,Q];refine⟨by omega,by unfold maxLen;omega,by omega,λr T=>?_,by omega,by unfold maxLen;omega,?_⟩
    .have:=List.mem_of_mem_take (List.mem_of_mem_drop T)
     rw[List.mem_map] at this;obtain⟨z,_,rfl⟩:=this;rfl
    .rw[List.take_of_length_le (by simp)]
 .have:k=l.length:=by omega
  subst this;have O:vO l n=l.take l.length++[n]++[]:=by
   unfold vO;rw[Wx J L λh=>absurd h (by omega)]
   simp
  rw[O];simp+decide[int,ints];exact⟨by omega,by unfold maxLen;omega,by omega,by unfold maxLen;omega⟩
theorem Px(l:List Int)(n:Int):yC l n<=l.length:=(List.takeWhile_sublist _).length_le
theorem Dt{p:Int->Bool}:∀ {l:List Int} {x:Int},x∈l.takeWhile p->p x=true
 | [],x,h=>by cases h
 |a::r,x,h=>by
  by_cases e:p a=true
  .rw[List.takeWhile_cons_of_pos e] at h
   rcases List.mem_cons.1 h with rfl | h
   .exact e
   .exact Dt h
  .rw[List.takeWhile_cons_of_neg e] at h;cases h
theorem Du(l:List Int)(n:Int):∀ x∈l.take (yC l n),x<n:=by
 intro x H
 have:l.take (yC l n)=l.takeWhile λx=>decide (x<n):=by
  unfold yC;have:=List.takeWhile_prefix (l:=l) λx=>decide (x<n)
  exact(List.prefix_iff_eq_take.1 this).symm
 rw[this] at H
 simpa using Dt H
theorem Dv{l:List Int}{n:Int}(h:yC l n<l.length):¬l[yC l n]<n:=by
 intro H
 have e1:(l.takeWhile λx=>decide (x<n))++(l.dropWhile λx=>decide (x<n))=l:=List.takeWhile_append_dropWhile
 cases G:l.dropWhile λx=>decide (x<n) with
 |nil=>
  rw[G,List.append_nil] at e1;have:yC l n=l.length:=by unfold yC;rw[e1]
  omega
 |cons y r=>
  have F:=List.head_dropWhile_not (λx=>decide (x<n)) (by rw[G];simp:l.dropWhile (λx=>decide (x<n))≠[])
  simp only[G,List.head_cons,decide_eq_false_iff_not] at F;have e0:∀ A B:List Int,B=y::r->(A++B)[A.length]?=some y:=by
   intro A B h;rw[h,List.getElem?_append_right (Nat.le_refl _),Nat.sub_self];rfl
  have e3:=e0 (l.takeWhile λx=>decide (x<n)) _ G
  rw[e1] at e3;change l[yC l n]?=some y at e3
  rw[List.getElem?_eq_getElem h] at e3;have:=Option.some.inj e3
  rw[this] at H;exact F H
theorem Dw{l:List Int}(hs:l.Pairwise λx y=>x<y)(n:Int):∀ x,x∈(if l[yC l n]?=some n then l.drop (yC l n+1) else l.drop (yC l n))↔x∈l/\n<x:=by
 intro x
 have K:=List.pairwise_iff_getElem.1 hs
 have H:x∈l->n<x->x∈l.drop (yC l n):=λL M=>by
  have F:=L;rw[<-List.take_append_drop (yC l n) l] at F;rcases List.mem_append.1 F with h | h
  .have:=Du l n x h;omega
  .exact h
 by_cases G:yC l n<l.length
 .have J:=Dv G
  have E:∀ y∈l.drop (yC l n+1),l[yC l n]<y:=λy O=>by
   obtain⟨i,hi,rfl⟩:=List.mem_iff_getElem.1 O;rw[List.length_drop] at hi;rw[List.getElem_drop];exact K _ _ G (by omega) (by omega)
  rw[List.getElem?_eq_getElem G];by_cases e:l[yC l n]=n
  .rw[if_pos (by rw[e])]
   constructor
   .intro L
    have:=E x L
    exact⟨List.mem_of_mem_drop L,by omega⟩
   .rintro⟨L,M⟩
    have:=H L M
    rw[List.drop_eq_getElem_cons G] at this;rcases List.mem_cons.1 this with h | h
    .omega
    .exact h
  .rw[if_neg (by simpa using e)]
   constructor
   .intro L
    refine⟨List.mem_of_mem_drop L,?_⟩
    rw[List.drop_eq_getElem_cons G] at L;rcases List.mem_cons.1 L with h | h
    .omega
    .have:=E x h;omega
   .rintro⟨L,M⟩;exact H L M
 .have Q:l.drop (yC l n)=[]:=List.drop_eq_nil_of_le (by omega)
  rw[List.getElem?_eq_none (by omega),if_neg (by simp),Q]
  constructor
  .intro h;cases h
  .rintro⟨L,M⟩
   have:=H L M
   rwa [Q] at this
theorem Py{l:List Int}(hs:l.Pairwise λx y=>x<y){n x:Int}:x∈vO l n↔x=n\/x∈l:=by
 unfold vO
 rw[List.mem_append,List.mem_append,List.mem_singleton,Dw hs]
 constructor
 .rintro((h | h) | h)
  .exact .inr (List.mem_of_mem_take h)
  .exact .inl h
  .exact .inr h.1
 .rintro(h | h)
  .exact .inl (.inr h)
  .rcases Int.lt_trichotomy x n with q | q | q
   .have F:=h
    rw[<-List.take_append_drop (yC l n) l] at F;rcases List.mem_append.1 F with h2 | h2
    .exact .inl (.inl h2)
    .exfalso
     have H:=List.pairwise_iff_getElem.1 hs;obtain⟨i,hi,rfl⟩:=List.mem_iff_getElem.1 h2;rw[List.length_drop] at hi;rw[List.getElem_drop] at q;have G:=Dv (l:=l) (n:=n) (by omega)
     rcases Nat.eq_zero_or_pos i with rfl | hi0
     .exact G q
     .have:=H (yC l n) (yC l n+i) (by omega) (by omega) (by omega)
      omega
   .exact .inl (.inr q)
   .exact .inr ⟨h,q⟩
theorem Pz{l:List Int}(hs:l.Pairwise λx y=>x<y)(n:Int):(vO l n).Pairwise λx y=>x<y:=by
 unfold vO
 rw[List.pairwise_append,List.pairwise_append]
 have H:=Du l n
 have G:=λx=>(Dw hs n x).1
 refine⟨⟨hs.sublist (List.take_sublist _ _),by simp,λa F b E=>?_⟩,?_,λa F b E=>?_⟩
 .rw[List.mem_singleton] at E;rw[E];exact H a F
 .split
  .exact hs.sublist (List.drop_sublist _ _)
  .exact hs.sublist (List.drop_sublist _ _)
 .have K:=(G b E).2
  rcases List.mem_append.1 F with h | h
  .have:=H a h;omega
  .rw[List.mem_singleton] at h;omega
def sortL(l:List Int):List Int:=l.foldl vO []
theorem Dx(l:List Int)(n:Int):sortL (l++[n])=vO (sortL l) n:=by unfold sortL;rw[List.foldl_append];rfl
theorem PD{l:List Int}(hs:l.Pairwise λx y=>x<y)(n:Int):(vO l n).length=l.length+(if n∈l then 0 else 1):=by
 have F:=Px l n
 have H:n∈l↔l[yC l n]?=some n:=by
  constructor
  .intro E
   obtain⟨k,K,ek⟩:=List.mem_iff_getElem.1 E;have G:=List.pairwise_iff_getElem.1 hs;have:yC l n=k:=by
    refine Wx (Nat.le_of_lt K) (λx J=>?_) (λh=>by rw[ek];omega)
    obtain⟨i,hi,rfl⟩:=List.mem_iff_getElem.1 J;rw[List.length_take] at hi;rw[List.getElem_take,<-ek];exact G i k (by omega) K (by omega)
   rw[this,List.getElem?_eq_getElem K,ek]
  .intro h;exact List.mem_of_getElem? h
 unfold vO
 by_cases h:l[yC l n]?=some n
 .rw[if_pos h,if_pos (H.2 h)]
  have:yC l n<l.length:=by
   rcases Nat.lt_or_ge (yC l n) l.length with L | L
   .exact L
   .rw[List.getElem?_eq_none L] at h;cases h
  simp;omega
 .rw[if_neg h,if_neg (λL=>h (H.1 L))]
  simp;omega
theorem Wy:∀ (m:Nat) (l:List Int),l.length=m->(sortL l).Pairwise (λx y=>x<y)/\(∀ x,x∈sortL l↔x∈l)/\(sortL l).length<=l.length/\((sortL l).length=l.length->l.Nodup)
 |0,l,h=>by
  have:l=[]:=List.length_eq_zero_iff.mp h
  subst this;exact⟨List.Pairwise.nil,λx=>Iff.rfl,Nat.le_refl _,λ_=>List.nodup_nil⟩
 |m+1,l,h=>by
  have H:l≠[]:=by intro e;subst e;cases h
  obtain⟨a,n,rfl⟩:∃ a n,l=a++[n]:=⟨l.dropLast,l.getLast H,(List.dropLast_concat_getLast H).symm⟩;have G:a.length=m:=by simpa using h
  obtain⟨F,h2,E,K⟩:=Wy m a G;rw[Dx];have J:=PD F n;refine⟨Pz F n,λx=>?_,?_,λhe=>?_⟩
  .rw[Py F,h2,List.mem_append,List.mem_singleton]
   exact Or.comm
  .rw[J,List.length_append];split <;> simp <;> omega
  .rw[J,List.length_append] at he
   simp only[List.length_singleton] at he;by_cases L:n∈sortL a
   .rw[if_pos L] at he;omega
   .rw[if_neg L] at he
    rw[List.nodup_append];refine⟨K (by omega),by simp,λx M y hy=>?_⟩
    rw[List.mem_singleton] at hy;subst hy;intro e;subst e;exact L ((h2 x).2 M)
theorem PE{l:List Int}(h:(sortL l).length=l.length):l.Nodup:=(Wy _ l rfl).2.2.2 h
theorem PG(l:List Int):(sortL l).length<=l.length:=(Wy _ l rfl).2.2.1
theorem Wz(l:List Int)(E:l.length<2^40):zj Tryz.prog 198 [ints l] (ints (sortL l)):=by
 refine zn mixed Tryz.func198 rfl c_198 ?_
 simp+decide[Tryz.f198,ints]
 refine UW [1] ?_
 refine zm mixed (λk:Nat=>{n:=18,next:=2,slots:=[(0,.d (ints l)),(3,.d (ints (sortL (l.take k)))),(6,.d (int l.length)),(7,.d (int k))],own:=[],moved:=[]})
  (λk=>k<=l.length) (λk=>l.length-k) 0 (by simp) (by simp+decide[int,ints,sortL]) ?_
 intro k K
 by_cases H:k<l.length
 case neg=>
  have:k=l.length:=by omega
  subst this;rw[List.take_length];simp+decide[int,ints]
 have G:(k:Int)<l.length:=by omega
 have hsn:sortL (l.take (k+1))=vO (sortL (l.take k)) l[k]:=by rw[yr H,Dx]
 have F:=PG (l.take k)
 rw[List.length_take] at F
 obtain⟨n,en⟩:∃ n,l[k]=n:=⟨_,rfl⟩
 have e1:l[k]?=some n:=by rw[List.getElem?_eq_getElem H,en]
 rw[en] at hsn
 have J:=Pv (sortL (l.take k)) n (by omega)
 rw[<-hsn] at J
 simp+decide[int,ints,H,G,en]
 refine zg J ?_
 simp+decide[ints]
 exact⟨⟨by omega,by omega⟩,k+1,H,by omega,rfl,by omega⟩
def wM(inv:List Phon)(r:Rule)(k:Nat):Bool:=!(xQ inv (r.src[k]?.getD 0)) || (decide (r.dst[k]?.getD 0≠0) && !(xQ inv (r.dst[k]?.getD 0)))
def uK(inv:List Phon)(r:Rule):Int:=
 if r.src.length=0\/r.dst.length≠r.src.length then 1 else if ((List.range r.src.length).any λk=>wM inv r k)=true then 19
 else if (sortL r.src).length≠r.src.length then 8 else if 2<r.left.length\/2<r.right.length then 5 else 0
theorem PH(inv:List Phon)(r:Rule)(hs:r.src.length<=1048576)(Y:r.dst.length<=1048576):zj Tryz.prog 147 [.agg [zF inv],.agg r.row] (int (uK inv r)):=by
 obtain⟨src,dst,left,right,beg,fin⟩:=r
 simp only at hs Y
 have Z:=Wz src (by omega)
 refine zn mixed Tryz.func147 rfl c_147 ?_
 obtain⟨R,A⟩:∃ R,uK inv ⟨src,dst,left,right,beg,fin⟩=R:=⟨_,rfl⟩
 rw[A]
 unfold uK at A
 simp only at A
 by_cases B:src.length=0
 .have:R=1:=by rw[<-A,if_pos (.inl B)]
  subst this;have V:(src.length:Int)=0:=by omega
  simp+decide[Tryz.f147,int,ints,Rule.row,B];done
 have V:¬(src.length:Int)=0:=by omega
 by_cases C:dst.length=src.length
 case neg=>
  have:R=1:=by rw[<-A,if_pos (.inr C)]
  subst this;have Q:¬(dst.length:Int)=src.length:=by omega
  simp+decide[Tryz.f147,int,ints,Rule.row,B,Q];done
 have Q:(dst.length:Int)=src.length:=by omega
 rw[if_neg (by rintro(h | h);exact B h;exact h C)] at A
 simp+decide[Tryz.f147,int,ints,Rule.row,B,C]
 refine zm mixed (λk:Nat=>{n:=70,next:=2,slots:=[(2,.bp 0 0),(3,.bp 1 0),(21,.d (int src.length)),(22,.d (int k))],own:=[(0,.box 24 [.d (zF inv)]),(1,.box 90 [.d (ints src),.d (ints dst),.d (j4 left),.d (j4 right),.d (.bool beg),.d (.bool fin)])]})
  (λk=>k<=src.length/\∀ j,j<k->wM inv ⟨src,dst,left,right,beg,fin⟩ j=false) (λk=>src.length-k) 0 (by simp) (by simp+decide[int,ints]) ?_
 intro k ⟨I,N⟩
 by_cases F:k<src.length
 .have J:(k:Int)<src.length:=by omega
  have L:k<dst.length:=by omega
  have E:(k:Int)<dst.length:=by omega
  obtain⟨x,ex⟩:∃ x,src[k]=x:=⟨_,rfl⟩;obtain⟨y,ey⟩:∃ y,dst[k]=y:=⟨_,rfl⟩;have ex1:src[k]?=some x:=by rw[List.getElem?_eq_getElem F,ex]
  have ey1:dst[k]?=some y:=by rw[List.getElem?_eq_getElem L,ey]
  have P:=W7 inv x;have S:=W7 inv y;have X:wM inv ⟨src,dst,left,right,beg,fin⟩ k=(!(xQ inv x) || (decide (y≠0) && !(xQ inv y))):=by unfold wM;simp only;rw[ex1,ey1];rfl
  have G:wM inv ⟨src,dst,left,right,beg,fin⟩ k=true->R=19:=by
   intro h;rw[<-A,if_pos (List.any_eq_true.2 ⟨k,List.mem_range.2 F,h⟩)]
  have H:wM inv ⟨src,dst,left,right,beg,fin⟩ k=false->∀ j,j<k+1->wM inv ⟨src,dst,left,right,beg,fin⟩ j=false:=by
   intro h j W;rcases Nat.lt_succ_iff_lt_or_eq.mp W with h' | h'
   .exact N j h'
   .rw[h'];exact h
  rw[X] at G H;simp+decide[int,ints,F,J,ex];refine scp P ?_
  cases hx:xQ inv x with
  |false=>
   rw[hx] at G;have:=G rfl
   subst this;simp+decide
  |true=>
   rw[hx] at G H;by_cases hy:y=0
   .rw[decide_eq_false (by simpa using hy)] at H
    have hg:=H rfl;simp+decide[L,E,ey,hy,I64];exact⟨⟨by omega,by omega⟩,k+1,⟨F,hg⟩,by omega,by omega⟩
   .rw[decide_eq_true (by simpa using hy)] at H G
    simp+decide[L,E,ey,hy];refine scp S ?_
    cases hz:xQ inv y with
    |false=>
     rw[hz] at G;have:=G rfl
     subst this;simp+decide
    |true=>
     rw[hz] at H;have hg:=H rfl;simp+decide[I64];exact⟨⟨by omega,by omega⟩,k+1,⟨F,hg⟩,by omega,by omega⟩
 .have:k=src.length:=by omega
  subst this;have M:((List.range src.length).any λk=>wM inv ⟨src,dst,left,right,beg,fin⟩ k)=false:=by
   rw[List.any_eq_false];intro j W;rw[N j (List.mem_range.1 W)];decide
  rw[if_neg (by rw[M];decide)] at A
  simp+decide[int,ints];refine scp Z ?_
  by_cases hn:(sortL src).length=src.length
  .have T:((sortL src).length:Int)=src.length:=by omega
   rw[if_neg (by simpa using hn)] at A
   by_cases hl:2<left.length
   .have K:(2:Int)<left.length:=by omega
    rw[if_pos (.inl hl)] at A;subst A;simp+decide[ints,j4,hn,K]
   .have K:¬(2:Int)<left.length:=by omega
    by_cases hr:2<right.length
    .have O:(2:Int)<right.length:=by omega
     rw[if_pos (.inr hr)] at A;subst A;simp+decide[ints,j4,hn,K,O]
    .have O:¬(2:Int)<right.length:=by omega
     rw[if_neg (by rintro(h | h);exact hl h;exact hr h)] at A
     subst A;simp+decide[ints,j4,hn,K,O]
  .have T:¬((sortL src).length:Int)=src.length:=by omega
   rw[if_pos (by simpa using hn)] at A
   subst A;simp+decide[ints,j4,T]
theorem PI{inv:List Phon}{r:Rule}(h:uK inv r=0)(hs:r.src.length<=1048576):RuleL r:=by
 unfold uK at h
 split at h
 .cases h
 rename_i F
 split at h
 .cases h
 split at h
 .cases h
 rename_i E
 split at h
 .cases h
 rename_i K
 have H:r.dst.length=r.src.length:=Classical.byContradiction λe=>F (.inr e)
 have G:(sortL r.src).length=r.src.length:=Classical.byContradiction λe=>E e
 exact {src:=by omega,left:=by omega,right:=by omega,dst:=H,once:=PE G }
def V7(inv:List Phon)(r:Rule):Prop:=∀ x∈r.dst,x=0\/xQ inv x=true
theorem PK{inv:List Phon}{r:Rule}(h:uK inv r=0):V7 inv r:=by
 unfold uK at h
 split at h
 .cases h
 rename_i G
 split at h
 .cases h
 rename_i h2
 have H:r.dst.length=r.src.length:=Classical.byContradiction λe=>G (.inr e)
 intro x F
 obtain⟨k,E,ek⟩:=List.mem_iff_getElem.1 F
 have K:((List.range r.src.length).any λk=>wM inv r k)=false:=by simpa using h2
 rw[List.any_eq_false] at K
 have J:=K k (List.mem_range.2 (by omega))
 unfold wM at J
 rw[List.getElem?_eq_getElem E,ek,Option.getD_some] at J
 by_cases L:x=0
 .exact .inl L
 .right
  cases hs:xQ inv x with
  |true=>rfl
  |false=>rw[hs] at J;simp[L] at J
structure RulesC(rs:List Rule):Prop where
 few:rs.length<=1048576
 each:∀ r∈rs,r.src.length<=1048576/\r.dst.length<=1048576
theorem PL(g:Lang)(E:RulesC g.rules):xy Tryz.prog 88 [g.d] (λx=>∃ e,x=int e/\(e=0->∀ r∈g.rules,RuleL r/\V7 g.inv r)):=by
 have F:=E.few
 refine qb mixed Tryz.func88 rfl c_88 ?_
 by_cases K:(12:Int)<g.rules.length
 .simp+decide[Tryz.f88,Lang.d,int,xC,K]
 simp+decide[Tryz.f88,Lang.d,int,xC,K]
 refine zm mixed (λk:Nat=>{n:=27,next:=1,slots:=[(1,.bp 0 0),(3,.d (int k))],own:=[(0,.box 36 (yi g.d))]})
  (λk=>k<=g.rules.length/\∀ r∈g.rules.take k,RuleL r/\V7 g.inv r) (λk=>g.rules.length-k) 0 (by simp) (by simp+decide[int,xC,yi,Lang.d]) ?_
 intro k ⟨J,L⟩
 by_cases H:k<g.rules.length
 .have G:(k:Int)<g.rules.length:=by omega
  have M:=E.each g.rules[k] (List.getElem_mem H);obtain⟨r,er⟩:∃ r,g.rules[k]=r:=⟨_,rfl⟩;have er1:g.rules[k]?=some r:=by rw[List.getElem?_eq_getElem H,er]
  have hsn:=yr H;rw[er] at M hsn;have O:=PH g.inv r M.1 M.2;simp+decide[int,xC,yi,Lang.d,H,G,er,Rule.row];refine scp O ?_
  by_cases Q:uK g.inv r=0
  .rw[Q]
   simp+decide[int,I64];refine⟨⟨by omega,by omega⟩,k+1,⟨H,λx T=>?_⟩,by omega,by omega⟩
   rw[hsn] at T;rcases List.mem_append.1 T with h | h
   .exact L x h
   .rw[List.mem_singleton] at h;rw[h];exact⟨PI Q M.1,PK Q⟩
  .simp+decide[int,Q]
 .have:k=g.rules.length:=by omega
  subst this;rw[List.take_length] at L;simp+decide[int,xC,yi,Lang.d];exact L
theorem WA(n:Nett)(q:Int):zj Tryz.prog 148 [.agg n.cells,int q] (.bool (decide (0<=q/\q<n.states))):=by
 refine zn mixed Tryz.func148 rfl c_148 ?_
 by_cases H:0<=q
 .simp+decide[Tryz.f148,int,Nett.cells,H]
 .simp+decide[Tryz.f148,int,Nett.cells,H]
def Dy(n:Nett)(s:Stp):Prop:=(0<=s.src/\s.src<n.states)/\(0<=s.dst/\s.dst<n.states)/\1<=s.cls/\s.cls<=20
structure NetF(n:Nett):Prop where
 lo:1<=n.states
 steps:∀ s∈n.steps,Dy n s
 final:∀ q∈n.final,0<=q/\q<n.states
theorem PN(n:Nett)(hs:n.steps.length<=1048576)(Y:n.final.length<=1048576):xy Tryz.prog 89 [.agg n.cells] (λx=>∃ e,x=int e/\(e=0->NetF n)):=by
 refine qb mixed Tryz.func89 rfl c_89 ?_
 by_cases Z:n.states<1
 .simp+decide[Tryz.f89,int,Nett.cells,Z]
 by_cases A:24<n.states
 .simp+decide[Tryz.f89,int,Nett.cells,Z,A]
 by_cases h2:(200:Int)<n.steps.length
 .simp+decide[Tryz.f89,int,Nett.cells,stepsD,Z,A,h2]
 simp+decide[Tryz.f89,int,Nett.cells,stepsD,Z,A,h2]
 refine zm mixed (λk:Nat=>{n:=98,next:=1,slots:=[(1,.bp 0 0),(3,.d (int k))],own:=[(0,.box 33 (n.cells.map .d))]})
  (λk=>k<=n.steps.length/\∀ s∈n.steps.take k,Dy n s) (λk=>n.steps.length-k) 0 (by simp) (by simp+decide[int,ints,stepsD,Nett.cells]) ?_
 intro k ⟨B,C⟩
 by_cases E:k<n.steps.length
 .have J:(k:Int)<n.steps.length:=by omega
  obtain⟨x,ex⟩:∃ x,n.steps[k]=x:=⟨_,rfl⟩;have ex1:n.steps[k]?=some x:=by rw[List.getElem?_eq_getElem E,ex]
  have hsn:=yr E;rw[ex] at hsn;have I:=WA n x.src;have N:=WA n x.dst;simp+decide[int,ints,stepsD,Nett.cells,E,J,ex,Stp.row];refine zg I ?_
  by_cases a1:0<=x.src/\x.src<n.states
  case neg=>simp+decide[a1]
  simp+decide[a1];refine zg N ?_
  by_cases a2:0<=x.dst/\x.dst<n.states
  case neg=>simp+decide[a2]
  by_cases a3:x.cls<1
  .simp+decide[a2,a3]
  by_cases a4:20<x.cls
  .simp+decide[a2,a3,a4]
  simp+decide[a2,a3,a4];refine zm mixed (λm:Nat=>{n:=98,next:=2,slots:=[(1,.bp 0 0),(3,.d (int k)),(4,.bp 1 0),(5,.d (int m))],own:=[(0,.box 33 (n.cells.map .d)),(1,.box 156 (x.row.map .d))]})
   (λm=>m<=k) (λm=>k-m) 0 (by simp) (by simp+decide[int,ints,stepsD,Nett.cells,Stp.row]) ?_
  intro m P;by_cases X:m<k
  .have G:(m:Int)<k:=by omega
   have T:m<n.steps.length:=by omega
   have L:(m:Int)<n.steps.length:=by omega
   obtain⟨y,ey⟩:∃ y,n.steps[m]=y:=⟨_,rfl⟩;have ey1:n.steps[m]?=some y:=by rw[List.getElem?_eq_getElem T,ey]
   simp+decide[int,ints,stepsD,Nett.cells,G,T,L,ey,Stp.row,I64];exact λ_=>⟨⟨by omega,by omega⟩,m+1,X,by omega,by omega⟩
  .have G:¬(m:Int)<k:=by omega
   simp+decide[int,ints,stepsD,Nett.cells,G,I64];refine⟨⟨by omega,by omega⟩,k+1,⟨E,λs V=>?_⟩,by omega,by omega⟩
   rw[hsn] at V;rcases List.mem_append.1 V with h | h
   .exact C s h
   .rw[List.mem_singleton] at h;rw[h];exact⟨a1,a2,by omega,by omega⟩
 .have:k=n.steps.length:=by omega
  subst this;rw[List.take_length] at C;simp+decide[int,ints,stepsD,Nett.cells];refine zm mixed (λk:Nat=>{n:=98,next:=1,slots:=[(1,.bp 0 0),(6,.d (int ((k:Int)+1)))],own:=[(0,.box 33 (n.cells.map .d))]})
   (λk=>k<=n.final.length) (λk=>n.final.length-k) 0 (by simp) (by simp+decide[int,ints,stepsD,Nett.cells]) ?_
  intro i hi;by_cases M:i+1<n.final.length
  .have H:(i:Int)+1<n.final.length:=by omega
   have O:i<n.final.length:=by omega
   have F:(i:Int)<n.final.length:=by omega
   obtain⟨u,eu⟩:∃ u,n.final[i+1]=u:=⟨_,rfl⟩;have eu1:n.final[i+1]?=some u:=by rw[List.getElem?_eq_getElem M,eu]
   obtain⟨v,ev⟩:∃ v,n.final[i]=v:=⟨_,rfl⟩;have ev1:n.final[i]?=some v:=by rw[List.getElem?_eq_getElem O,ev]
   have t1:((i:Int)+1).toNat=i+1:=by omega
   have t2:0<=(i:Int)+1:=by omega
   by_cases b1:u<=v
   .simp+decide[int,ints,stepsD,Nett.cells,M,H,O,F,eu,ev,t1,t2,b1,I64]
    omega
   .simp+decide[int,ints,stepsD,Nett.cells,M,H,O,F,eu,ev,t1,t2,b1,I64]
    exact⟨by omega,⟨by omega,by omega⟩,i+1,by omega,by omega,by omega⟩
  .have H:¬(i:Int)+1<n.final.length:=by omega
   simp+decide[int,ints,stepsD,Nett.cells,H];refine zm mixed (λk:Nat=>{n:=98,next:=1,slots:=[(1,.bp 0 0),(7,.d (int k))],own:=[(0,.box 33 (n.cells.map .d))]})
    (λk=>k<=n.final.length/\∀ q∈n.final.take k,0<=q/\q<n.states) (λk=>n.final.length-k) 0 (by simp) (by simp+decide[int,ints,stepsD,Nett.cells]) ?_
   intro j ⟨S,W⟩;by_cases K:j<n.final.length
   .have Q:(j:Int)<n.final.length:=by omega
    obtain⟨u,eu⟩:∃ u,n.final[j]=u:=⟨_,rfl⟩;have eu1:n.final[j]?=some u:=by rw[List.getElem?_eq_getElem K,eu]
    have hsn:=yr K;rw[eu] at hsn;have hC:=WA n u;simp+decide[int,ints,stepsD,Nett.cells,K,Q,eu];refine scp hC ?_
    by_cases a1:0<=u/\u<n.states
    .simp+decide[a1,I64]
     refine⟨⟨by omega,by omega⟩,j+1,⟨K,λq P=>?_⟩,by omega,by omega⟩
     rw[hsn] at P;rcases List.mem_append.1 P with h | h
     .exact W q h
     .rw[List.mem_singleton] at h;rw[h];exact a1
    .simp+decide[a1]
   .have:j=n.final.length:=by omega
    subst this;rw[List.take_length] at W;simp+decide[int,ints,stepsD,Nett.cells];exact⟨by omega,C,W⟩
def jD(n:Int):Bool:=decide (1<=n/\n<=1099511627776)
theorem X6(n:Int):zj Tryz.prog 117 [int n] (.bool (jD n)):=by
 refine zn mixed Tryz.func117 rfl c_117 ?_
 by_cases H:1<=n
 .simp+decide[Tryz.f117,int,jD,H]
 .simp+decide[Tryz.f117,int,jD,H]
def kK(inv:List Phon)(w:List Int):Int:=if w.length=0 then 4 else if 24<w.length then 5 else if (w.all λx=>xQ inv x)=true then 0 else 19
theorem Dz(inv:List Phon)(w:List Int)(J:w.length<=1048576):zj Tryz.prog 231 [.agg [zF inv],ints w] (int (kK inv w)):=by
 refine zn mixed Tryz.func231 rfl c_231 ?_
 obtain⟨R,L⟩:∃ R,kK inv w=R:=⟨_,rfl⟩
 rw[L]
 unfold kK at L
 by_cases M:w.length=0
 .rw[if_pos M] at L
  subst L;have K:(w.length:Int)=0:=by omega
  simp+decide[Tryz.f231,int,ints,M];done
 rw[if_neg M] at L
 have K:¬(w.length:Int)=0:=by omega
 by_cases O:24<w.length
 .rw[if_pos O] at L
  subst L;have F:(24:Int)<w.length:=by omega
  simp+decide[Tryz.f231,int,ints,M,F];done
 rw[if_neg O] at L
 have F:¬(24:Int)<w.length:=by omega
 simp+decide[Tryz.f231,int,ints,M,F]
 refine zm mixed (λk:Nat=>{n:=25,next:=1,slots:=[(1,.d (ints w)),(2,.bp 0 0),(13,.d (int w.length)),(14,.d (int k))],own:=[(0,.box 24 [.d (zF inv)])]})
  (λk=>k<=w.length/\∀ x∈w.take k,xQ inv x=true) (λk=>w.length-k) 0 (by simp) (by simp+decide[int,ints]) ?_
 intro k ⟨Q,T⟩
 by_cases H:k<w.length
 .have E:(k:Int)<w.length:=by omega
  have G:=List.getElem_mem H;obtain⟨x,ex⟩:∃ x,w[k]=x:=⟨_,rfl⟩;have ex1:w[k]?=some x:=by rw[List.getElem?_eq_getElem H,ex]
  have hsn:=yr H;rw[ex] at hsn G;simp+decide[int,ints,H,E,ex];refine scp (W7 inv x) ?_
  cases hs:xQ inv x with
  |false=>
   have:¬(w.all λx=>xQ inv x)=true:=by
    rw[List.all_eq_true];intro h;rw[h x G] at hs;cases hs
   rw[if_neg this] at L;subst L;simp+decide
  |true=>
   simp+decide
   refine⟨⟨by omega,by omega⟩,k+1,⟨H,λy V=>?_⟩,by omega,by omega⟩
   rw[hsn] at V;rcases List.mem_append.1 V with h | h
   .exact T y h
   .rw[List.mem_singleton] at h;rw[h];exact hs
 .have:k=w.length:=by omega
  subst this;rw[List.take_length] at T;rw[if_pos (List.all_eq_true.2 T)] at L;subst L;simp+decide[int,ints]
structure WordF(inv:List Phon)(w:List Int):Prop where
 pos:1<=w.length
 len:w.length<=24
 segs:∀ x∈w,xQ inv x=true
theorem DC{inv:List Phon}{w:List Int}(h:kK inv w=0):WordF inv w:=by
 unfold kK at h
 split at h
 .cases h
 split at h
 .cases h
 split at h
 .rename_i H;exact⟨by omega,by omega,List.all_eq_true.1 H⟩
 .cases h
structure EntC(e:Ent):Prop where
 form:e.form.length<=1048576
 alts:e.alts.length<=1048576/\∀ w∈e.alts,w.length<=1048576
 senses:e.senses.length<=1048576/\∀ s∈e.senses,s.gloss.size<=1048576/\s.defn.size<=1048576
 links:e.links.length<=1048576
 refs:e.refs.length<=1048576
structure WordsF(inv:List Phon)(e:Ent):Prop where
 id:jD e.id=true
 form:WordF inv e.form
 cls:1<=e.cls/\e.cls<=20
 alts:∀ w∈e.alts,WordF inv w
theorem PO(inv:List Phon)(e:Ent)(V:EntC e):xy Tryz.prog 199 [.agg [zF inv],.agg e.row] (λx=>∃ n,x=int n/\(n=0->WordsF inv e)):=by
 have M:=V.form
 have T:=V.alts.1
 refine qb mixed Tryz.func199 rfl c_199 ?_
 simp+decide[Tryz.f199,int,Ent.row]
 refine zg (X6 e.id) ?_
 cases hid:jD e.id with
 |false=>simp+decide
 |true=>
  simp+decide
  refine zg (Dz inv e.form M) ?_
  by_cases X:kK inv e.form=0
  case neg=>simp+decide[int,X]
  by_cases c1:e.cls<1
  .simp+decide[int,X,c1]
  by_cases c2:20<e.cls
  .simp+decide[int,X,c1,c2]
  by_cases c3:(3:Int)<e.alts.length
  .simp+decide[int,X,xq,c1,c2,c3]
  simp+decide[int,X,xq,c1,c2,c3];refine zm mixed (λk:Nat=>{n:=73,next:=2,slots:=[(2,.bp 0 0),(3,.bp 1 0),(6,.d (int k))],own:=[(0,.box 24 [.d (zF inv)]),(1,.box 102 (e.row.map .d))]})
   (λk=>k<=e.alts.length/\∀ w∈e.alts.take k,WordF inv w) (λk=>e.alts.length-k) 0 (by simp) (by simp+decide[int,ints,Ent.row,xq]) ?_
  intro k ⟨Y,Z⟩;by_cases H:k<e.alts.length
  .have G:(k:Int)<e.alts.length:=by omega
   have J:=V.alts.2 e.alts[k] (List.getElem_mem H);obtain⟨w,ew⟩:∃ w,e.alts[k]=w:=⟨_,rfl⟩;have ew1:e.alts[k]?=some w:=by rw[List.getElem?_eq_getElem H,ew]
   have hsn:=yr H;rw[ew] at hsn J;simp+decide[int,ints,xq,Ent.row,H,G,ew];refine scp (Dz inv w J) ?_
   by_cases A:kK inv w=0
   case neg=>simp+decide[int,A]
   simp+decide[int,A,H,G,ew];refine scp (D7 w e.form (by omega) (by omega)) ?_
   by_cases hs:w=e.form
   .simp+decide[hs]
   simp+decide[hs];refine zm mixed (λm:Nat=>{n:=73,next:=2,slots:=[(2,.bp 0 0),(3,.bp 1 0),(6,.d (int k)),(8,.d (int m))],own:=[(0,.box 24 [.d (zF inv)]),(1,.box 102 (e.row.map .d))]})
    (λm=>m<=k) (λm=>k-m) 0 (by simp) (by simp+decide[int,ints,Ent.row,xq]) ?_
   intro m B;by_cases O:m<k
   .have F:(m:Int)<k:=by omega
    have E:m<e.alts.length:=by omega
    have K:(m:Int)<e.alts.length:=by omega
    have Q:=V.alts.2 e.alts[m] (List.getElem_mem E);obtain⟨y,ey⟩:∃ y,e.alts[m]=y:=⟨_,rfl⟩;have ey1:e.alts[m]?=some y:=by rw[List.getElem?_eq_getElem E,ey]
    rw[ey] at Q;simp+decide[int,ints,xq,Ent.row,F,E,K,H,G,ew,ey];refine scp (D7 w y (by omega) (by omega)) ?_
    by_cases L:w=y
    .simp+decide[L]
    .simp+decide[L,I64]
     exact⟨⟨by omega,by omega⟩,m+1,O,by omega,by omega⟩
   .have F:¬(m:Int)<k:=by omega
    simp+decide[int,ints,xq,Ent.row,F,I64];refine⟨⟨by omega,by omega⟩,k+1,⟨H,λy C=>?_⟩,by omega,by omega⟩
    rw[hsn] at C;rcases List.mem_append.1 C with h | h
    .exact Z y h
    .rw[List.mem_singleton] at h;rw[h];exact DC A
  .have:k=e.alts.length:=by omega
   subst this;rw[List.take_length] at Z;simp+decide[int,ints,xq,Ent.row];exact⟨hid,DC X,⟨by omega,by omega⟩,Z⟩
def kL(f:Nat->Bool)(s:ByteArray):Bool:=(List.range s.size).all λk=>f (zp s k)
theorem V8{f:Nat->Bool}{s:ByteArray}{k:Nat}(H:k<s.size)(h:f (zp s k)=false):kL f s=false:=by
 unfold kL;rw[List.all_eq_false];exact⟨k,List.mem_range.2 H,by rw[h];decide⟩
theorem DD{f:Nat->Bool}{s:ByteArray}(h:∀ j,j<s.size->f (zp s j)=true):kL f s=true:=by
 unfold kL;rw[List.all_eq_true];intro j H;exact h j (List.mem_range.1 H)
theorem DF{p:Nat->Prop}{k:Nat}(h:∀ j,j<k->p j)(H:p k):∀ j,j<k+1->p j:=by
 intro j G
 rcases Nat.lt_succ_iff_lt_or_eq.mp G with F | F
 .exact h j F
 .rw[F];exact H
def uL(b:Nat):Bool:=decide (¬b<32)&&decide (¬b=127)
def yR(s:ByteArray):Bool:=kL uL s&&((xe s s.size 0).isSome&&decide (1<=s.size)&&decide (s.size<=32))
theorem DG(s:ByteArray)(hs:s.size<=1048576):zj Tryz.prog 142 [.str s] (.bool (yR s)):=by
 refine zn mixed Tryz.func142 rfl c_142 ?_
 simp+decide[Tryz.f142,int]
 refine zm mixed (λk:Nat=>{n:=38,next:=0,slots:=[(0,.d (.str s)),(3,.d (int k))],own:=[]})
  (λk=>k<=s.size/\∀ j,j<k->uL (zp s j)=true) (λk=>s.size-k) 0 (by simp) (by simp+decide[int]) ?_
 intro k ⟨E,K⟩
 by_cases G:k<s.size
 .have H:(k:Int)<s.size:=by omega
  have e1:byteAt s (k:Int)=(zp s k:Int):=uG s k
  by_cases b1:(zp s k:Int)<32
  .have:yR s=false:=by unfold yR;rw[V8 G (by simp[uL];omega)];rfl
   rw[this];simp+decide[int,G,H,e1,b1]
  .by_cases b2:(zp s k:Int)=127
   .have:yR s=false:=by unfold yR;rw[V8 G (by simp[uL];omega)];rfl
    rw[this];simp+decide[int,G,H,e1,b1,b2]
   .have J:=DF K (show uL (zp s k)=true by simp[uL];omega)
    simp+decide[int,G,H,e1,b1,b2,I64];exact⟨⟨by omega,by omega⟩,k+1,⟨G,J⟩,by omega,by omega⟩
 .have H:¬(k:Int)<s.size:=by omega
  have F:kL uL s=true:=DD λj L=>K j (by omega)
  simp+decide[int,H];refine zg (V2 s hs) ?_
  unfold yR;rw[F];cases K:xe s s.size 0 with
  |none=>simp+decide[j9,int]
  |some l=>
   by_cases c1:1<=s.size
   .have c1':(1:Int)<=s.size:=by omega
    simp+decide[j9,int,ints,c1,c1'];try omega
   .have c1':¬(1:Int)<=s.size:=by omega
    simp+decide[j9,int,ints,c1,c1']
def Z5(b:Nat):Bool:=decide (¬b=32)&&decide (¬b=45)
def kM(s:ByteArray):Bool:=kL Z5 s&&yR s
theorem PP(s:ByteArray)(hs:s.size<=1048576):zj Tryz.prog 262 [.str s] (.bool (kM s)):=by
 refine zn mixed Tryz.func262 rfl c_262 ?_
 simp+decide[Tryz.f262,int]
 refine zm mixed (λk:Nat=>{n:=22,next:=0,slots:=[(0,.d (.str s)),(3,.d (int k))],own:=[]})
  (λk=>k<=s.size/\∀ j,j<k->Z5 (zp s j)=true) (λk=>s.size-k) 0 (by simp) (by simp+decide[int]) ?_
 intro k ⟨E,K⟩
 by_cases G:k<s.size
 .have H:(k:Int)<s.size:=by omega
  have e1:byteAt s (k:Int)=(zp s k:Int):=uG s k
  by_cases b1:(zp s k:Int)=32
  .have:kM s=false:=by unfold kM;rw[V8 G (by simp[Z5];omega)];rfl
   rw[this];simp+decide[int,G,H,e1,b1]
  .by_cases b2:(zp s k:Int)=45
   .have:kM s=false:=by unfold kM;rw[V8 G (by simp[Z5];omega)];rfl
    rw[this];simp+decide[int,G,H,e1,b1,b2]
   .have J:=DF K (show Z5 (zp s k)=true by simp[Z5];omega)
    simp+decide[int,G,H,e1,b1,b2,I64];exact⟨⟨by omega,by omega⟩,k+1,⟨G,J⟩,by omega,by omega⟩
 .have H:¬(k:Int)<s.size:=by omega
  have F:kL Z5 s=true:=DD λj L=>K j (by omega)
  simp+decide[int,H];refine zg (DG s hs) ?_
  unfold kM;rw[F];simp+decide[int]
def xN(p:Int):Bool:=decide (p<32) || decide (p=127)
def X7(s:ByteArray):Int:=if 200<s.size then 5 else match xe s s.size 0 with
 |none=>3
 |some l=>if l.any xN=true then 3 else 0
theorem PQ(s:ByteArray):zj Tryz.prog 132 [.str s] (int (X7 s)):=by
 refine zn mixed Tryz.func132 rfl c_132 ?_
 unfold X7
 by_cases K:200<s.size
 .have F:(200:Int)<s.size:=by omega
  simp+decide[Tryz.f132,F,K,int]
 have F:¬(200:Int)<s.size:=by omega
 simp+decide[Tryz.f132,F,K,int]
 refine zg (V2 s (by omega)) ?_
 cases J:xe s s.size 0 with
 |none=>simp+decide[j9,int]
 |some l=>
  have E:l.length<=s.size:=Wu s _ _ _ J
  simp+decide[j9,ints,int];refine zm mixed (λk:Nat=>{n:=34,next:=0,slots:=[(3,.d (ints l)),(5,.d (int k))],own:=[]})
   (λk=>k<=l.length/\∀ x∈l.take k,xN x=false) (λk=>l.length-k) 0 (by simp) (by simp+decide[int,ints]) ?_
  intro k ⟨L,M⟩;by_cases H:k<l.length
  .have e1:l[k]?=some l[k]:=List.getElem?_eq_getElem H
   have G:xN l[k]=true->l.any xN=true:=λO=>List.any_eq_true.2 ⟨l[k],List.getElem_mem H,O⟩
   by_cases b1:l[k]<32
   .have O:=G (by simp[xN,b1])
    simp+decide[ints,int,e1,H,b1];exact List.any_eq_true.1 O
   .by_cases b2:l[k]=127
    .have O:=G (by simp[xN,b2])
     simp+decide[ints,int,e1,H,b1,b2];exact List.any_eq_true.1 O
    .simp+decide[ints,int,e1,H,b1,b2,I64]
     refine⟨by omega,k+1,⟨H,?_⟩,by omega,by omega⟩
     rw[List.take_succ_eq_append_getElem H];intro x Q;rcases List.mem_append.1 Q with Q | Q
     .exact M x Q
     .simp at Q;rw[Q];simp[xN,b1,b2]
  .have:k=l.length:=by omega
   subst this;rw[List.take_length] at M;have O:l.any xN=false:=by rw[List.any_eq_false];intro x Q;simp[M x Q]
   simp+decide[ints,int];exact M
def ZN(l:List Sens)(s:ByteArray):Bool:=l.any λx=>decide (x.gloss=s)
theorem PR(l:List Sens)(s:ByteArray)(E:l.length<2^40):zj Tryz.prog 263 [zV l,.str s] (.bool (ZN l s)):=by
 refine zn mixed Tryz.func263 rfl c_263 ?_
 simp+decide[Tryz.f263,int,zV]
 refine zm mixed (λk:Nat=>{n:=19,next:=0,slots:=[(0,.d (zV l)),(1,.d (.str s)),(5,.d (int k))],own:=[]})
  (λk=>k<=l.length/\∀ x∈l.take k,¬x.gloss=s) (λk=>l.length-k) 0 (by simp) (by simp+decide[int,zV]) ?_
 intro k ⟨K,J⟩
 by_cases H:k<l.length
 .have G:(k:Int)<l.length:=by omega
  have F:=List.getElem_mem H;have hsn:=yr H;obtain⟨x,ex⟩:∃ x,l[k]=x:=⟨_,rfl⟩;have e1:l[k]?=some x:=by rw[List.getElem?_eq_getElem H,ex]
  rw[ex] at F hsn;by_cases b1:x.gloss=s
  .have:ZN l s=true:=List.any_eq_true.2 ⟨x,F,by simpa using b1⟩
   rw[this];simp+decide[int,zV,Sens.row,H,G,e1,ex,b1]
  .simp+decide[int,zV,Sens.row,H,G,e1,ex,b1,I64]
   first | refine⟨λh=>absurd (bytes_inj h) b1,λ_=>⟨⟨by omega,by omega⟩,k+1,⟨H,λy L=>?_⟩,by omega,by omega⟩⟩ | refine⟨⟨by omega,by omega⟩,k+1,⟨H,λy L=>?_⟩,by omega,by omega⟩
   rw[hsn] at L;rcases List.mem_append.1 L with h | h
   .exact J y h
   .rw[List.mem_singleton] at h;rw[h];exact b1
 .have:k=l.length:=by omega
  subst this;rw[List.take_length] at J;have:ZN l s=false:=by unfold ZN;rw[List.any_eq_false];intro x M;simpa using J x M
  rw[this];simp+decide[int,zV]
def Z6(l:List Sens)(s:Sens):Int:=if kM s.gloss=false then 7 else if X7 s.defn≠0 then X7 s.defn else if ZN l s.gloss=true then 8 else 0
theorem WB(l:List Sens)(s:Sens)(H:l.length<2^40)(hs:s.gloss.size<=1048576):zj Tryz.prog 232 [zV l,.agg s.row] (int (Z6 l s)):=by
 refine zn mixed Tryz.func232 rfl c_232 ?_
 have G:=PR l s.gloss H
 unfold Z6
 simp+decide[Tryz.f232,int,Sens.row]
 refine zg (PP s.gloss hs) ?_
 cases F:kM s.gloss with
 |false=>simp+decide[int]
 |true=>
  simp+decide[int];refine zg (PQ s.defn) ?_
  by_cases E:X7 s.defn=0
  case neg=>simp+decide[int,E]
  simp+decide[int,E];generalize ZN l s.gloss=b at G ⊢;refine zg G ?_
  cases b <;> simp+decide[int]
theorem WC{l:List Sens}{s:Sens}(h:Z6 l s=0):yR s.gloss=true:=by
 unfold Z6 at h
 split at h
 .cases h
 .rename_i hg
  rw[Bool.not_eq_false] at hg;unfold kM at hg;rw[Bool.and_eq_true] at hg;exact hg.2
theorem WE{l:List Sens}{k:Nat}(H:k<l.length)(h:∀ s∈l.take k,yR s.gloss=true)(hs:yR l[k].gloss=true):∀ s∈l.take (k+1),yR s.gloss=true:=by
 rw[List.take_succ_eq_append_getElem H]
 intro s G
 rcases List.mem_append.1 G with G | G
 .exact h s G
 .rw[List.mem_singleton] at G;rw[G];exact hs
theorem WG{l:List Sens}{k:Nat}(H:k<=l.length)(G:¬k<l.length)(h:∀ s∈l.take k,yR s.gloss=true):∀ s∈l,yR s.gloss=true:=by
 rw[List.take_of_length_le (by omega)] at h;exact h
theorem PS(e:Ent)(O:EntC e):xy Tryz.prog 200 [.agg e.row] (λx=>∃ n,x=int n/\(n=0->((e.senses≠[]\/e.main≠0)/\e.senses.length<=5)/\∀ s∈e.senses,yR s.gloss=true)):=by
 have M:=O.senses.1
 refine qb mixed Tryz.func200 rfl c_200 ?_
 by_cases Q:e.main=0
 .by_cases h2:e.main=e.id
  .have K:e.id=0:=by omega
   simp+decide[Tryz.f200,int,Ent.row,Q,K]
  have K:¬0=e.id:=by omega
  by_cases T:(5:Int)<e.senses.length
  .simp+decide[Tryz.f200,int,Ent.row,zV,Q,K,T]
  by_cases V:(e.senses.length:Int)=0
  .simp+decide[Tryz.f200,int,Ent.row,zV,Q,K,T,V]
  simp+decide[Tryz.f200,int,Ent.row,zV,Q,K,T,V];intro L;refine zm mixed (λk:Nat=>{n:=52,next:=1,slots:=[(1,.bp 0 0),(3,.d (int k))],own:=[(0,.box 102 (e.row.map .d))]})
   (λk=>k<=e.senses.length/\∀ s∈e.senses.take k,yR s.gloss=true) (λk=>e.senses.length-k) 0 (by simp) (by simp+decide[int,ints,Ent.row,zV,Q]) ?_
  intro k ⟨X,F⟩;by_cases G:k<e.senses.length
  .have H:(k:Int)<e.senses.length:=by omega
   have E:=O.senses.2 e.senses[k] (List.getElem_mem G);obtain⟨s,es⟩:∃ s,e.senses[k]=s:=⟨_,rfl⟩;have es1:e.senses[k]?=some s:=by rw[List.getElem?_eq_getElem G,es]
   rw[es] at E;have Y:=WB (e.senses.take k) s (by rw[List.length_take];omega) E.1
   have eS:zV (e.senses.take k) = .sl ((e.senses.map Sens.row).take k):=by simp[zV,List.map_take]
   rw[eS] at Y;have J:∀ a∈e.senses,a.row.length=2:=λa _=>rfl
   simp+decide[int,ints,zV,Ent.row,G,H,es,es1];refine⟨by omega,J,by rfl,by simp[Sens.row],?_⟩
   refine scp Y ?_
   by_cases Z:Z6 (e.senses.take k) s=0
   case neg=>simp+decide[int,Z]
   rw[Z];simp+decide[int,ints,zV,Ent.row,I64];exact⟨⟨by omega,by omega⟩,k+1,⟨G,WE G F (by rw[es];exact WC Z)⟩,by omega,by omega⟩
  .have H:¬(k:Int)<e.senses.length:=by omega
   simp+decide[int,ints,zV,Ent.row,H];exact⟨⟨L,by omega⟩,WG X G F⟩
 .simp+decide[Tryz.f200,int,Ent.row,zV,Q]
  refine zg (X6 e.main) ?_
  cases hid:jD e.main with
  |false=>simp+decide[int]
  |true=>
   by_cases h2:e.main=e.id
   .simp+decide[int,h2]
   by_cases T:(5:Int)<e.senses.length
   .simp+decide[int,zV,h2,T]
   by_cases V:(e.senses.length:Int)=0
   .simp+decide[int,zV,Q,h2,T,V]
    refine zm mixed (λk:Nat=>{n:=52,next:=1,slots:=[(1,.bp 0 0),(3,.d (int k))],own:=[(0,.box 102 (e.row.map .d))]})
     (λk=>k<=e.senses.length/\∀ s∈e.senses.take k,yR s.gloss=true) (λk=>e.senses.length-k) 0 (by simp) (by simp+decide[int,ints,Ent.row,zV,Q]) ?_
    intro k ⟨X,F⟩;by_cases G:k<e.senses.length
    .have H:(k:Int)<e.senses.length:=by omega
     have E:=O.senses.2 e.senses[k] (List.getElem_mem G);obtain⟨s,es⟩:∃ s,e.senses[k]=s:=⟨_,rfl⟩;have es1:e.senses[k]?=some s:=by rw[List.getElem?_eq_getElem G,es]
     rw[es] at E;have Y:=WB (e.senses.take k) s (by rw[List.length_take];omega) E.1
     have eS:zV (e.senses.take k) = .sl ((e.senses.map Sens.row).take k):=by simp[zV,List.map_take]
     rw[eS] at Y;have J:∀ a∈e.senses,a.row.length=2:=λa _=>rfl
     simp+decide[int,ints,zV,Ent.row,G,H,es,es1];refine⟨by omega,J,by rfl,by simp[Sens.row],?_⟩
     refine scp Y ?_
     by_cases Z:Z6 (e.senses.take k) s=0
     case neg=>simp+decide[int,Z]
     rw[Z];simp+decide[int,ints,zV,Ent.row,I64];exact⟨⟨by omega,by omega⟩,k+1,⟨G,WE G F (by rw[es];exact WC Z)⟩,by omega,by omega⟩
    .have H:¬(k:Int)<e.senses.length:=by omega
     simp+decide[int,ints,zV,Ent.row,H];exact⟨by omega,WG X G F⟩
   .have L:¬e.senses=[]:=by intro h;rw[h] at V;simp at V
    simp+decide[int,zV,Q,h2,T,V,L];refine zm mixed (λk:Nat=>{n:=52,next:=1,slots:=[(1,.bp 0 0),(3,.d (int k))],own:=[(0,.box 102 (e.row.map .d))]})
     (λk=>k<=e.senses.length/\∀ s∈e.senses.take k,yR s.gloss=true) (λk=>e.senses.length-k) 0 (by simp) (by simp+decide[int,ints,Ent.row,zV,Q]) ?_
    intro k ⟨X,F⟩;by_cases G:k<e.senses.length
    .have H:(k:Int)<e.senses.length:=by omega
     have E:=O.senses.2 e.senses[k] (List.getElem_mem G);obtain⟨s,es⟩:∃ s,e.senses[k]=s:=⟨_,rfl⟩;have es1:e.senses[k]?=some s:=by rw[List.getElem?_eq_getElem G,es]
     rw[es] at E;have Y:=WB (e.senses.take k) s (by rw[List.length_take];omega) E.1
     have eS:zV (e.senses.take k) = .sl ((e.senses.map Sens.row).take k):=by simp[zV,List.map_take]
     rw[eS] at Y;have J:∀ a∈e.senses,a.row.length=2:=λa _=>rfl
     simp+decide[int,ints,zV,Ent.row,G,H,es,es1];refine⟨by omega,J,by rfl,by simp[Sens.row],?_⟩
     refine scp Y ?_
     by_cases Z:Z6 (e.senses.take k) s=0
     case neg=>simp+decide[int,Z]
     rw[Z];simp+decide[int,ints,zV,Ent.row,I64];exact⟨⟨by omega,by omega⟩,k+1,⟨G,WE G F (by rw[es];exact WC Z)⟩,by omega,by omega⟩
    .have H:¬(k:Int)<e.senses.length:=by omega
     simp+decide[int,ints,zV,Ent.row,H];exact⟨by omega,WG X G F⟩
end Go.V
namespace Go.V.Doc
open Go Go.Proofs
end Go.V.Doc
namespace Go.V.Doc
open Go Go.Proofs Go.Lib
theorem PT{s:ByteArray}{pos:Nat}(h:pos<s.size):validD (s.data.toList.drop pos)=match wH s pos with
  |none=>false
  |some r=>validD (s.data.toList.drop (pos+r.2)):=by
 have H:s.size=s.data.toList.length:=by rw[Array.length_toList];rfl
 have G:s.data.toList.drop pos≠[]:=by
  intro e;have:=congrArg List.length e;rw[List.length_drop] at this;simp at this;omega
 have F:decodeL (s.data.toList.drop pos)=decodeN (s.size-pos) (zp s pos) (zp s (pos+1)) (zp s (pos+2)) (zp s (pos+3)):=by
  rw[decodeL_N,List.length_drop,<-H,getD_dropU,getD_dropU,getD_dropU,getD_dropU];rfl
 rw[validD_step _ G,F]
 have E:=V0 h
 cases K:wH s pos with
 |none=>rw[K] at E;simp only at E;rw[E];simp
 |some r=>
  rw[K] at E;simp only at E;obtain⟨J,h2,_,_⟩:=E;rw[J,if_neg h2,List.drop_drop]
theorem PU(n b0 b1 b2 b3:Nat)(H:b0<256)(G:b1<256)(h2:b2<256)(F:b3<256)(E:¬((decodeN n b0 b1 b2 b3).1=65533/\(decodeN n b0 b1 b2 b3).2=1)):
  (decodeN n b0 b1 b2 b3=(b0,1))\/(128<=(decodeN n b0 b1 b2 b3).1/\128<=b0/\(1<(decodeN n b0 b1 b2 b3).2->128<=b1)/\(2<(decodeN n b0 b1 b2 b3).2->128<=b2)/\(3<(decodeN n b0 b1 b2 b3).2->128<=b3)/\(decodeN n b0 b1 b2 b3).2<=4):=by
 revert E
 unfold decodeN
 repeat' split
 all_goals intro E
 all_goals first | (left;rfl) | (exfalso;exact E ⟨rfl,rfl⟩) | (right;simp only;refine⟨by omega,by omega,λ_=>by omega,λ_=>by omega,λ_=>by omega,by omega⟩)
theorem PV{s:ByteArray}{pos:Nat}(h:pos<s.size){r:Nat×Nat}(H:wH s pos=some r):
  xN (r.1:Int)=true↔∃ j,pos<=j/\j<pos+r.2/\badByte (zp s j)=true:=by
 have G:=V0 h
 rw[H] at G
 simp only at G
 obtain⟨F,h2,E,K⟩:=G
 have J:=PU (s.size-pos) (zp s pos) (zp s (pos+1)) (zp s (pos+2)) (zp s (pos+3)) (UInt8.toNat_lt _) (UInt8.toNat_lt _) (UInt8.toNat_lt _) (UInt8.toNat_lt _) (by rw[F];exact h2)
 rw[F] at J
 rcases J with J | ⟨g1,g2,g3,g4,g5,g6⟩
 .rw[J]
  simp only[xN,badByte,Bool.or_eq_true,decide_eq_true_eq];constructor
  .intro hb;exact⟨pos,by omega,by omega,by omega⟩
  .rintro⟨j,a,b,c⟩
   obtain rfl:j=pos:=by omega
   omega
 .simp only[xN,badByte,Bool.or_eq_true,decide_eq_true_eq]
  constructor
  .intro hb;omega
  .rintro⟨j,a,b,c⟩
   exfalso
   have L:j=pos\/j=pos+1\/j=pos+2\/j=pos+3:=by omega
   rcases L with rfl | rfl | rfl | rfl
   .omega
   .have:=g3 (by omega);omega
   .have:=g4 (by omega);omega
   .have:=g5 (by omega);omega
theorem WH(s:ByteArray):∀ (m pos:Nat),s.size<=pos+m->pos<=s.size->validD (s.data.toList.drop pos)=(xe s m pos).isSome /\
  ∀ l,xe s m pos=some l->(l.any xN=true↔∃ j,pos<=j/\j<s.size/\badByte (zp s j)=true)
 |0,pos,F,hp=>by
  have H:s.size=s.data.toList.length:=by rw[Array.length_toList];rfl
  rw[List.drop_eq_nil_of_le (by omega),validD_nil]
  refine⟨rfl,λl E=>?_⟩
  simp only[xe,Option.some.injEq] at E;subst E;simp only[List.any_nil,Bool.false_eq_true,false_iff];rintro⟨j,_,_,_⟩;omega
 |m+1,pos,F,hp=>by
  have H:s.size=s.data.toList.length:=by rw[Array.length_toList];rfl
  by_cases h:pos<s.size
  .rw[PT h]
   simp only[xe,if_pos h];have K:=V0 h;cases J:wH s pos with
   |none=>exact⟨rfl,λl E=>by cases E⟩
   |some r=>
    rw[J] at K;simp only at K
    obtain⟨i1,i2⟩:=WH s m (pos+r.2) (by omega) (by omega)
    simp only
    refine⟨by rw[i1];cases xe s m (pos+r.2) <;> rfl,λl E=>?_⟩
    rw[Option.map_eq_some_iff] at E;obtain⟨l',G,rfl⟩:=E;rw[List.any_cons,Bool.or_eq_true,i2 l' G,PV h J];constructor
    .rintro(⟨j,a,b,c⟩ | ⟨j,a,b,c⟩)
     .exact⟨j,by omega,by omega,c⟩
     .exact⟨j,by omega,b,c⟩
    .rintro⟨j,a,b,c⟩
     rcases Nat.lt_or_ge j (pos+r.2) with L | L
     .exact .inl ⟨j,a,L,c⟩
     .exact .inr ⟨j,L,b,c⟩
  .rw[List.drop_eq_nil_of_le (by omega),validD_nil]
   simp only[xe,if_neg h];refine⟨rfl,λl E=>?_⟩
   simp only[Option.some.injEq] at E;subst E;simp only[List.any_nil,Bool.false_eq_true,false_iff];rintro⟨j,_,_,_⟩;omega
theorem PW(s:ByteArray):textE s=if 200<s.size then 5 else match xe s s.size 0 with
  |none=>3
  |some l=>if l.any xN=true then 3 else 0:=by
 unfold textE
 split
 .rfl
 .obtain⟨H,h2⟩:=WH s s.size 0 (by omega) (by omega)
  rw[List.drop_zero] at H;have G:Wv s=(xe s s.size 0).isSome:=H
  rw[G];cases F:xe s s.size 0 with
  |none=>rfl
  |some l=>
   simp only[Option.isSome_some,if_true];have:=h2 l F
   have E:V5 s=true↔l.any xN=true:=by
    rw[this];unfold V5;rw[List.any_eq_true];constructor
    .rintro⟨j,K,E⟩;exact⟨j,by omega,by simpa using K,E⟩
    .rintro⟨j,_,K,E⟩;exact⟨j,by simpa using K,E⟩
   by_cases h:l.any xN=true
   .rw[if_pos h,if_pos (E.2 h)]
   .rw[if_neg h,if_neg (λJ=>h (E.1 J))]
end Go.V.Doc
namespace Go.V
open Go Go.Proofs
def PX(P:Program)(f:Nat):Bool:=match P.funcs[f]? with
 |some fn=>match fn.resultTypes.toList with
  | [T]=>(match TI.of P T with
   |some ⟨.int _,_,_,_,_⟩=>true
   |some ⟨.bool,_,_,_,_⟩=>true
   |some ⟨.str,_,_,_,_⟩=>true
   |_=>false)
  |_=>false
 |none=>false
def WI(P:Program)(f:Nat):Option (Nat×Code×List ResultVar):=match P.funcs[f]? with
 |some fn=>match fn.body with
  |some c=>some (fn.ntmps,c,fn.results.toList)
  |none=>none
 |none=>none
def DI(P:Program):XG:=⟨λt=>TI.of P t,λt=>Zm P t,λt=>eqKinds P t,WI P,PX P,λ_=>none,λ_=>none,λ_=>false⟩
def WJ(P:Program):Bool:=(List.range P.funcs.size).all λf=>match P.funcs[f]? with
 | some fn => fn.name != "runtime.NumGoroutine"
 |none=>true
theorem PY{P:Program}(h:WJ P=true):XGood P (DI P):=by
 refine⟨λh=>h,λh=>h,λh=>h,?_,λh=>(by cases h),λh=>(by cases h)⟩
 intro f n c rs F
 have F:WI P f=some (n,c,rs):=F
 unfold WI at F
 split at F
 .rename_i fn H
  split at F
  .rename_i c' E
   cases F;refine⟨?_,fn,H,E,rfl,rfl⟩
   unfold WJ at h;have G:f<P.funcs.size:=by
    obtain⟨K,_⟩:=Array.getElem?_eq_some_iff.1 H;exact K
   have:=(List.all_eq_true.1 h) f (List.mem_range.2 G)
   rw[H] at this;unfold callable;rw[H];simp only at this ⊢
   rw[this,E];rfl
  .cases F
 .cases F
theorem PZ:WJ Tryz.prog=true:=by kernel_rfl
theorem X8:Tryz.prog.follows .mixedOrders=true:=by kernel_rfl
def WL(r:Option XR):Bool:=match r with
 |some ⟨.d (.bool true),_,_,_⟩=>true
 |_=>false
end Go.V
namespace Go.V.Doc
open Go Go.Proofs Go.Sort Go.RowKit
def xE:Nt->Nt->Bool:=ltOf Z3
theorem R1:∀ args w,(callFunc 113 args).run Tryz.prog w = .ok (.enter 113 args) w:=enters_of Tryz.func113 (by kernel_rfl) rfl
theorem WM:∀ w,(isAgg 72).run Tryz.prog w = .ok true w:=λw=>by kernel_rfl
theorem WN:∀ w,(Go.sizeOf 72).run Tryz.prog w = .ok 7 w:=λw=>by kernel_rfl
def WO:Nat->Nat->Array Nt->Array Nt
 |0,_,d=>d
 |k+1,i,d=>WO k (i+1) (insInner xE 0 i d)
theorem DJ(b:Nat):∀ (k i:Nat) (d:Array Nt),k=b-i->insOuter xE 0 b i d=WO k i d
 |0,i,d,h=>by unfold insOuter;rw[if_neg (by omega)];rfl
 |k+1,i,d,h=>by unfold insOuter;rw[if_pos (by omega),DJ b k (i+1) _ (by omega)];rfl
def xr(l:List Nt):List Nt:=(WO (l.length-1) 1 l.toArray).toList
theorem DK(l:List Nt):(Sort.insertionSort xE l.toArray 0 l.length)=(xr l).toArray:=by
 unfold Sort.insertionSort xr
 rw[DJ l.length (l.length-1) (0+1) _ (by omega)]
theorem DL(T:Nat)(l:List Nt)(F:l≠[])(K:l.length<4611686018427387904)(hs:(xr l).length=l.length):
  zA Tryz.prog 172 [.ar 0,.d (int 0),.d (int l.length),.fn 113 []] [(0,.arr T 7 (l.map Nt.row))] 1 (.d (.tup [])) 1 [(0,.arr T 7 ((xr l).map Nt.row))] []:=by
 refine VI jW c_172 F hs ?_
 intro w E β vs G H g cap J L M
 simp only[zb,Sm,R,int] at G
 obtain⟨_,_,rfl,rfl,_,_,rfl,rfl,_,_,rfl,⟨_,rfl,rfl⟩,rfl⟩:=G
 have:=AnyQ.insertionSortCmpFunc Tryz.EV 7 WM WN Nt.enc jW.len jW.one Z3 113 #[] g 0 cap 0 l.length l.toArray w R1
  (Pe H L) M J (Nat.zero_le _) (by simp) (by simpa using K)
 change Calls Tryz.prog 172 _ _ _ at this
 rw[show ltOf Z3=xE from rfl,DK] at this
 simpa using this
theorem R2:zA Tryz.prog 172 [.d (.sl []),.d (int 0),.d (int 0),.fn 113 []] [] 0 (.tup []) 0 [] []:=by
 refine xA mixed Tryz.func172 rfl c_172 (by simp[Sym.los,Sym.lo]) ?_
 simp+decide[Tryz.f172,int]
 refine⟨by unfold I64;omega,zm mixed (λ_:Unit=>{n:=53,next:=0,slots:=[(2,.d (int 0)),(8,.d (int 1))],own:=[]})
  (λ_=>True) (λ_=>0) () trivial (by simp+decide[int]) ?_⟩
 intro _ _
 simp+decide[int]
end Go.V.Doc
namespace Go.V.Doc
open Go Go.Proofs
def Xa:List D->Option Nt
 | [.int .i64 a,.int .i64 b,.int .i64 c,.int .i64 d,.int .i64 e,.int .i64 f,.str t]=>some ⟨a,b,c,d,e,f,t⟩
 |_=>none
def uM:List (List D)->Option (List Nt)
 | []=>some []
 |r::rs=>match Xa r,uM rs with
  |some x,some l=>some (x::l)
  |_,_=>none
def V9(args:List Sym)(own:List (Nat×Obj'))(n:Nat):Option XR:=match args,own,n with
 | [.ar 0,.d (.int .i64 a),.d (.int .i64 b),.fn g []],[(0,.arr T 7 rows)],1=>match uM rows with
  |some l=>zu (Nat.beq g 113&&decide (a=0)&&decide (b=(l.length:Int))&&Nat.blt 0 l.length&&Nat.beq (xr l).length l.length&&Nat.blt l.length 1000)
    (some ⟨.d (.tup []),1,[(0,.arr T 7 ((xr l).map Nt.row))],[]⟩)
  |none=>none
 | [.d (.sl []),.d (.int .i64 a),.d (.int .i64 b),.fn g []],[],0=>zu (Nat.beq g 113&&decide (a=0)&&decide (b=0)) (some ⟨.tup [],0,[],[]⟩)
 |_,_,_=>none
theorem DN(s:ByteArray):zj Tryz.prog 132 [.str s] (int (textE s)):=by
 refine zn mixed Tryz.func132 rfl c_132 ?_
 rw[PW]
 by_cases K:200<s.size
 .have F:(200:Int)<s.size:=by omega
  simp+decide[Tryz.f132,F,K,int]
 have F:¬(200:Int)<s.size:=by omega
 simp+decide[Tryz.f132,F,K,int]
 refine zg (V2 s (by omega)) ?_
 cases J:xe s s.size 0 with
 |none=>simp+decide[j9]
 |some l=>
  have E:l.length<=s.size:=Wu s _ _ _ J
  simp+decide[j9,ints];refine zm mixed (λk:Nat=>{n:=34,next:=0,slots:=[(3,.d (ints l)),(5,.d (int k))],own:=[]})
   (λk=>k<=l.length/\∀ x∈l.take k,xN x=false) (λk=>l.length-k) 0 (by simp) (by simp+decide[int,ints]) ?_
  intro k ⟨L,M⟩;by_cases H:k<l.length
  .have e1:l[k]?=some l[k]:=List.getElem?_eq_getElem H
   have G:xN l[k]=true->l.any xN=true:=λO=>List.any_eq_true.2 ⟨l[k],List.getElem_mem H,O⟩
   by_cases b1:l[k]<32
   .have O:=G (by simp[xN,b1])
    simp+decide[ints,int,H,b1];exact List.any_eq_true.1 O
   .by_cases b2:l[k]=127
    .have O:=G (by simp[xN,b2])
     simp+decide[ints,int,H,b2];exact List.any_eq_true.1 O
    .simp+decide[ints,int,H,b1,b2,I64]
     refine⟨by omega,k+1,⟨H,?_⟩,by omega,by omega⟩
     rw[List.take_succ_eq_append_getElem H];intro x Q;rcases List.mem_append.1 Q with Q | Q
     .exact M x Q
     .simp at Q;rw[Q];simp[xN,b1,b2]
  .have:k=l.length:=by omega
   subst this;rw[List.take_length] at M;have O:l.any xN=false:=by rw[List.any_eq_false];intro x Q;simp[M x Q]
   simp+decide[ints,int];exact M
def yt(f t:Int):Bool:=decide (0<=f)&&decide (f<t)&&decide (t<=86400000)
def zx(d:Dc)(i:Int):Tir:=d.tiers[i.toNat]?.getD default
def vo(d:Dc)(n p:Nt):Bool:=
 if X5 d.tiers n.tier=true then yt n.fr n.tO&&(if (zx d n.tier).kind=0 then decide (0<=n.fr)&&decide (n.tO<=d.len) else decide (p.fr<=n.fr)&&decide (n.tO<=p.tO))
 else decide (n.fr=0)&&decide (n.tO=0)
def Xb(d:Dc)(n:Nt):Int:=
 if textE n.text=0 then
  (if (if (zx d n.tier).kind=0 then decide (n.par=0) else (zi d.notes n.par).2&&decide ((zi d.notes n.par).1.tier=(zx d n.tier).par))=true then
   (if vo d n (zi d.notes n.par).1=true then (if n.rank<0\/(n.rank≠0/\(zx d n.tier).kind≠3) then 1 else 0) else 12)
  else 13)
 else textE n.text
end Go.V.Doc
namespace Go.V.Doc
open Go Go.Proofs Go.Sort Go.RowKit
theorem WQ{a b:Nt}:xE a b=true↔a.par<b.par\/(a.par=b.par/\(a.fr<b.fr\/(a.fr=b.fr/\a.rank<b.rank))):=by
 unfold xE ltOf Z3
 rw[decide_eq_true_eq]
 simp only[wJ,j5]
 repeat' split
 all_goals omega
theorem WR{a b:Nt}:xE a b=false↔¬(a.par<b.par\/(a.par=b.par/\(a.fr<b.fr\/(a.fr=b.fr/\a.rank<b.rank)))):=by
 rw[<-WQ,Bool.not_eq_true]
theorem DO:SWO xE where
 irrefl:=λx=>by rw[WR];omega
 trans:=λx y z H h2=>by rw[WQ] at *;omega
 ntrans:=λx y z H h2=>by rw[WR] at *;omega
def xf(l:List Nt):List Nt:=(pdq xE l.toArray 0 l.length (Lib.bitLen l.length) true true).toList
theorem WS(l:List Nt):PermIn 0 l.length l.toArray (pdq xE l.toArray 0 l.length (Lib.bitLen l.length) true true)/\SortedIn xE 0 l.length (pdq xE l.toArray 0 l.length (Lib.bitLen l.length) true true):=
 pdq_sorts xE DO l.toArray 0 l.length (Lib.bitLen l.length) true true (Nat.zero_le _) (by simp) (Or.inl rfl)
theorem WT(l:List Nt):(xf l).length=l.length:=by
 have:=(WS l).1.1
 unfold xf
 rw[Array.length_toList,this];simp
theorem R7(l:List Nt):(xf l).Perm l:=by
 obtain⟨H,_,G⟩:=(WS l).1
 unfold xf
 generalize pdq xE l.toArray 0 l.length (Lib.bitLen l.length) true true=A at H G
 have e1:A.extract 0 l.length=A:=by rw[show l.length=A.size by rw[H];simp];simp
 have e2:l.toArray.extract 0 l.length=l.toArray:=by rw[show l.length=l.toArray.size by simp];simp
 rw[e1,e2] at G
 simpa using G
theorem R9(l:List Nt):(xf l).Pairwise λa b=>xE b a=false:=by
 have hs:=(WS l).2
 have G:=WT l
 unfold xf at G ⊢
 generalize pdq xE l.toArray 0 l.length (Lib.bitLen l.length) true true=A at hs G
 rw[List.pairwise_iff_getElem]
 intro i j hi F H
 rw[Array.length_toList] at G
 have:=hs i j (Nat.zero_le _) H (by rw[Array.length_toList] at F;omega)
 rw[Array.length_toList] at hi F
 simpa[getElem!_pos,hi,F] using this
abbrev WU:List (Nat×Obj'):=[(0,.arr 72 7 [])]
theorem Rb:zA Tryz.prog 172 [.ar 0,.d (int 0),.d (int 0),.fn 113 []] WU 1 (.tup []) 1 WU []:=by
 refine xA mixed Tryz.func172 rfl c_172 (by simp[Sym.los,Sym.lo]) ?_
 simp+decide[Tryz.f172,int]
 refine⟨by unfold I64;omega,zm mixed (λ_:Unit=>{n:=53,next:=1,slots:=[(2,.d (int 0)),(8,.d (int 1))],own:=WU,base:=1})
  (λ_=>True) (λ_=>0) () trivial (by simp+decide[int]) ?_⟩
 intro _ _
 simp+decide[int]
theorem Re:zj Tryz.prog 181 [.int .u64 0] (int 0):=by
 refine zn mixed Tryz.func181 rfl c_181 ?_
 simp+decide[Tryz.f181,int,byteAt,vf,show IntKind.u8.wrap 0=0 from rfl]
 rw[show IntKind.i64.wrap 0=0 from rfl];unfold I64;omega
theorem Rh:zj Tryz.prog 122 [.int .u64 0] (int 0):=by
 refine zn mixed Tryz.func122 rfl c_122 ?_
 simp+decide[Tryz.f122,int]
 refine zg (Re) ?_
 simp+decide[int]
theorem zA.unit{P:Program}{f:Nat}{args:List Sym}{own:List (Nat×Obj')}{n nx:Nat}{own':List (Nat×Obj')}{mv:List Nat}(h:zA P f args own n (.tup []) nx own' mv):zA P f args own n (.d (.tup [])) nx own' mv:=by
 refine⟨h.1,λX w0 β w vs hβ H hs=>(h.2 X w0 β w vs hβ H hs).mono λe w' G=>?_⟩
 obtain⟨β',v,F,h2,E,K⟩:=G
 refine⟨β',v,F,h2,by simp[Sym.lo],?_⟩
 simp only[Sm,zb] at K
 obtain⟨vs',rfl,rfl⟩:=K
 simp[Sm,R,zt]
end Go.V.Doc
namespace Go.V.Doc
open Go Go.Proofs
def yb(l:List Nt)(t:Int):List Nt:=l.filter λn=>decide (n.tier=t)
def yo(s:List Nt)(i:Nat):Bool:=decide (i=0) || !decide ((s[i-1]?.getD default).par=(s[i]?.getD default).par)
def lastB(s:List Nt)(i:Nat):Bool:=decide (i+1=s.length) || !decide ((s[i+1]?.getD default).par=(s[i]?.getD default).par)
def Z7(notes:List Nt)(kind:Int)(s:List Nt):Nat->Nat->Int->Int
 |0,_,why=>why
 |m+1,i,why=>if i<s.length then
   (let n:=s[i]?.getD default
    let pv:=s[i-1]?.getD default
    let p:=(zi notes n.par).1
    if kind=0\/kind=1\/kind=2 then
     (if yo s i=false/\n.fr<pv.tO then 15
     else Z7 notes kind s m (i+1) (if kind=1/\((yo s i=true/\n.fr≠p.fr)\/(yo s i=false/\pv.tO≠n.fr)\/(lastB s i=true/\n.tO≠p.tO)) then 16 else why))
    else if kind=3 then Z7 notes kind s m (i+1) (if (yo s i=true/\n.rank≠0)\/(yo s i=false/\n.rank≠IntKind.i64.wrap (pv.rank+1)) then 10 else why)
    else if kind=4 then Z7 notes kind s m (i+1) (if yo s i=false then 8 else why)
    else Z7 notes kind s m (i+1) why)
  else why
def Xc(d:Dc)(t:Int):Int:=Z7 d.notes (zx d t).kind (xf (yb d.notes t)) (yb d.notes t).length 0 0
def qs(d:Dc):Nat->Nat->Int
 |0,_=>0
 |m+1,i=>if i<d.notes.length then
   (let n:=d.notes[i]?.getD default
    if n.id<1\/1099511627776<n.id then 2 else if i≠0/\n.id<=(d.notes[i-1]?.getD default).id then 10
    else if n.tier<0\/(d.tiers.length:Int)<=n.tier then 2 else if Xb d n=0 then qs d m (i+1) else Xb d n)
  else 0
def Va(d:Dc):Nat->Nat->Int
 |0,_=>0
 |m+1,i=>if i<d.tiers.length then (if Xc d i=0 then Va d m (i+1) else Xc d i) else 0
def WV(d:Dc):Int:=
 if jb d.tiers≠0 then jb d.tiers else if d.len<0\/86400000<d.len then 12 else if 300<d.notes.length then 11
 else if qs d d.notes.length 0≠0 then qs d d.notes.length 0 else Va d d.tiers.length 0
theorem xR(k:Int):zj Tryz.prog 135 [int k] (.bool (zK k)):=by
 refine zn mixed Tryz.func135 rfl c_135 ?_
 by_cases H:k=0
 .subst H;simp+decide[Tryz.f135,int,zK]
 by_cases G:k=1
 .subst G;simp+decide[Tryz.f135,int,zK]
 by_cases h2:k=2
 .subst h2;simp+decide[Tryz.f135,int,zK]
 simp+decide[Tryz.f135,int,zK,H,G,h2]
theorem xg(f t:Int):zj Tryz.prog 193 [.agg [int f,int t]] (.bool (yt f t)):=by
 refine zn mixed Tryz.func193 rfl c_193 ?_
 by_cases H:0<=f
 case neg=>simp+decide[Tryz.f193,int,yt,H]
 by_cases h2:f<t
 case neg=>simp+decide[Tryz.f193,int,yt,H,h2]
 simp+decide[Tryz.f193,int,yt,H,h2]
def jc(d:Dc)(n:Nt):Int:=
 if (if (zx d n.tier).kind=0 then decide (n.par=0) else (zi d.notes n.par).2&&decide ((zi d.notes n.par).1.tier=(zx d n.tier).par))=true then
  (if vo d n (zi d.notes n.par).1=true then (if n.rank<0\/(n.rank≠0/\(zx d n.tier).kind≠3) then 1 else 0) else 12)
 else 13
theorem ZO(d:Dc)(n:Nt):Xb d n=if textE n.text=0 then jc d n else textE n.text:=rfl
theorem Ri(d:Dc)(n:Nt)(E:d.tiers.length<2^62)(K:d.notes.length<2^62)(J:0<=n.tier)(L:n.tier<d.tiers.length):
  zj Tryz.prog 133 [zq d,.agg n.row] (int (jc d n)):=by
 refine zn mixed Tryz.func133 rfl c_133 ?_
 obtain⟨ni,nt,np,nf,nto,nr,nx⟩:=n
 simp only at J L
 obtain⟨k,rfl⟩:∃ k:Nat,nt=k:=⟨nt.toNat,by omega⟩
 have M:k<d.tiers.length:=by omega
 obtain⟨t,ek⟩:∃ t,d.tiers[k]=t:=⟨_,rfl⟩
 have e1:d.tiers[k]?=some t:=by rw[List.getElem?_eq_getElem M,ek]
 have et:zx d (k:Int)=t:=by simp[zx,e1]
 obtain⟨tn,kd,tr,tp⟩:=t
 have F:X5 d.tiers (k:Int)=zK kd:=by
  unfold X5;rw[decide_eq_true (by omega),decide_eq_true (by omega),Int.toNat_natCast,e1];rfl
 simp+decide[Tryz.f133,zq,Dc.row,Nt.row,Tir.row,int,ints,zl,zw,M,e1,ek]
 refine zg (jX d np K) ?_
 have H:jc d ⟨ni,k,np,nf,nto,nr,nx⟩=if (if kd=0 then decide (np=0) else (zi d.notes np).2&&decide ((zi d.notes np).1.tier=tp))=true then
  (if vo d ⟨ni,k,np,nf,nto,nr,nx⟩ (zi d.notes np).1=true then (if nr<0\/(nr≠0/\kd≠3) then 1 else 0) else 12) else 13:=by
  simp only[jc,et]
 rw[H]
 have G:∀ q:Nt,vo d ⟨ni,k,np,nf,nto,nr,nx⟩ q=if zK kd=true then yt nf nto&&(if kd=0 then decide (0<=nf)&&decide (nto<=d.len) else decide (q.fr<=nf)&&decide (nto<=q.tO))
   else decide (nf=0)&&decide (nto=0):=by
  intro q;simp only[vo,et,F]
 simp only[G]
 clear H G
 obtain⟨⟨p,ok⟩,eg⟩:∃ g,zi d.notes np=g:=⟨_,rfl⟩
 rw[eg]
 obtain⟨pi,pt,pp,pf,pto,prr,px⟩:=p
 simp only[getD']
 by_cases k0:kd=0
 .subst k0
  have ak:zK 0=true:=rfl
  by_cases p0:np=0
  case neg=>
   repeat first | refine zg (xR _) ?_ | refine zg (xg _ _) ?_ | simp+decide[int,Nt.row,Tir.row,ak,p0]
  subst p0;by_cases O:yt nf nto=true
  case neg=>
   repeat first | refine zg (xR _) ?_ | refine zg (xg _ _) ?_ | simp+decide[int,Nt.row,Tir.row,ak,O]
  have Q:0<=nf:=by simp only[yt,Bool.and_eq_true,decide_eq_true_eq] at O;omega
  by_cases T:nto<=d.len
  case neg=>
   repeat first | refine zg (xR _) ?_ | refine zg (xg _ _) ?_ | simp+decide[int,Nt.row,Tir.row,ak,O,Q,T]
  by_cases r1:nr<0
  .skip
   repeat first | refine zg (xR _) ?_ | refine zg (xg _ _) ?_ | simp+decide[int,Nt.row,Tir.row,ak,O,Q,T,r1]
  by_cases r2:nr=0
  .skip
   repeat first | refine zg (xR _) ?_ | refine zg (xg _ _) ?_ | simp+decide[int,Nt.row,Tir.row,ak,O,Q,T,r1,r2]
  repeat first | refine zg (xR _) ?_ | refine zg (xg _ _) ?_ | simp+decide[int,Nt.row,Tir.row,ak,O,Q,T,r1,r2]
 cases ok with
 |false=>
  repeat first | refine zg (xR _) ?_ | refine zg (xg _ _) ?_ | simp+decide[int,Nt.row,Tir.row,k0]
 |true=>
  by_cases pq:pt=tp
  case neg=>
   repeat first | refine zg (xR _) ?_ | refine zg (xg _ _) ?_ | simp+decide[int,Nt.row,Tir.row,k0,pq]
  by_cases V:zK kd=true
  .skip
   have k3:¬kd=3:=by rintro rfl;exact absurd V (by decide)
   by_cases O:yt nf nto=true
   case neg=>
    repeat first | refine zg (xR _) ?_ | refine zg (xg _ _) ?_ | simp+decide[int,Nt.row,Tir.row,k0,pq,V,O]
   by_cases b1:pf<=nf
   case neg=>
    repeat first | refine zg (xR _) ?_ | refine zg (xg _ _) ?_ | simp+decide[int,Nt.row,Tir.row,k0,pq,V,O,b1]
   by_cases b2:nto<=pto
   case neg=>
    repeat first | refine zg (xR _) ?_ | refine zg (xg _ _) ?_ | simp+decide[int,Nt.row,Tir.row,k0,pq,V,O,b1,b2]
   by_cases r1:nr<0
   .skip
    repeat first | refine zg (xR _) ?_ | refine zg (xg _ _) ?_ | simp+decide[int,Nt.row,Tir.row,k0,pq,V,O,b1,b2,k3,r1]
   by_cases r2:nr=0
   .skip
    repeat first | refine zg (xR _) ?_ | refine zg (xg _ _) ?_ | simp+decide[int,Nt.row,Tir.row,k0,pq,V,O,b1,b2,k3,r1,r2]
   repeat first | refine zg (xR _) ?_ | refine zg (xg _ _) ?_ | simp+decide[int,Nt.row,Tir.row,k0,pq,V,O,b1,b2,k3,r1,r2]
  by_cases z1:nf=0
  case neg=>
   repeat first | refine zg (xR _) ?_ | refine zg (xg _ _) ?_ | simp+decide[int,Nt.row,Tir.row,k0,pq,V,z1]
  by_cases z2:nto=0
  case neg=>
   repeat first | refine zg (xR _) ?_ | refine zg (xg _ _) ?_ | simp+decide[int,Nt.row,Tir.row,k0,pq,V,z1,z2]
  by_cases r1:nr<0
  .skip
   repeat first | refine zg (xR _) ?_ | refine zg (xg _ _) ?_ | simp+decide[int,Nt.row,Tir.row,k0,pq,V,z1,z2,r1]
  by_cases r2:nr=0
  .skip
   repeat first | refine zg (xR _) ?_ | refine zg (xg _ _) ?_ | simp+decide[int,Nt.row,Tir.row,k0,pq,V,z1,z2,r1,r2]
  by_cases r3:kd=3
  .skip
   subst r3;repeat first | refine zg (xR _) ?_ | refine zg (xg _ _) ?_ | simp+decide[int,Nt.row,Tir.row,k0,pq,V,z1,z2,r1,r2]
  repeat first | refine zg (xR _) ?_ | refine zg (xg _ _) ?_ | simp+decide[int,Nt.row,Tir.row,k0,pq,V,z1,z2,r1,r2,r3]
def vp(d:Dc)(i:Nat):Int:=
 let n:=d.notes[i]?.getD default
 if n.id<1\/1099511627776<n.id then 2 else if i≠0/\n.id<=(d.notes[i-1]?.getD default).id then 10
 else if n.tier<0\/(d.tiers.length:Int)<=n.tier then 2 else Xb d n
theorem WW(d:Dc):∀ (m i:Nat),qs d (m+1) i=if i<d.notes.length then (if vp d i=0 then qs d m (i+1) else vp d i) else 0:=by
 intro m i
 simp only[qs,vp]
 split
 .split
  .simp
  .split
   .simp
   .split
    .simp
    .rfl
 .rfl
theorem Rj(d:Dc)(i:Nat)(hi:i<d.notes.length)(L:d.tiers.length<2^62)(M:d.notes.length<2^62)(O:∀ n∈d.notes,n.text.size<=9223372036854775807):
  zj Tryz.prog 80 [zq d,int i] (int (vp d i)):=by
 refine zn mixed Tryz.func80 rfl c_80 ?_
 have H:(i:Int)<d.notes.length:=by omega
 obtain⟨n,en'⟩:∃ n,d.notes[i]=n:=⟨_,rfl⟩
 have en:d.notes[i]?=some n:=by rw[List.getElem?_eq_getElem hi,en']
 have K:=O n (by rw[<-en'];exact List.getElem_mem hi)
 have E:=λa b=>Ri d n L M a b
 have Q:vp d i=if n.id<1\/1099511627776<n.id then 2 else if i≠0/\n.id<=(d.notes[i-1]?.getD default).id then 10
  else if n.tier<0\/(d.tiers.length:Int)<=n.tier then 2 else if textE n.text=0 then jc d n else textE n.text:=by
  simp only[vp,en,Option.getD_some,ZO]
 rw[Q]
 clear Q
 have B:True:=trivial
 by_cases a1:n.id<1
 .simp+decide[Tryz.f80,zq,Dc.row,zl,Nt.row,int,ints,hi,H,en,en',a1]
 by_cases a2:1099511627776<n.id
 .simp+decide[Tryz.f80,zq,Dc.row,zl,Nt.row,int,ints,hi,H,en,en',a1,a2]
 have fin:∀ (J:¬(i≠0/\n.id<=(d.notes[i-1]?.getD default).id)),True:=λ_=>trivial
 cases i with
 |zero=>
  by_cases b1:n.tier<0
  .simp+decide[Tryz.f80,zq,Dc.row,zl,Nt.row,int,ints,hi,H,en,en',a1,a2,b1]
  by_cases b2:(d.tiers.length:Int)<=n.tier
  .simp+decide[Tryz.f80,zq,Dc.row,zl,Nt.row,int,ints,zw,hi,H,en,en',a1,a2,b1,b2]
  simp+decide[Tryz.f80,zq,Dc.row,zl,Nt.row,int,ints,zw,hi,H,en,en',a1,a2,b1,b2];refine zg (DN n.text) ?_
  by_cases T:textE n.text=0
  case neg=>simp+decide[int,T]
  simp+decide[int,T];refine zg (E (by omega) (by omega)) ?_
  simp+decide[int]
 |succ j=>
  have F:j<d.notes.length:=by omega
  have G:(j:Int)<d.notes.length:=by omega
  obtain⟨pv,ep'⟩:∃ pv,d.notes[j]=pv:=⟨_,rfl⟩;have ep:d.notes[j]?=some pv:=by rw[List.getElem?_eq_getElem F,ep']
  have j0:(0:Int)<(j:Int)+1:=by omega
  have j1:(j:Int)+1-1=j:=by omega
  have jz:¬(j:Int)+1=0:=by omega
  have V:(j:Int)+1<d.notes.length:=by omega
  have tn1:((j:Int)+1).toNat=j+1:=by omega
  have g0:(0:Int)<=(j:Int)+1:=by omega
  have g1 : -9223372036854775808<=(j:Int):=by omega
  have g2:(j:Int)<=9223372036854775807:=by omega
  by_cases c1:n.id<=pv.id
  .simp+decide[Tryz.f80,zq,Dc.row,zl,Nt.row,int,ints,hi,H,en,en',a1,a2,F,G,ep,ep',j0,j1,V,tn1,c1,I64,g0,g1,g2]
  by_cases b1:n.tier<0
  .simp+decide[Tryz.f80,zq,Dc.row,zl,Nt.row,int,ints,hi,H,en,en',a1,a2,F,G,ep,ep',j0,j1,V,tn1,c1,I64,g0,g1,g2,b1]
  by_cases b2:(d.tiers.length:Int)<=n.tier
  .simp+decide[Tryz.f80,zq,Dc.row,zl,Nt.row,int,ints,zw,hi,H,en,en',a1,a2,F,G,ep,ep',j0,j1,V,tn1,c1,I64,g0,g1,g2,b1,b2]
  simp+decide[Tryz.f80,zq,Dc.row,zl,Nt.row,int,ints,zw,hi,H,en,en',a1,a2,F,G,ep,ep',j0,j1,V,tn1,c1,I64,g0,g1,g2,b1,b2];refine zg (DN n.text) ?_
  by_cases T:textE n.text=0
  case neg=>simp+decide[int,T]
  simp+decide[int,T];refine zg (E (by omega) (by omega)) ?_
  simp+decide[int]
structure Sp where
 (fr:Int)
 (tO : Int)
 deriving Inhabited,DecidableEq
def Sp.row(s:Sp):List D:=[int s.fr,int s.tO]
def yS(l:List Sp):D:=.sl (l.map Sp.row)
abbrev Sp.rt(s:Sp):Bool:=yt s.fr s.tO
def jE(x s:Sp):List Sp:=(if yt x.fr (min x.tO s.fr)=true then [⟨x.fr,min x.tO s.fr⟩] else [])++(if yt (max x.fr s.tO) x.tO=true then [⟨max x.fr s.tO,x.tO⟩] else [])
def xF(l:List Sp)(s:Sp):List Sp:=l.flatMap λx=>jE x s
def xT(a b:List Sp):List Sp:=b.foldl (λout y=>if y.rt=true then xF out y else out) a
def jd(l:List Sp)(s:Sp):Bool:=s.rt&&(xT [s] l).isEmpty
theorem Rk(x s:Sp):(jE x s).length<=2:=by
 unfold jE;split <;> split <;> simp
theorem Rl(l:List Sp)(s:Sp):(xF l s).length<=2*l.length:=by
 unfold xF
 induction l with
 |nil=>simp
 |cons x r ih=>
  have:=Rk x s
  rw[List.flatMap_cons,List.length_append,List.length_cons];omega
theorem Rm{l:List Sp}{s:Sp}{k:Nat}(h:k<l.length):xF (l.take (k+1)) s=xF (l.take k) s++jE l[k] s:=by
 unfold xF
 rw[take_snoc' h,List.flatMap_append];simp
def xU(l:List Sp):Int:=(l.map λx=>x.tO-x.fr).sum
theorem Rn(a b:List Sp):xU (a++b)=xU a+xU b:=by simp[xU]
theorem Ro{x s:Sp}(H:x.rt=true)(hs:s.rt=true):xU (jE x s)<=x.tO-x.fr:=by
 simp only[Sp.rt,yt,Bool.and_eq_true,decide_eq_true_eq] at H hs
 unfold jE
 split <;> split <;> simp[xU] <;> omega
theorem Rq(x s:Sp):∀ y∈jE x s,y.rt=true:=by
 intro y H
 unfold jE at H
 rcases List.mem_append.1 H with h | h
 .split at h
  .rename_i e;simp at h;subst h;exact e
  .cases h
 .split at h
  .rename_i e;simp at h;subst h;exact e
  .cases h
theorem DR{l:List Sp}{s:Sp}:∀ y∈xF l s,y.rt=true:=by
 intro y H
 unfold xF at H
 obtain⟨x,_,h⟩:=List.mem_flatMap.1 H
 exact Rq x s y h
theorem DT{s:Sp}(hs:s.rt=true):∀ {l:List Sp},(∀ x∈l,x.rt=true)->xU (xF l s)<=xU l
 | [],_=>by simp[xF,xU]
 |x::r,h=>by
  have H:=Ro (h x (by simp)) hs
  have h2:=DT hs (l:=r) (λy G=>h y (by simp[G]))
  have e1:xF (x::r) s=jE x s++xF r s:=by unfold xF;rw[List.flatMap_cons]
  have e2:xU (x::r)=(x.tO-x.fr)+xU r:=by simp[xU]
  rw[e1,Rn,e2];omega
theorem DU:∀ {l:List Sp},(∀ x∈l,x.rt=true)->(l.length:Int)<=xU l
 | [],_=>by simp[xU]
 |x::r,h=>by
  have H:=h x (by simp)
  simp only[Sp.rt,yt,Bool.and_eq_true,decide_eq_true_eq] at H;have h2:=DU (l:=r) (λy G=>h y (by simp[G]))
  have e2:xU (x::r)=(x.tO-x.fr)+xU r:=by simp[xU]
  rw[e2,List.length_cons];omega
theorem Vb:∀ (b a:List Sp),(∀ x∈a,x.rt=true)->(∀ x∈xT a b,x.rt=true)/\xU (xT a b)<=xU a
 | [],a,h=>⟨h,Int.le_refl _⟩
 |y::r,a,h=>by
  have e:xT a (y::r)=xT (if y.rt=true then xF a y else a) r:=rfl
  rw[e];by_cases H:y.rt=true
  .rw[if_pos H]
   have G:=Vb r (xF a y) DR;have h2:=DT H h;exact⟨G.1,by omega⟩
  .rw[if_neg H];exact Vb r a h
theorem Rr{s:Sp}(hs:s.rt=true)(b:List Sp):(xT [s] b).length<=86400000:=by
 obtain⟨H,h2⟩:=Vb b [s] (by simpa using hs)
 have G:=DU H
 simp only[Sp.rt,yt,Bool.and_eq_true,decide_eq_true_eq] at hs
 have F:xU [s]=s.tO-s.fr:=by simp[xU]
 omega
theorem Rt{a b:List Sp}{k:Nat}(h:k<b.length):xT a (b.take (k+1))=if b[k].rt=true then xF (xT a (b.take k)) b[k] else xT a (b.take k):=by
 unfold xT
 rw[take_snoc' h,List.foldl_append];rfl
theorem Ru(s:Sp):zj Tryz.prog 259 [yS [],.agg s.row] (yS [s]):=by
 refine gA mixed Tryz.func259 rfl c_259 [2] ?_
 simp+decide[Tryz.f259,yS,Sp.row,int]
 refine zm mixed (λk:Nat=>{n:=69,next:=4,slots:=[(0,.d (.sl [])),(3,.bp 0 0),(5,.ar 2),(6,.ar 3),(7,.d (.int .i64 k))],own:=[(0,.box 70 [.d (int s.fr),.d (int s.tO)]),(2,.arr 70 2 []),(3,.arr 70 2 [])]})
  (λk=>k=0) (λk=>0) 0 (by simp) (by simp+decide[int]) ?_
 rintro k rfl
 simp+decide[int,maxLen]
theorem Rw(l:List Sp)(s:Sp)(E:l.length<2^40):zj Tryz.prog 228 [yS l,.agg s.row] (yS (xF l s)):=by
 refine gA mixed Tryz.func228 rfl c_228 [2] ?_
 simp+decide[Tryz.f228,Sp.row,int]
 refine zm mixed (λk:Nat=>{n:=57,next:=3,slots:=[(0,.d (yS l)),(3,.bp 0 0),(5,.ar 2),(6,.d (.int .i64 k))],own:=[(0,.box 70 [.d (int s.fr),.d (int s.tO)]),(2,.arr 70 2 ((xF (l.take k) s).map Sp.row))],moved:=[2]})
  (λk=>k<=l.length) (λk=>l.length-k) 0 (by simp) (by simp+decide[int,xF]) ?_
 intro k K
 by_cases H:k<l.length
 .have G:(k:Int)<l.length:=by omega
  obtain⟨x,ex'⟩:∃ x,l[k]=x:=⟨_,rfl⟩;have ex:l[k]?=some x:=by rw[List.getElem?_eq_getElem H,ex']
  have hsn:=Rm (s:=s) H;rw[ex'] at hsn;have J:=Rl (l.take k) s;have F:(l.take k).length=k:=by rw[List.length_take];omega
  rw[F] at J;generalize xF (l.take k) s=W at J hsn ⊢;simp+decide[int,yS,G];have m1:(if s.fr<x.tO then s.fr else x.tO)=min x.tO s.fr:=by rw[Int.min_def];split <;> split <;> omega
  have m2:(if x.fr<s.tO then s.tO else x.fr)=max x.fr s.tO:=by rw[Int.max_def];split <;> split <;> omega
  refine QC mixed 16 [] (by rfl) (by rfl) (by rfl) (by rfl) ?_
  simp+decide[int,Sp.row,H,G,ex'];refine⟨by rfl,?_⟩
  refine QC mixed 16 [] (by rfl) (by rfl) (by rfl) (by rfl) ?_
  simp+decide[int,Sp.row,H,G,ex'];refine⟨by rfl,?_⟩
  rw[m1,m2];have L:jE x s=(if yt x.fr (min x.tO s.fr)=true then [⟨x.fr,min x.tO s.fr⟩] else [])++(if yt (max x.fr s.tO) x.tO=true then [⟨max x.fr s.tO,x.tO⟩] else []):=rfl
  generalize min x.tO s.fr=mn at L ⊢;generalize max x.fr s.tO=mx at L ⊢;refine zg (xg _ _) ?_
  by_cases r1:yt x.fr mn=true
  .rw[if_pos r1] at L
   simp+decide[r1];refine⟨by omega,by unfold maxLen;omega,?_⟩
   refine zg (xg _ _) ?_
   by_cases r2:yt mx x.tO=true
   .rw[if_pos r2] at L
    rw[L] at hsn;simp+decide[r2,I64];refine⟨by omega,by unfold maxLen;omega,by omega,k+1,H,by omega,by omega,?_⟩
    rw[hsn];simp[Sp.row,int]
   .rw[if_neg r2] at L
    rw[L] at hsn;simp+decide[r2,I64];refine⟨by omega,k+1,H,by omega,by omega,?_⟩
    rw[hsn];simp[Sp.row,int]
  .rw[if_neg r1] at L
   simp+decide[r1];refine zg (xg _ _) ?_
   by_cases r2:yt mx x.tO=true
   .rw[if_pos r2] at L
    rw[L] at hsn;simp+decide[r2,I64];refine⟨by omega,by unfold maxLen;omega,by omega,k+1,H,by omega,by omega,?_⟩
    rw[hsn];simp[Sp.row,int]
   .rw[if_neg r2] at L
    rw[L] at hsn;simp+decide[r2,I64];refine⟨by omega,k+1,H,by omega,by omega,?_⟩
    rw[hsn];simp
 .have:k=l.length:=by omega
  subst this;rw[List.take_length];simp+decide[int,yS]
theorem Rx(s:Sp)(hs:s.rt=true):zj Tryz.prog 227 [yS [s]] (yS [s]):=by
 refine zn mixed Tryz.func227 rfl c_227 ?_
 simp+decide[Tryz.f227]
 refine zm mixed (λk:Nat=>match k with
   |0=>{n:=24,next:=2,slots:=[(0,.d (yS [s])),(3,.ar 1),(4,.d (int 0))],own:=[(1,.arr 70 2 [])]}
   |_+1=>{n:=24,next:=2,slots:=[(0,.d (yS [s])),(3,.d (yS [s])),(4,.d (int 1))],own:=[]})
  (λk=>k<=1) (λk=>1-k) 0 (by simp) (by simp+decide[int]) ?_
 intro k H
 cases k with
 |zero=>
  simp+decide[int,yS,Sp.row];refine zg (xg _ _) ?_
  simp+decide[hs];refine IQ (by rfl) (Ru s) (by simp) ?_
  simp+decide[I64];exact⟨1,by simp,by simp,by simp+decide[int,Sp.row,yS]⟩
 |succ j=>
  simp+decide[int,yS,Sp.row]
theorem Ry(s:Sp)(hs:s.rt=true)(b:List Sp)(E:b.length<2^62):zj Tryz.prog 194 [yS [s],yS b] (yS (xT [s] b)):=by
 refine zn mixed Tryz.func194 rfl c_194 ?_
 simp+decide[Tryz.f194]
 refine zg (Rx s hs) ?_
 simp+decide
 refine zm mixed (λk:Nat=>{n:=27,next:=1,slots:=[(1,.d (yS b)),(5,.d (yS (xT [s] (b.take k)))),(6,.d (int k))],own:=[]})
  (λk=>k<=b.length) (λk=>b.length-k) 0 (by simp) (by simp+decide[int,xT]) ?_
 intro k K
 by_cases H:k<b.length
 .have G:(k:Int)<b.length:=by omega
  obtain⟨y,ey'⟩:∃ y,b[k]=y:=⟨_,rfl⟩;have ey:b[k]?=some y:=by rw[List.getElem?_eq_getElem H,ey']
  have hsn:=Rt (a:=[s]) H;rw[ey'] at hsn;have F:=Rr hs (b.take k);generalize xT [s] (b.take k)=W at F hsn ⊢;simp+decide[int,yS,Sp.row,H,G,ey'];refine zg (xg _ _) ?_
  by_cases r1:yt y.fr y.tO=true
  .rw[if_pos r1] at hsn
   simp+decide[int,Sp.row,r1,H,G,ey'];refine zg (Rw W y (by omega)) ?_
   simp+decide[yS,I64];exact⟨by omega,k+1,H,by omega,by rw[hsn],by omega⟩
  .rw[if_neg r1] at hsn
   simp+decide[r1,I64];exact⟨by omega,k+1,H,by omega,by rw[hsn],by omega⟩
 .have:k=b.length:=by omega
  subst this;rw[List.take_length];simp+decide[int,yS]
theorem Rz(l:List Sp)(s:Sp)(H:l.length<2^62):zj Tryz.prog 137 [yS l,.agg s.row] (.bool (jd l s)):=by
 refine zn mixed Tryz.func137 rfl c_137 ?_
 simp+decide[Tryz.f137,int,Sp.row]
 refine zg (xg _ _) ?_
 by_cases r1:yt s.fr s.tO=true
 case neg=>simp+decide[r1,jd]
 simp+decide[r1]
 refine IQ (by rfl) (Ry s r1 l H) (by simp) ?_
 simp+decide[yS]
 cases G:xT [s] l with
 |nil=>simp+decide[jd,r1,G]
 |cons y r=>
  have:¬(r.length:Int)+1=0:=by omega
  simp+decide[jd,r1,G]
def yf(l:List Nt)(t p:Int):List Nt:=l.filter λn=>decide (n.tier=t)&&decide (n.par=p)
theorem DV(l:List Nt)(t p:Int):(yf l t p).length<=l.length:=List.length_filter_le _ _
theorem RA(d:Dc)(t p:Int)(K:d.notes.length<2^40):zj Tryz.prog 134 [zq d,int t,int p] (zl (yf d.notes t p)):=by
 refine gA mixed Tryz.func134 rfl c_134 [2] ?_
 simp+decide[Tryz.f134,zq,Dc.row,int,ints,zw]
 refine zm mixed (λk:Nat=>{n:=44,next:=3,slots:=[(1,.d (int t)),(2,.d (int p)),(3,.bp 0 0),(7,.ar 2),(8,.d (.int .i64 k))],own:=[(0,.box 53 (zW d)),(2,.arr 72 7 ((yf (d.notes.take k) t p).map Nt.row))],moved:=[2]})
  (λk=>k<=d.notes.length) (λk=>d.notes.length-k) 0 (by simp) (by simp+decide[int,ints,zw,zl,yf]) ?_
 intro k J
 by_cases H:k<d.notes.length
 .have G:(k:Int)<d.notes.length:=by omega
  obtain⟨n,en'⟩:∃ n,d.notes[k]=n:=⟨_,rfl⟩;have en:d.notes[k]?=some n:=by rw[List.getElem?_eq_getElem H,en']
  have hsn:yf (d.notes.take (k+1)) t p=yf (d.notes.take k) t p++(if n.tier=t/\n.par=p then [n] else []):=by
   rw[take_snoc' H];unfold yf;rw[List.filter_append,en'];by_cases L:n.tier=t <;> by_cases h2:n.par=p <;> simp[L,h2]
  have F:=DV (d.notes.take k) t p;have E:(d.notes.take k).length=k:=by rw[List.length_take];omega
  rw[E] at F;generalize yf (d.notes.take k) t p=W at hsn F ⊢;by_cases L:n.tier=t
  .by_cases h2:n.par=p
   .rw[if_pos ⟨L,h2⟩] at hsn
    simp+decide[zl,Nt.row,int,H,G,en',I64,L,h2];refine⟨by omega,by unfold maxLen;omega,by omega,k+1,H,by omega,by omega,?_⟩
    rw[hsn];simp[Nt.row,int,L,h2]
   .rw[if_neg (λh=>h2 h.2),List.append_nil] at hsn
    simp+decide[zl,Nt.row,int,H,G,en',I64,L,h2];exact⟨by omega,k+1,H,by omega,by omega,by rw[hsn]⟩
  .rw[if_neg (λh=>L h.1),List.append_nil] at hsn
   simp+decide[zl,Nt.row,int,H,G,en',I64,L];exact⟨by omega,k+1,H,by omega,by omega,by rw[hsn]⟩
 .have:k=d.notes.length:=by omega
  subst this;rw[List.take_length];simp+decide[zl,int]
def spansOf(l:List Nt):List Sp:=l.map λn=>⟨n.fr,n.tO⟩
theorem RB(l:List Nt)(E:l.length<2^40):zj Tryz.prog 138 [zl l] (yS (spansOf l)):=by
 refine gA mixed Tryz.func138 rfl c_138 [1] ?_
 simp+decide[Tryz.f138]
 refine zm mixed (λk:Nat=>{n:=21,next:=2,slots:=[(0,.d (zl l)),(3,.ar 1),(4,.d (.int .i64 k))],own:=[(1,.arr 70 2 ((spansOf (l.take k)).map Sp.row))],moved:=[1]})
  (λk=>k<=l.length) (λk=>l.length-k) 0 (by simp) (by simp+decide[zl,spansOf]) ?_
 intro k K
 by_cases H:k<l.length
 .have G:(k:Int)<l.length:=by omega
  obtain⟨n,en'⟩:∃ n,l[k]=n:=⟨_,rfl⟩;have en:l[k]?=some n:=by rw[List.getElem?_eq_getElem H,en']
  have hsn:spansOf (l.take (k+1))=spansOf (l.take k)++[⟨n.fr,n.tO⟩]:=by
   rw[take_snoc' H];unfold spansOf;rw[List.map_append,en'];rfl
  have F:(spansOf (l.take k)).length=k:=by unfold spansOf;rw[List.length_map,List.length_take];omega
  generalize spansOf (l.take k)=W at hsn F ⊢;simp+decide[zl,Nt.row,int,H,G,en',I64];refine⟨by omega,by unfold maxLen;omega,by omega,k+1,H,by omega,by omega,?_⟩
  rw[hsn];simp[Sp.row,int]
 .have:k=l.length:=by omega
  subst this;rw[List.take_length];simp+decide[zl,yS]
def kN(l:List Nt)(i k:Nat):Bool:=decide ((l[i]?.getD default).fr<(l[k]?.getD default).tO)&&decide ((l[k]?.getD default).fr<(l[i]?.getD default).tO)
def xW(l:List Nt):Bool:=(List.range l.length).any λi=>(List.range i).any λk=>kN l i k
theorem WX{l:List Nt}:xW l=false↔∀ i,i<l.length->∀ k,k<i->kN l i k=false:=by
 unfold xW
 rw[List.any_eq_false]
 refine⟨λh i hi k H=>?_,λh i hi=>?_⟩
 .have:=h i (List.mem_range.2 hi)
  rw[Bool.not_eq_true,List.any_eq_false] at this;simpa using this k (List.mem_range.2 H)
 .rw[Bool.not_eq_true,List.any_eq_false]
  intro k H;simpa using h i (List.mem_range.1 hi) k (List.mem_range.1 H)
theorem RD{l:List Nt}{i k:Nat}(hi:i<l.length)(H:k<i)(h:kN l i k=true):xW l=true:=by
 cases e:xW l with
 |true=>rfl
 |false=>rw[WX] at e;rw[e i hi k H] at h;cases h
theorem WY(l:List Nt)(L:l.length<2^40):zj Tryz.prog 136 [zl l] (.bool (xW l)):=by
 refine zn mixed Tryz.func136 rfl c_136 ?_
 simp+decide[Tryz.f136]
 refine zm mixed (λi:Nat=>{n:=44,next:=0,slots:=[(0,.d (zl l)),(3,.d (.int .i64 i))],own:=[]})
  (λi=>i<=l.length/\∀ j,j<i->∀ k,k<j->kN l j k=false) (λi=>l.length-i) 0 (by simp) (by simp+decide[zl]) ?_
 rintro i ⟨hi,M⟩
 by_cases E:i<l.length
 .have H:(i:Int)<l.length:=by omega
  obtain⟨n,en'⟩:∃ n,l[i]=n:=⟨_,rfl⟩;have en:l[i]?=some n:=by rw[List.getElem?_eq_getElem E,en']
  simp+decide[zl,H];refine zm mixed (λk:Nat=>{n:=44,next:=0,slots:=[(0,.d (zl l)),(3,.d (.int .i64 i)),(4,.d (.int .i64 k))],own:=[]})
   (λk=>k<=i/\∀ j,j<k->kN l i j=false) (λk=>i-k) 0 (by simp) (by simp+decide[zl]) ?_
  rintro k ⟨O,Q⟩
  by_cases J:k<i
  .have G:(k:Int)<i:=by omega
   have K:k<l.length:=by omega
   have F:(k:Int)<l.length:=by omega
   obtain⟨m,em'⟩:∃ m,l[k]=m:=⟨_,rfl⟩;have em:l[k]?=some m:=by rw[List.getElem?_eq_getElem K,em']
   have T:kN l i k=(decide (n.fr<m.tO)&&decide (m.fr<n.tO)):=by simp only[kN,en,em,Option.getD_some]
   by_cases c1:n.fr<m.tO
   .by_cases c2:m.fr<n.tO
    .have:=RD E J (by rw[T];simp[c1,c2])
     simp+decide[zl,Nt.row,int,E,H,G,K,F,en',em',c1,c2,this]
    .simp+decide[zl,Nt.row,int,E,H,G,K,F,en',em',c1,c2,I64]
     refine⟨by omega,k+1,⟨by omega,λj hj=>?_⟩,by omega,by omega⟩
     rcases Nat.lt_or_ge j k with h | h
     .exact Q j h
     .have:j=k:=by omega
      subst this;rw[T];simp[c2]
   .simp+decide[zl,Nt.row,int,E,H,G,K,F,en',em',c1,I64]
    refine⟨by omega,k+1,⟨by omega,λj hj=>?_⟩,by omega,by omega⟩
    rcases Nat.lt_or_ge j k with h | h
    .exact Q j h
    .have:j=k:=by omega
     subst this;rw[T];simp[c1]
  .have:k=i:=by omega
   subst this;simp+decide[zl,I64];refine⟨by omega,k+1,⟨by omega,λj hj=>?_⟩,by omega,by omega⟩
   rcases Nat.lt_or_ge j k with h | h
   .exact M j h
   .have:j=k:=by omega
    subst this;exact Q
 .have:i=l.length:=by omega
  subst this;simp+decide[zl,WX.2 M]
def je(l:List Nt):Bool:=(List.range l.length).all λn=>l.any λm=>decide (m.rank=n)
theorem Xd{l:List Nt}:je l=true↔∀ n:Nat,n<l.length->(l.any λm=>decide (m.rank=n))=true:=by
 unfold je
 rw[List.all_eq_true]
 exact⟨λh n H=>h n (List.mem_range.2 H),λh n H=>h n (List.mem_range.1 H)⟩
theorem RE(l:List Nt)(K:l.length<2^40):zj Tryz.prog 139 [zl l] (.bool (je l)):=by
 refine zn mixed Tryz.func139 rfl c_139 ?_
 simp+decide[Tryz.f139]
 refine zm mixed (λi:Nat=>{n:=30,next:=0,slots:=[(0,.d (zl l)),(3,.d (.int .i64 i))],own:=[]})
  (λi=>i<=l.length/\∀ n:Nat,n<i->(l.any λm=>decide (m.rank=n))=true) (λi=>l.length-i) 0 (by simp) (by simp+decide[zl]) ?_
 rintro i ⟨hi,J⟩
 by_cases E:i<l.length
 .have F:(i:Int)<l.length:=by omega
  simp+decide[zl,F];refine zm mixed (λk:Nat=>{n:=30,next:=0,slots:=[(0,.d (zl l)),(3,.d (.int .i64 i)),(4,.d (.bool ((l.take k).any λm=>decide (m.rank=i)))),(5,.d (.int .i64 k))],own:=[]})
   (λk=>k<=l.length) (λk=>l.length-k) 0 (by simp) (by simp+decide[zl]) ?_
  intro k L;by_cases H:k<l.length
  .have G:(k:Int)<l.length:=by omega
   obtain⟨m,em'⟩:∃ m,l[k]=m:=⟨_,rfl⟩;have em:l[k]?=some m:=by rw[List.getElem?_eq_getElem H,em']
   have hsn:((l.take (k+1)).any λm=>decide (m.rank=i))=(((l.take k).any λm=>decide (m.rank=i)) || decide (m.rank=i)):=by rw[Ww H,em']
   cases M:(l.take k).any λm=>decide (m.rank=i)
   .rw[M,Bool.false_or] at hsn
    by_cases c1:m.rank=i
    .rw[decide_eq_true c1] at hsn
     simp+decide[zl,Nt.row,int,H,G,em',c1,I64];exact⟨by omega,k+1,H,by omega,by simpa using hsn,by omega⟩
    .rw[decide_eq_false c1] at hsn
     simp+decide[zl,Nt.row,int,H,G,em',c1,I64];exact⟨by omega,k+1,H,by omega,by simpa using hsn,by omega⟩
   .rw[M,Bool.true_or] at hsn
    simp+decide[zl,G,I64];exact⟨by omega,k+1,H,by omega,by simpa using hsn,by omega⟩
  .have:k=l.length:=by omega
   subst this;rw[List.take_length];cases M:l.any λm=>decide (m.rank=i)
   .have:je l=false:=by
     cases e:je l with
     |false=>rfl
     |true=>rw[Xd] at e;rw[e i E] at M;cases M
    simp+decide[zl,this]
   .simp+decide[zl,I64]
    refine⟨by omega,i+1,⟨by omega,λj hj=>?_⟩,by omega,by omega⟩
    rcases Nat.lt_or_ge j i with h | h
    .simpa using J j h
    .have:j=i:=by omega
     subst this;simpa using M
 .have:i=l.length:=by omega
  subst this;simp+decide[zl,Xd.2 J]
def Xe(d:Dc)(t kind:Int)(n:Nt)(out:Int):Int:=
 if kind=1 then (if jd (spansOf (yf d.notes t n.par)) ⟨(zi d.notes n.par).1.fr,(zi d.notes n.par).1.tO⟩=true then out else 16)
 else if kind=3 then (if je (yf d.notes t n.par)=true then out else 10)
 else if kind=4 then (if 1<(yf d.notes t n.par).length then 8 else out) else out
def jf(d:Dc)(t kind:Int):List Nt->Int->Int
 | [],out=>out
 |n::r,out=>if n.tier=t then (if zK kind=true/\xW (yf d.notes t n.par)=true then 15 else jf d t kind r (Xe d t kind n out)) else jf d t kind r out
def jg(d:Dc)(t:Int):Int:=jf d t (zx d t).kind d.notes 0
theorem RF(d:Dc)(t:Nat)(O:t<d.tiers.length)(Q:d.notes.length<2^40):zj Tryz.prog 81 [zq d,int t] (int (jg d t)):=by
 refine zn mixed Tryz.func81 rfl c_81 ?_
 have J:(t:Int)<d.tiers.length:=by omega
 obtain⟨tt,et'⟩:∃ tt,d.tiers[t]=tt:=⟨_,rfl⟩
 have et:d.tiers[t]?=some tt:=by rw[List.getElem?_eq_getElem O,et']
 have L:(zx d (t:Int))=tt:=by simp[zx,et]
 unfold jg
 rw[L]
 obtain⟨tn,kd,tr,tp⟩:=tt
 simp+decide[Tryz.f81,zq,Dc.row,int,ints,zw,Tir.row,O,J,et']
 refine zm mixed (λx:Nat×Int=>{n:=77,next:=1,slots:=[(1,.d (int t)),(2,.bp 0 0),(5,.d (int kd)),(6,.d (int x.2)),(7,.d (.int .i64 x.1))],own:=[(0,.box 53 (zW d))]})
  (λx=>x.1<=d.notes.length/\jf d t kd d.notes 0=jf d t kd (d.notes.drop x.1) x.2) (λx=>d.notes.length-x.1) (0,0) (by simp) (by simp+decide[int,ints,zw,zl]) ?_
 rintro⟨k,out⟩ ⟨T,V⟩
 simp only at T V
 by_cases G:k<d.notes.length
 case neg=>
  have:k=d.notes.length:=by omega
  subst this;rw[List.drop_length] at V;simp+decide[int,zl,V,jf]
 have F:(k:Int)<d.notes.length:=by omega
 obtain⟨n,en'⟩:∃ n,d.notes[k]=n:=⟨_,rfl⟩
 have en:d.notes[k]?=some n:=by rw[List.getElem?_eq_getElem G,en']
 rw[List.drop_eq_getElem_cons G,en'] at V
 simp only[jf] at V
 by_cases X:n.tier=t
 case neg=>
  rw[if_neg X] at V;simp+decide[int,zl,Nt.row,G,F,en',X,I64];exact⟨by omega,k+1,out,⟨G,V⟩,by omega,by omega⟩
 rw[if_pos X] at V
 simp+decide[int,zl,Nt.row,G,F,en',X]
 have M:=DV d.notes t n.par
 refine zg (RA d t n.par Q) ?_
 generalize Y:yf d.notes t n.par=S at V M ⊢
 simp+decide
 refine zg (xR kd) ?_
 have fin:∀ out',Xe d t kd n out=out'->(zK kd=true->xW S=false)->jf d t kd d.notes 0=jf d t kd (d.notes.drop (k+1)) out':=by
  intro out' e h;rw[if_neg (by rintro⟨a,b⟩;rw[h a] at b;cases b),e] at V
  exact V
 have E:zK kd=true->xW S=true->jf d t kd d.notes 0=15:=by
  intro a b;rw[if_pos ⟨a,b⟩] at V;exact V
 have H:Xe d t kd n out=if kd=1 then (if jd (spansOf S) ⟨(zi d.notes n.par).1.fr,(zi d.notes n.par).1.tO⟩=true then out else 16)
  else if kd=3 then (if je S=true then out else 10) else if kd=4 then (if 1<S.length then 8 else out) else out:=by
  simp only[Xe,Y]
 clear V
 generalize Z:jf d t kd d.notes 0=TT at fin E ⊢
 by_cases k0:kd=0
 .subst k0
  have A:zK 0=true:=rfl
  simp+decide[A];refine zg (WY S (by omega)) ?_
  cases B:xW S with
  |true=>simp+decide[E A B]
  |false=>
   have HO:zK 0=true->xW S=false:=λ_=>B
   simp+decide[int,zl];refine zg (jX d n.par (by omega)) ?_
   obtain⟨⟨p,ok⟩,eg⟩:∃ g,zi d.notes n.par=g:=⟨_,rfl⟩;rw[eg] at H ⊢;obtain⟨pi,pt,pp,pf,pto,prr,px⟩:=p;simp only[getD',Nt.row] at H ⊢;simp at H
   simp+decide[int,I64];exact⟨by omega,k+1,out,⟨G,fin _ H HO⟩,by omega,by omega⟩
 by_cases k1:kd=1
 .subst k1
  have A:zK 1=true:=rfl
  simp+decide[A];refine zg (WY S (by omega)) ?_
  cases B:xW S with
  |true=>simp+decide[E A B]
  |false=>
   have HO:zK 1=true->xW S=false:=λ_=>B
   simp+decide[int,zl];refine zg (jX d n.par (by omega)) ?_
   obtain⟨⟨p,ok⟩,eg⟩:∃ g,zi d.notes n.par=g:=⟨_,rfl⟩;rw[eg] at H ⊢;obtain⟨pi,pt,pp,pf,pto,prr,px⟩:=p;simp only[getD',Nt.row] at H ⊢;simp+decide[int];refine scp (RB S (by omega)) ?_
   simp+decide
   refine scp (Rz (spansOf S) ⟨pf,pto⟩ (by unfold spansOf;rw[List.length_map];omega)) ?_
   by_cases C:jd (spansOf S) ⟨pf,pto⟩=true
   .simp[C] at H
    simp+decide[I64,C];exact⟨by omega,k+1,out,⟨G,fin _ H HO⟩,by omega,by omega⟩
   .simp[C] at H
    simp+decide[I64,C];exact⟨by omega,k+1,16,⟨G,fin _ H HO⟩,by omega,by omega⟩
 by_cases k2:kd=2
 .subst k2
  have A:zK 2=true:=rfl
  simp+decide[A];refine zg (WY S (by omega)) ?_
  cases B:xW S with
  |true=>simp+decide[E A B]
  |false=>
   have HO:zK 2=true->xW S=false:=λ_=>B
   simp+decide[int,zl];refine zg (jX d n.par (by omega)) ?_
   obtain⟨⟨p,ok⟩,eg⟩:∃ g,zi d.notes n.par=g:=⟨_,rfl⟩;rw[eg] at H ⊢;obtain⟨pi,pt,pp,pf,pto,prr,px⟩:=p;simp only[getD',Nt.row] at H ⊢;simp at H
   simp+decide[int,I64];exact⟨by omega,k+1,out,⟨G,fin _ H HO⟩,by omega,by omega⟩
 by_cases k3:kd=3
 .subst k3
  have A:zK 3=false:=rfl
  have HO:zK 3=true->xW S=false:=λh=>by rw[A] at h;cases h
  simp+decide[int,A,zl];refine zg (jX d n.par (by omega)) ?_
  obtain⟨⟨p,ok⟩,eg⟩:∃ g,zi d.notes n.par=g:=⟨_,rfl⟩;rw[eg] at H ⊢;obtain⟨pi,pt,pp,pf,pto,prr,px⟩:=p;simp only[getD',Nt.row] at H ⊢;simp+decide[int];refine zg (RE S (by omega)) ?_
  by_cases C:je S=true
  .simp[C] at H
   simp+decide[I64,C];exact⟨by omega,k+1,out,⟨G,fin _ H HO⟩,by omega,by omega⟩
  .simp[C] at H
   simp+decide[I64,C];exact⟨by omega,k+1,10,⟨G,fin _ H HO⟩,by omega,by omega⟩
 by_cases k4:kd=4
 .subst k4
  have A:zK 4=false:=rfl
  have HO:zK 4=true->xW S=false:=λh=>by rw[A] at h;cases h
  simp+decide[int,A,zl];refine zg (jX d n.par (by omega)) ?_
  obtain⟨⟨p,ok⟩,eg⟩:∃ g,zi d.notes n.par=g:=⟨_,rfl⟩;rw[eg] at H ⊢;obtain⟨pi,pt,pp,pf,pto,prr,px⟩:=p;simp only[getD',Nt.row] at H ⊢;by_cases C:1<S.length
  .have K:(1:Int)<S.length:=by omega
   simp[C] at H;simp+decide[int,I64,K];exact⟨by omega,k+1,8,⟨G,fin _ H HO⟩,by omega,by omega⟩
  .have K:¬(1:Int)<S.length:=by omega
   simp[C] at H;simp+decide[int,I64,K];exact⟨by omega,k+1,out,⟨G,fin _ H HO⟩,by omega,by omega⟩
 have A:zK kd=false:=by simp[zK,k0,k1,k2]
 have HO:zK kd=true->xW S=false:=λh=>by rw[A] at h;cases h
 simp+decide[int,A,zl]
 refine zg (jX d n.par (by omega)) ?_
 obtain⟨⟨p,ok⟩,eg⟩:∃ g,zi d.notes n.par=g:=⟨_,rfl⟩
 rw[eg] at H ⊢
 obtain⟨pi,pt,pp,pf,pto,prr,px⟩:=p
 simp only[getD',Nt.row] at H ⊢
 simp[k1,k3,k4] at H
 simp+decide[int,I64,k1,k3,k4]
 exact⟨by omega,k+1,out,⟨G,fin _ H HO⟩,by omega,by omega⟩
def jh(d:Dc):Nat->Nat->Int
 |0,_=>0
 |m+1,i=>if i<d.tiers.length then (if jg d i=0 then jh d m (i+1) else jg d i) else 0
def jF(d:Dc):Int:=
 if jb d.tiers≠0 then jb d.tiers else if d.len<0\/86400000<d.len then 12 else if 300<d.notes.length then 11
 else if qs d d.notes.length 0≠0 then qs d d.notes.length 0 else jh d d.tiers.length 0
theorem DW(d:Dc)(K:d.tiers.length<2^40)(J:d.notes.length<2^40)(hs:∀ t∈d.tiers,t.name.size<=9223372036854775807)(L:∀ n∈d.notes,n.text.size<=9223372036854775807):
  zj Tryz.prog 32 [zq d] (int (jF d)):=by
 refine zn mixed Tryz.func32 rfl c_32 ?_
 simp+decide[Tryz.f32,zq,Dc.row]
 refine zg (Po d.tiers (by omega) hs) ?_
 by_cases M:jb d.tiers=0
 case neg=>simp+decide[int,M,jF]
 by_cases h2:d.len<0
 .simp+decide[int,M,h2,jF]
 by_cases O:86400000<d.len
 .simp+decide[int,M,h2,O,jF]
 by_cases Q:300<d.notes.length
 .have F:(300:Int)<d.notes.length:=by omega
  simp+decide[int,M,h2,O,Q,F,jF,zl]
 have F:¬(300:Int)<d.notes.length:=by omega
 have T:jF d=if qs d d.notes.length 0=0 then jh d d.tiers.length 0 else qs d d.notes.length 0:=by
  simp only[jF];rw[if_neg (by simpa using M),if_neg (by omega),if_neg Q]
  by_cases h:qs d d.notes.length 0=0 <;> simp[h]
 rw[T]
 simp+decide[int,M,h2,O,F,zl]
 refine zm mixed (λi:Nat=>{n:=54,next:=1,slots:=[(1,.bp 0 0),(4,.d (.int .i64 i))],own:=[(0,.box 53 (zW d))]})
  (λi=>i<=d.notes.length/\qs d d.notes.length 0=qs d (d.notes.length-i) i) (λi=>d.notes.length-i) 0 (by simp) (by simp+decide[int,zl,zw,ints]) ?_
 rintro i ⟨hi,V⟩
 by_cases G:i<d.notes.length
 .obtain⟨m,X⟩:∃ m,d.notes.length-i=m+1:=⟨d.notes.length-i-1,by omega⟩
  have E:d.notes.length-(i+1)=m:=by omega
  rw[X,WW,if_pos G] at V;have H:(i:Int)<d.notes.length:=by omega
  simp+decide[int,zl,H];refine zg (Rj d i G (by omega) (by omega) L) ?_
  by_cases Y:vp d i=0
  .rw[if_pos Y] at V
   simp+decide[int,Y,I64];exact⟨by omega,i+1,⟨by omega,by rw[V,E]⟩,by omega,by simp⟩
  .rw[if_neg Y] at V
   simp+decide[int,Y,V]
 .have:i=d.notes.length:=by omega
  subst this;rw[Nat.sub_self] at V;rw[V];simp+decide[int,qs,zw,zl];refine zm mixed (λi:Nat=>{n:=54,next:=1,slots:=[(1,.bp 0 0),(6,.d (.int .i64 i))],own:=[(0,.box 53 (zW d))]})
   (λi=>i<=d.tiers.length/\jh d d.tiers.length 0=jh d (d.tiers.length-i) i) (λi=>d.tiers.length-i) 0 (by simp) (by simp+decide) ?_
  rintro i ⟨hi,V⟩
  by_cases G:i<d.tiers.length
  .have H:(i:Int)<d.tiers.length:=by omega
   obtain⟨m,X⟩:∃ m,d.tiers.length-i=m+1:=⟨d.tiers.length-i-1,by omega⟩
   have E:d.tiers.length-(i+1)=m:=by omega
   rw[X] at V;simp only[jh,if_pos G] at V;simp+decide[int,zw,H];refine zg (RF d i G (by omega)) ?_
   by_cases Y:jg d i=0
   .rw[if_pos Y] at V
    simp+decide[int,Y,I64];exact⟨by omega,i+1,⟨by omega,by rw[V,E]⟩,by omega,by simp⟩
   .rw[if_neg Y] at V
    simp+decide[int,Y,V]
  .have:i=d.tiers.length:=by omega
   subst this;rw[Nat.sub_self] at V;simp+decide[int,zw,V,jh]
def wO(d:Dc):Bool:=decide (d.notes.length<=14)&&decide (d.tiers.length<=6)&&decide (d.spk.length<=6)&&decide (jF d=0)
theorem RG(d:Dc)(hs:∀ t∈d.tiers,t.name.size<=9223372036854775807)(H:∀ n∈d.notes,n.text.size<=9223372036854775807):
  zj Tryz.prog 17 [zq d] (.bool (wO d)):=by
 refine zn mixed Tryz.func17 rfl c_17 ?_
 by_cases G:d.notes.length<=14
 case neg=>
  have g1:¬(d.notes.length:Int)<=14:=by omega
  simp+decide[Tryz.f17,zq,Dc.row,zl,zw,ints,int,wO,G,g1]
 have g1:(d.notes.length:Int)<=14:=by omega
 by_cases h2:d.tiers.length<=6
 case neg=>
  have g2:¬(d.tiers.length:Int)<=6:=by omega
  simp+decide[Tryz.f17,zq,Dc.row,zl,zw,ints,int,wO,G,g1,h2,g2]
 have g2:(d.tiers.length:Int)<=6:=by omega
 by_cases F:d.spk.length<=6
 case neg=>
  have g3:¬(d.spk.length:Int)<=6:=by omega
  simp+decide[Tryz.f17,zq,Dc.row,zl,zw,ints,int,wO,G,g1,h2,g2,F,g3]
 have g3:(d.spk.length:Int)<=6:=by omega
 simp+decide[Tryz.f17,zq,Dc.row,zl,zw,ints,int,g1,g2,g3]
 refine zg (DW d (by omega) (by omega) hs H) ?_
 by_cases E:jF d=0
 .simp+decide[int,E,wO,G,h2,F]
 .simp+decide[int,E,wO,G,h2,F]
def kO(l:List Sp)(v:Int):Prop:=∃ y∈l,y.fr<=v/\v<y.tO
theorem DX{s:Sp}:s.rt=true↔0<=s.fr/\s.fr<s.tO/\s.tO<=86400000:=by
 simp only[Sp.rt,yt,Bool.and_eq_true,decide_eq_true_eq,and_assoc]
theorem DY{x s:Sp}(H:x.rt=true)(hs:s.rt=true)(v:Int):kO (jE x s) v↔(x.fr<=v/\v<x.tO)/\¬(s.fr<=v/\v<s.tO):=by
 rw[DX] at H hs
 obtain⟨a1,a2,a3⟩:=H
 obtain⟨b1,b2,b3⟩:=hs
 have e1:yt x.fr (min x.tO s.fr)=true↔x.fr<min x.tO s.fr:=by
  simp only[yt,Bool.and_eq_true,decide_eq_true_eq];omega
 have e2:yt (max x.fr s.tO) x.tO=true↔max x.fr s.tO<x.tO:=by
  simp only[yt,Bool.and_eq_true,decide_eq_true_eq];omega
 unfold kO jE
 constructor
 .rintro⟨y,G,F,h2⟩
  rcases List.mem_append.1 G with h | h
  .split at h
   .simp at h;subst h;simp only at F h2;omega
   .cases h
  .split at h
   .simp at h;subst h;simp only at F h2;omega
   .cases h
 .rintro⟨⟨F,h2⟩,E⟩
  by_cases K:v<s.fr
  .refine⟨⟨x.fr,min x.tO s.fr⟩,?_,F,by simp only;omega⟩
   rw[if_pos (e1.2 (by omega))];simp
  .refine⟨⟨max x.fr s.tO,x.tO⟩,?_,by simp only;omega,h2⟩
   rw[if_pos (e2.2 (by omega))];simp
theorem RH{s:Sp}(hs:s.rt=true)(v:Int){l:List Sp}(H:∀ x∈l,x.rt=true):kO (xF l s) v↔kO l v/\¬(s.fr<=v/\v<s.tO):=by
 unfold xF
 constructor
 .rintro⟨y,G,F⟩
  obtain⟨x,E,h⟩:=List.mem_flatMap.1 G;have:=(DY (H x E) hs v).1 ⟨y,h,F⟩
  exact⟨⟨x,E,this.1⟩,this.2⟩
 .rintro⟨⟨x,E,F⟩,h2⟩
  obtain⟨y,G,K⟩:=(DY (H x E) hs v).2 ⟨F,h2⟩;exact⟨y,List.mem_flatMap.2 ⟨x,E,G⟩,K⟩
theorem Vd(v:Int):∀ (b a:List Sp),(∀ x∈a,x.rt=true)->(kO (xT a b) v↔kO a v/\∀ y∈b,y.rt=true->¬(y.fr<=v/\v<y.tO))
 | [],a,h=>by simp[xT]
 |y::r,a,h=>by
  have e:xT a (y::r)=xT (if y.rt=true then xF a y else a) r:=rfl
  rw[e];by_cases H:y.rt=true
  .rw[if_pos H,Vd v r _ DR,RH H v h]
   constructor
   .rintro⟨⟨G,h2⟩,F⟩
    refine⟨G,λz E K=>?_⟩
    rcases List.mem_cons.1 E with rfl | E
    .exact h2
    .exact F z E K
   .rintro⟨G,F⟩
    exact⟨⟨G,F y (by simp) H⟩,λz E K=>F z (by simp[E]) K⟩
  .rw[if_neg H,Vd v r _ h]
   constructor
   .rintro⟨G,F⟩
    refine⟨G,λz E K=>?_⟩
    rcases List.mem_cons.1 E with rfl | E
    .exact absurd K H
    .exact F z E K
   .rintro⟨G,F⟩
    exact⟨G,λz E K=>F z (by simp[E]) K⟩
theorem DZ{l:List Sp}{s:Sp}:jd l s=true↔s.rt=true/\∀ v,s.fr<=v->v<s.tO->∃ y∈l,y.rt=true/\y.fr<=v/\v<y.tO:=by
 unfold jd
 rw[Bool.and_eq_true]
 constructor
 .rintro⟨hs,F⟩
  refine⟨hs,λv E h2=>?_⟩
  have K:=Vd v l [s] (by simpa using hs)
  rw[List.isEmpty_iff.1 F] at K;have J:¬kO [] v:=by rintro⟨y,L,_⟩;cases L
  have:¬(kO [s] v/\∀ y∈l,y.rt=true->¬(y.fr<=v/\v<y.tO)):=λh=>J (K.2 h)
  apply Classical.byContradiction
  intro M;exact this ⟨⟨s,by simp,E,h2⟩,λy L O Q=>M ⟨y,L,O,Q⟩⟩
 .rintro⟨hs,h⟩
  refine⟨hs,?_⟩
  have H:=(Vb l [s] (by simpa using hs)).1
  cases K:xT [s] l with
  |nil=>rfl
  |cons y r=>
   exfalso
   have L:=DX.1 (H y (by rw[K];simp))
   have G:kO (xT [s] l) y.fr:=⟨y,by rw[K];simp,Int.le_refl _,L.2.1⟩
   obtain⟨⟨z,T,E,h2⟩,V⟩:=(Vd y.fr l [s] (by simpa using hs)).1 G
   simp at T;subst T
   obtain⟨u,X,O,Q⟩:=h _ E h2;exact V u X O Q
theorem C0{α:Type}{q:α->Bool}:∀ {s:List α} {i:Nat} (h:i<s.length),q s[i]=true->(s.filter q)[((s.take i).filter q).length]?=some s[i]
 |x::r,0,h,G=>by
  have H:q x=true:=G
  simp[H]
 |x::r,i+1,h,G=>by
  have F:i<r.length:=by simpa using h
  have ih:=C0 (q:=q) F G;by_cases E:q x=true
  .simp only[List.take_succ_cons,List.filter_cons_of_pos E,List.length_cons,List.getElem?_cons_succ,List.getElem_cons_succ]
   exact ih
  .simp only[List.take_succ_cons,List.filter_cons_of_neg E,List.getElem_cons_succ]
   exact ih
theorem WZ{α:Type}{q:α->Bool}:∀ {s:List α} {j:Nat},j<(s.filter q).length->∃ i,∃ h:i<s.length,q s[i]=true/\((s.take i).filter q).length=j
 | [],j,h=>by simp at h
 |x::r,j,h=>by
  by_cases H:q x=true
  .cases j with
   |zero=>exact⟨0,by simp,H,by simp⟩
   |succ j=>
    rw[List.filter_cons_of_pos H,List.length_cons] at h;obtain⟨i,hi,G,h2⟩:=WZ (q:=q) (s:=r) (j:=j) (by omega)
    exact⟨i+1,by simpa using hi,G,by rw[List.take_succ_cons,List.filter_cons_of_pos H,List.length_cons,h2]⟩
  .rw[List.filter_cons_of_neg H] at h
   obtain⟨i,hi,G,h2⟩:=WZ (q:=q) (s:=r) h;exact⟨i+1,by simpa using hi,G,by rw[List.take_succ_cons,List.filter_cons_of_neg H,h2]⟩
theorem C2:∀ (l:List Int) (c:Int),l.Pairwise (·<=·)->(∀ n:Nat,n<=l.length->c+n∈l)->False
 | [],c,_,h=>by have:=h 0 (by simp);simp at this
 |x::r,c,H,h=>by
  rw[List.pairwise_cons] at H;have G:x<=c:=by
   have:=h 0 (by simp)
   rcases List.mem_cons.1 this with e | e
   .simp at e;omega
   .have:=H.1 _ e;simp at this;exact this
  refine C2 r (c+1) H.2 λn hn=>?_
  have:=h (n+1) (by simp;omega)
  rcases List.mem_cons.1 this with e | e
  .exfalso;push_cast at e;omega
  .have e2:c+1+(n:Int)=c+((n+1:Nat):Int):=by push_cast;omega
   rw[e2];exact e
theorem C3:∀ (l:List Int) (c:Int),l.Pairwise (·<=·)->(∀ n:Nat,n<l.length->c+n∈l)->∀ j:Nat,j<l.length->l[j]?=some (c+j)
 | [],c,_,h,j,F=>by simp at F
 |x::r,c,E,h,j,F=>by
  rw[List.pairwise_cons] at E;have K:x<=c:=by
   have:=h 0 (by simp)
   rcases List.mem_cons.1 this with e | e
   .simp at e;omega
   .have:=E.1 _ e;simp at this;exact this
  have H:x=c:=by
   apply Classical.byContradiction
   intro G;refine C2 r c E.2 λn J=>?_
   have:=h n (by simp;omega)
   rcases List.mem_cons.1 this with e | e
   .exfalso;omega
   .exact e
  cases j with
  |zero=>simp[H]
  |succ j=>
   have:=C3 r (c+1) E.2 (λn J=>by
    have:=h (n+1) (by simp;omega)
    rcases List.mem_cons.1 this with e | e
    .exfalso;push_cast at e;omega
    .have e2:c+1+(n:Int)=c+((n+1:Nat):Int):=by push_cast;omega
     rw[e2];exact e) j (by simpa using F)
   rw[List.getElem?_cons_succ,this];congr 1;push_cast;omega
end Go.V.Doc
namespace Go.V.Doc
open Go Go.Proofs
def gN(s:List Nt)(i:Nat):Nt:=s[i]?.getD default
theorem qf{s:List Nt}{i:Nat}(h:i<s.length):gN s i=s[i]:=by unfold gN;rw[List.getElem?_eq_getElem h];rfl
theorem vq{s:List Nt}{i:Nat}(h:i<s.length):gN s i∈s:=by rw[qf h];exact List.getElem_mem h
def uN{α:Type}(ov bad:α->Bool)(c:Int):List α->Int->Int
 | [],out=>out
 |x::r,out=>if ov x=true then 15 else uN ov bad c r (if bad x=true then c else out)
theorem K0{α:Type}(ov bad:α->Bool)(c:Int):∀ (l:List α) (out:Int),uN ov bad c l out=if l.any ov=true then 15 else if l.any bad=true then c else out
 | [],out=>by simp[uN]
 |x::r,out=>by
  simp only[uN];rw[K0 ov bad c r];simp only[List.any_cons];have h:∀ a b e g:Bool,(if a=true then (15:Int) else if e=true then 15 else if g=true then c else if b=true then c else out)=if (a || e)=true then 15 else if (b || g)=true then c else out:=by
   intro a b e g;cases a <;> cases b <;> cases e <;> cases g <;> simp
  exact h _ _ _ _
def uO(kd:Int):Int:=if kd=1 then 16 else if kd=3 then 10 else 8
def ZP(kd:Int)(s:List Nt)(i:Nat):Bool:=zK kd&&(!yo s i&&decide ((gN s i).fr<(gN s (i-1)).tO))
def jY(notes:List Nt)(kd:Int)(s:List Nt)(i:Nat):Bool:=
 (decide (kd=1)&&((yo s i && !decide ((gN s i).fr=(zi notes (gN s i).par).1.fr)) || (!yo s i && !decide ((gN s (i-1)).tO=(gN s i).fr)) || (lastB s i && !decide ((gN s i).tO=(zi notes (gN s i).par).1.tO)))) ||
 (decide (kd=3)&&((yo s i && !decide ((gN s i).rank=0)) || (!yo s i && !decide ((gN s i).rank=IntKind.i64.wrap ((gN s (i-1)).rank+1))))) ||
 (decide (kd=4) && !yo s i)
theorem C4(notes:List Nt)(kd:Int)(s:List Nt):∀ (m i:Nat) (why:Int),i+m<=s.length->Z7 notes kd s m i why=uN (ZP kd s) (jY notes kd s) (uO kd) (List.range' i m) why
 |0,i,why,_=>rfl
 |m+1,i,why,h=>by
  have ih:=λw=>C4 notes kd s m (i+1) w (by omega)
  rw[List.range'_succ];simp only[Z7,uN];rw[if_pos (show i<s.length by omega)]
  simp only[ih];have e1:(s[i]?.getD default)=gN s i:=rfl
  have e2:(s[i-1]?.getD default)=gN s (i-1):=rfl
  rw[e1,e2];unfold ZP jY uO;generalize gN s i=n;generalize gN s (i-1)=pv;generalize (zi notes n.par).1=p;generalize yo s i=F;generalize lastB s i=L;by_cases k0:kd=0
  .subst k0
   cases F <;> simp[zK]
  by_cases k1:kd=1
  .subst k1
   cases F <;> cases L <;> simp[zK]
  by_cases k2:kd=2
  .subst k2
   cases F <;> simp[zK]
  by_cases k3:kd=3
  .subst k3
   cases F <;> simp[zK]
  by_cases k4:kd=4
  .subst k4
   cases F <;> simp[zK]
  simp[zK,k0,k1,k2,k3,k4]
theorem RI(d:Dc)(t:Int):Xc d t=if (List.range' 0 (xf (yb d.notes t)).length).any (ZP (zx d t).kind (xf (yb d.notes t)))=true then 15
  else if (List.range' 0 (xf (yb d.notes t)).length).any (jY d.notes (zx d t).kind (xf (yb d.notes t)))=true then uO (zx d t).kind else 0:=by
 unfold Xc
 rw[<-WT (yb d.notes t),C4 _ _ _ _ _ _ (by simp),K0]
def jG(d:Dc)(t kd:Int)(n:Nt):Bool:=zK kd&&xW (yf d.notes t n.par)
def badR(d:Dc)(t kd:Int)(n:Nt):Bool:=
 (decide (kd=1) && !jd (spansOf (yf d.notes t n.par)) ⟨(zi d.notes n.par).1.fr,(zi d.notes n.par).1.tO⟩) || (decide (kd=3) && !je (yf d.notes t n.par)) || (decide (kd=4)&&decide (1<(yf d.notes t n.par).length))
theorem C5(d:Dc)(t kd:Int):∀ (l:List Nt) (out:Int),jf d t kd l out=uN (jG d t kd) (badR d t kd) (uO kd) (yb l t) out
 | [],out=>rfl
 |n::r,out=>by
  have ih:=λw=>C5 d t kd r w
  simp only[jf];by_cases h:n.tier=t
  .have e:yb (n::r) t=n::yb r t:=by unfold yb;rw[List.filter_cons_of_pos (by simpa using h)]
   rw[if_pos h,e];simp only[uN,ih];unfold jG badR Xe uO;generalize jd (spansOf (yf d.notes t n.par)) ⟨(zi d.notes n.par).1.fr,(zi d.notes n.par).1.tO⟩=C;generalize je (yf d.notes t n.par)=R;generalize (yf d.notes t n.par).length=z;generalize xW (yf d.notes t n.par)=O;by_cases k1:kd=1
   .subst k1;cases C <;> simp[zK]
   by_cases k3:kd=3
   .subst k3;cases R <;> simp[zK]
   by_cases k4:kd=4
   .subst k4;simp[zK]
   simp[k1,k3,k4]
  .have e:yb (n::r) t=yb r t:=by unfold yb;rw[List.filter_cons_of_neg (by simpa using h)]
   rw[if_neg h,e,ih]
theorem C6(d:Dc)(t:Int):jg d t=if (yb d.notes t).any (jG d t (zx d t).kind)=true then 15 else if (yb d.notes t).any (badR d t (zx d t).kind)=true then uO (zx d t).kind else 0:=by
 unfold jg
 rw[C5,K0]
structure Srt(s:List Nt):Prop where
 par:∀ i j,i<j->j<s.length->(gN s i).par<=(gN s j).par
 fr:∀ i j,i<j->j<s.length->(gN s i).par=(gN s j).par->(gN s i).fr<=(gN s j).fr
 rank:∀ i j,i<j->j<s.length->(gN s i).par=(gN s j).par->(gN s i).fr=(gN s j).fr->(gN s i).rank<=(gN s j).rank
theorem RJ(l:List Nt):Srt (xf l):=by
 have h:∀ i j,i<j->j<(xf l).length->¬((gN (xf l) j).par<(gN (xf l) i).par\/((gN (xf l) j).par=(gN (xf l) i).par/\((gN (xf l) j).fr<(gN (xf l) i).fr\/((gN (xf l) j).fr=(gN (xf l) i).fr/\(gN (xf l) j).rank<(gN (xf l) i).rank)))):=by
  intro i j H G;have:=List.pairwise_iff_getElem.1 (R9 l) i j (by omega) G H
  rw[WR] at this;rw[qf G,qf (show i<_ by omega)]
  exact this
 exact⟨λi j H G=>by have:=h i j H G;omega,λi j H G e=>by have:=h i j H G;omega,λi j H G e e'=>by have:=h i j H G;omega⟩
theorem Xf{s:List Nt}{i:Nat}:yo s i=true↔i=0\/(gN s (i-1)).par≠(gN s i).par:=by
 unfold yo
 rw[Bool.or_eq_true,decide_eq_true_eq,Bool.not_eq_true',decide_eq_false_iff_not]
 rfl
theorem ZQ{s:List Nt}{i:Nat}:yo s i=false↔i≠0/\(gN s (i-1)).par=(gN s i).par:=by
 rw[<-Bool.not_eq_true,Xf]
 exact⟨λh=>⟨λe=>h (.inl e),Classical.byContradiction λe=>h (.inr e)⟩,λh h'=>h'.elim (λe=>h.1 e) (λe=>e h.2)⟩
theorem C7{s:List Nt}{i:Nat}:lastB s i=true↔i+1=s.length\/(gN s (i+1)).par≠(gN s i).par:=by
 unfold lastB
 rw[Bool.or_eq_true,decide_eq_true_eq,Bool.not_eq_true',decide_eq_false_iff_not]
 rfl
def Xg(s:List Nt):Prop:=∀ i j,i<j->j<s.length->(gN s i).par=(gN s j).par->(gN s i).tO<=(gN s j).fr
theorem RL{s:List Nt}(hs:Srt s)(h:∀ i,i<s.length->(!yo s i&&decide ((gN s i).fr<(gN s (i-1)).tO))=false):Xg s:=by
 intro i j H G F
 have E:(gN s i).par=(gN s (i+1)).par:=by
  rcases Nat.eq_or_lt_of_le (show i+1<=j from H) with e | e
  .rw[e];exact F
  .have a:=hs.par i (i+1) (by omega) (by omega)
   have b:=hs.par (i+1) j e G;omega
 have h2:=h (i+1) (by omega)
 have K:yo s (i+1)=false:=ZQ.2 ⟨by omega,E⟩
 rw[K] at h2
 simp at h2
 rcases Nat.eq_or_lt_of_le (show i+1<=j from H) with e | e
 .subst e;exact h2
 .have:=hs.fr (i+1) j e G (by omega)
  omega
theorem RN{s:List Nt}(h:Xg s):∀ i,i<s.length->(!yo s i&&decide ((gN s i).fr<(gN s (i-1)).tO))=false:=by
 intro i hi
 cases H:yo s i with
 |true=>rfl
 |false=>
  obtain⟨G,F⟩:=ZQ.1 H;have:=h (i-1) i (by omega) hi F
  simp;omega
def NM(x y:Nt):Prop:=¬(x.fr<y.tO/\y.fr<x.tO)
theorem NM.symm{x y:Nt}(h:NM x y):NM y x:=λe=>h ⟨e.2,e.1⟩
theorem C9{l:List Nt}:xW l=false↔l.Pairwise NM:=by
 rw[WX,List.pairwise_iff_getElem]
 constructor
 .intro h i j hi G H
  have:=h j G i H
  unfold kN at this;rw[List.getElem?_eq_getElem G,List.getElem?_eq_getElem hi] at this;simp only[Option.getD_some,Bool.and_eq_false_iff,decide_eq_false_iff_not] at this;rintro⟨a,b⟩
  rcases this with h | h
  .exact h b
  .exact h a
 .intro h i hi k F
  have:=h k i (by omega) hi F
  unfold kN;rw[List.getElem?_eq_getElem hi,List.getElem?_eq_getElem (show k<l.length by omega)]
  simp only[Option.getD_some,Bool.and_eq_false_iff,decide_eq_false_iff_not];by_cases c:l[i].fr<l[k].tO
  .right;intro c';exact this ⟨c',c⟩
  .left;exact c
section
variable {d:Dc} {t:Int} {s:List Nt}
theorem RO(notes:List Nt)(t p:Int):yf notes t p=(yb notes t).filter λn=>decide (n.par=p):=by
 unfold yf yb
 rw[List.filter_filter]
 congr 1;funext n;rw[Bool.and_comm]
theorem uP(H:s.Perm (yb d.notes t))(p:Int):(s.filter λn=>decide (n.par=p)).Perm (yf d.notes t p):=by
 rw[RO];exact H.filter _
theorem Cb(F:s.Perm (yb d.notes t))(hs:Srt s)(E:∀ n∈s,n.fr<n.tO):Xg s↔∀ n∈yb d.notes t,xW (yf d.notes t n.par)=false:=by
 constructor
 .intro h n hn
  rw[C9];refine((uP F n.par).pairwise_iff λh=>NM.symm h).1 ?_
  rw[List.pairwise_filter,List.pairwise_iff_getElem];intro i j hi K H J h2;simp at J h2
  have:=h i j H K (by rw[qf hi,qf K,J,h2])
  rw[qf hi,qf K] at this;rintro⟨_,b⟩
  omega
 .intro h i j H K G
  have hi:i<s.length:=by omega
  have J:=h (gN s i) (F.mem_iff.1 (vq hi));rw[C9] at J;have h2:=((uP F (gN s i).par).pairwise_iff λh=>NM.symm h).2 J
  rw[List.pairwise_filter,List.pairwise_iff_getElem] at h2;have L:=h2 i j hi K H (by rw[qf hi];simp) (by rw[<-qf K,<-G];simp)
  rw[<-qf hi,<-qf K] at L;have a:=hs.fr i j H K G;have b:=E _ (vq K);have c:¬(gN s j).fr<(gN s i).tO:=λe=>L ⟨by omega,e⟩
  omega
end
end Go.V.Doc
namespace Go.V.Doc
open Go Go.Proofs
section
variable {d:Dc} {t:Int} {s:List Nt}
def Z8(notes:List Nt)(s:List Nt)(i:Nat):Bool:=
 (yo s i && !decide ((gN s i).fr=(zi notes (gN s i).par).1.fr)) || (!yo s i && !decide ((gN s (i-1)).tO=(gN s i).fr)) || (lastB s i && !decide ((gN s i).tO=(zi notes (gN s i).par).1.tO))
theorem Cc:∀ i,∃ j,j<=i/\(gN s j).par=(gN s i).par/\yo s j=true
 |0=>⟨0,by omega,rfl,Xf.2 (.inl rfl)⟩
 |i+1=>by
  cases h:yo s (i+1) with
  |true=>exact⟨i+1,by omega,rfl,h⟩
  |false=>
   obtain⟨_,G⟩:=ZQ.1 h;obtain⟨j,F,h2,E⟩:=Cc i;have H:(gN s i).par=(gN s (i+1)).par:=G
   exact⟨j,by omega,h2.trans H,E⟩
theorem K2(H:s.Perm (yb d.notes t)){p:Int}{m:Nt}:m∈yf d.notes t p↔∃ j,j<s.length/\(gN s j).par=p/\gN s j=m:=by
 rw[<-(uP H p).mem_iff,List.mem_filter]
 constructor
 .rintro⟨G,h2⟩
  obtain⟨j,F,e⟩:=List.mem_iff_getElem.1 G;rw[<-qf F] at e;exact⟨j,F,by rw[e];simpa using h2,e⟩
 .rintro⟨j,F,G,rfl⟩
  exact⟨vq F,by simpa using G⟩
structure Wit(notes s:List Nt):Prop where
 right:∀ n∈s,yt n.fr n.tO=true
 prt:∀ n∈s,yt (zi notes n.par).1.fr (zi notes n.par).1.tO=true
 lo:∀ n∈s,(zi notes n.par).1.fr<=n.fr
 hi:∀ n∈s,n.tO<=(zi notes n.par).1.tO
theorem RP(hp:s.Perm (yb d.notes t))(hs:Srt s)(ha:Xg s)(hw:Wit d.notes s):
  (∀ i,i<s.length->Z8 d.notes s i=false)↔∀ n∈yb d.notes t,jd (spansOf (yf d.notes t n.par)) ⟨(zi d.notes n.par).1.fr,(zi d.notes n.par).1.tO⟩=true:=by
 have L:∀ n∈s,0<=n.fr/\n.fr<n.tO/\n.tO<=86400000:=λn hn=>by have:=hw.right n hn;simpa only [yt,Bool.and_eq_true,decide_eq_true_eq,and_assoc] using this
 constructor
 .intro h n hn
  have M:n∈s:=hp.mem_iff.2 hn
  obtain⟨i0,A,e0⟩:=List.mem_iff_getElem.1 M;rw[<-qf A] at e0;subst e0;rw[DZ];refine⟨hw.prt _ M,λv B hv2=>?_⟩
  simp only at B hv2
  have up:∀ k i,s.length-i<=k->i<s.length->(gN s i).par=(gN s i0).par->(gN s i).fr<=v->∃ j,j<s.length/\(gN s j).par=(gN s i0).par/\(gN s j).fr<=v/\v<(gN s j).tO:=by
   intro k;induction k with
   |zero=>intro i h1 h2;omega
   |succ k ih=>
    intro i h1 h2 h3 h4;by_cases h5:v<(gN s i).tO
    .exact⟨i,h2,h3,h4,h5⟩
    have hg:=h i h2;simp only[Z8,Bool.or_eq_false_iff,Bool.and_eq_false_iff,Bool.not_eq_false',decide_eq_true_eq] at hg;have hl:lastB s i=false:=by
     rcases hg.2 with e | e
     .exact e
     .rw[h3] at e;omega
    rw[<-Bool.not_eq_true,C7,not_or,Classical.not_not] at hl;have O:i+1<s.length:=by omega
    have hf:yo s (i+1)=false:=ZQ.2 ⟨by omega,by simpa using hl.2.symm⟩
    have Q:=h (i+1) O;simp only[Z8,Bool.or_eq_false_iff,Bool.and_eq_false_iff,Bool.not_eq_false',decide_eq_true_eq,hf] at Q;have N:(gN s i).tO=(gN s (i+1)).fr:=by
     rcases Q.1.2 with e | e
     .cases e
     .simpa using e
    exact ih (i+1) (by omega) O (hl.2.trans h3) (by omega)
  obtain⟨j,hj,H,C⟩:=Cc (s:=s) i0;have T:j<s.length:=by omega
  have V:=h j T;simp only[Z8,Bool.or_eq_false_iff,Bool.and_eq_false_iff,Bool.not_eq_false',decide_eq_true_eq,C] at V;have P:(gN s j).fr=(zi d.notes (gN s i0).par).1.fr:=by
   rcases V.1.1 with e | e
   .cases e
   .rw[H] at e;exact e
  obtain⟨y,hy,I,F,E⟩:=up _ j (Nat.le_refl _) T H (by omega)
  exact⟨⟨(gN s y).fr,(gN s y).tO⟩,List.mem_map.2 ⟨gN s y,(K2 hp).2 ⟨y,hy,I,rfl⟩,rfl⟩,hw.right _ (vq hy),F,E⟩
 .intro h i hi
  have hc:=DZ.1 (h _ (hp.mem_iff.1 (vq hi)));have pt:=hw.prt _ (vq hi);have cov:∀ v,(zi d.notes (gN s i).par).1.fr<=v->v<(zi d.notes (gN s i).par).1.tO->∃ j,j<s.length/\(gN s j).par=(gN s i).par/\(gN s j).fr<=v/\v<(gN s j).tO:=by
   intro v h1 h2;obtain⟨y,hy,_,F,E⟩:=hc.2 v h1 h2;obtain⟨m,hm,rfl⟩:=List.mem_map.1 hy;obtain⟨j,hj,H,rfl⟩:=(K2 hp).1 hm;exact⟨j,hj,H,F,E⟩
  have lo:=hw.lo _ (vq hi);have S:=hw.hi _ (vq hi);have W:=L _ (vq hi);generalize hP:(zi d.notes (gN s i).par).1.fr=a at *;generalize hQ:(zi d.notes (gN s i).par).1.tO=b at *;have pt':a<b:=by simp only[yt,Bool.and_eq_true,decide_eq_true_eq] at pt;omega
  simp only[Z8,Bool.or_eq_false_iff,Bool.and_eq_false_iff,Bool.not_eq_false',decide_eq_true_eq,hP,hQ];refine⟨⟨?_,?_⟩,?_⟩
  .cases hf:yo s i with
   |false=>exact .inl rfl
   |true=>
    right
    apply Classical.byContradiction
    intro X;obtain⟨j,hj,H,Y,Z⟩:=cov a (Int.le_refl _) pt';rcases Nat.lt_trichotomy j i with G | rfl | G
    .rcases Xf.1 hf with e | e
     .omega
     .apply e
      rcases Nat.eq_or_lt_of_le (show j<=i-1 by omega) with e' | e'
      .rw[<-e',H]
      .have x1:=hs.par j (i-1) e' (by omega)
       have x2:=hs.par (i-1) i (by omega) hi
       omega
    .omega
    .have:=hs.fr i j G hj H.symm
     omega
  .cases hf:yo s i with
   |true=>exact .inl rfl
   |false=>
    right
    obtain⟨h0,K⟩:=ZQ.1 hf;have J:i-1<s.length:=by omega
    have h1:=ha (i-1) i (by omega) hi K
    apply Classical.byContradiction
    intro X;have r1:=L _ (vq J);have l1:=hw.lo _ (vq J);rw[K,hP] at l1;obtain⟨j,hj,H,Y,Z⟩:=cov (gN s (i-1)).tO (by omega) (by omega)
    rcases Nat.lt_trichotomy j (i-1) with G | e | G
    .have:=ha j (i-1) G J (H.trans K.symm)
     omega
    .subst e;omega
    .rcases Nat.eq_or_lt_of_le (show i<=j by omega) with e' | e'
     .subst e';omega
     .have:=hs.fr i j e' hj H.symm
      omega
  .cases hf:lastB s i with
   |false=>exact .inl rfl
   |true=>
    right
    apply Classical.byContradiction
    intro X;obtain⟨j,hj,H,Y,Z⟩:=cov (gN s i).tO (by omega) (by omega)
    rcases Nat.lt_trichotomy j i with G | rfl | G
    .have:=ha j i G hi H
     omega
    .omega
    .rcases C7.1 hf with e | e
     .omega
     .apply e
      rcases Nat.eq_or_lt_of_le (show i+1<=j from G) with e' | e'
      .rw[e',H]
      .have x1:=hs.par (i+1) j e' hj
       have x2:=hs.par i (i+1) (by omega) (by omega)
       omega
def ji(s:List Nt)(i:Nat):Nat:=((s.take i).filter λn=>decide (n.par=(gN s i).par)).length
theorem Ve(hs:Srt s){i:Nat}(hi:i<s.length)(h:yo s i=true):ji s i=0:=by
 unfold ji
 rw[List.length_eq_zero_iff,List.filter_eq_nil_iff]
 intro x F E
 obtain⟨j,K,rfl⟩:=List.mem_take_iff_getElem.1 F
 have H:j<s.length:=by omega
 have G:j<i:=by omega
 simp only[decide_eq_true_eq] at E
 rw[<-qf H] at E
 rcases Xf.1 h with e | e
 .omega
 .apply e
  rcases Nat.eq_or_lt_of_le (show j<=i-1 by omega) with e' | e'
  .rw[<-e',E]
  .have x1:=hs.par j (i-1) e' (by omega)
   have x2:=hs.par (i-1) i (by omega) hi
   omega
theorem K3{i:Nat}(hi:i<s.length)(h:yo s i=false):ji s i=ji s (i-1)+1:=by
 obtain⟨G,F⟩:=ZQ.1 h
 obtain⟨j,rfl⟩:∃ j,i=j+1:=⟨i-1,by omega⟩
 have E:j<s.length:=by omega
 have H:(gN s j).par=(gN s (j+1)).par:=F
 unfold ji
 rw[take_snoc' E,List.filter_append,List.length_append]
 have:[s[j]].filter (λn=>decide (n.par=(gN s (j+1)).par))=[s[j]]:=by
  rw[List.filter_cons_of_pos (by rw[<-qf E];simpa using H)];rfl
 rw[this]
 simp only[Nat.add_sub_cancel,List.length_singleton,H]
theorem pos_at{i:Nat}(hi:i<s.length):(s.filter λn=>decide (n.par=(gN s i).par))[ji s i]?=some (gN s i):=by
 have:=C0 (q:=λn=>decide (n.par=(gN s i).par)) hi (by rw[<-qf hi];simp)
 rw[<-qf hi] at this
 exact this
theorem Cd{p:Int}{j:Nat}(h:j<(s.filter λn=>decide (n.par=p)).length):∃ i,i<s.length/\(gN s i).par=p/\ji s i=j:=by
 obtain⟨i,hi,G,h2⟩:=WZ h
 have H:(gN s i).par=p:=by rw[qf hi];simpa using G
 exact⟨i,hi,H,by unfold ji;rw[H];exact h2⟩
def kP(s:List Nt)(i:Nat):Bool:=(yo s i && !decide ((gN s i).rank=0)) || (!yo s i && !decide ((gN s i).rank=IntKind.i64.wrap ((gN s (i-1)).rank+1)))
theorem RQ(hs:Srt s)(G:s.length<2^40):(∀ i,i<s.length->kP s i=false)↔∀ i,i<s.length->(gN s i).rank=ji s i:=by
 have F:∀ i,ji s i<=s.length:=by
  intro i;unfold ji;exact Nat.le_trans (List.length_filter_le _ _) (by rw[List.length_take];omega)
 constructor
 .intro h i
  induction i with
  |zero=>
   intro hi;have E:yo s 0=true:=Xf.2 (.inl rfl)
   have:=h 0 hi
   rw[Ve hs hi E];simp[kP,E] at this;exact this
  |succ j ih=>
   intro hi;have:=h (j+1) hi
   cases E:yo s (j+1) with
   |true=>
    rw[Ve hs hi E];simp[kP,E] at this;exact this
   |false=>
    have e:=ih (by omega)
    have H:=F j;have e2:=K3 hi E;simp only[Nat.add_sub_cancel] at e2;simp[kP,E] at this;rw[this,e,e2,wrap64 (by omega)];push_cast;rfl
 .intro h i hi
  cases E:yo s i with
  |true=>
   have:=h i hi
   rw[Ve hs hi E] at this;simp[kP,E,this]
  |false=>
   have e2:=K3 hi E;have e:=h i hi;have e1:=h (i-1) (by omega)
   have H:=F (i-1);simp only[kP,E,Bool.false_and,Bool.false_or,Bool.not_false,Bool.true_and,Bool.not_eq_false',decide_eq_true_eq];rw[e,e1,e2,wrap64 (by omega)];push_cast;rfl
theorem RS(M:s.Perm (yb d.notes t))(hs:Srt s)(O:s.length<2^40)(Q:∀ n∈s,n.fr=0):
  (∀ i,i<s.length->kP s i=false)↔∀ n∈yb d.notes t,je (yf d.notes t n.par)=true:=by
 rw[RQ hs O]
 constructor
 .intro h n T
  rw[Xd];intro m V;rw[<-(uP M n.par).length_eq] at V;obtain⟨i,hi,X,h2⟩:=Cd V;rw[List.any_eq_true];exact⟨gN s i,(K2 M).2 ⟨i,hi,X,rfl⟩,by rw[decide_eq_true_eq,h i hi,h2]⟩
 .intro h i hi
  have Y:=Xd.1 (h _ (M.mem_iff.1 (vq hi)));have H:=(uP M (gN s i).par).length_eq;have E:((s.filter λn=>decide (n.par=(gN s i).par)).map (·.rank)).Pairwise (·<=·):=by
   rw[List.pairwise_map,List.pairwise_filter,List.pairwise_iff_getElem];intro a b Z A K X h2;simp only[decide_eq_true_eq] at X h2;rw[<-qf Z] at X ⊢;rw[<-qf A] at h2 ⊢;exact hs.rank a b K A (X.trans h2.symm) (by rw[Q _ (vq Z),Q _ (vq A)])
  have J:=C3 _ 0 E (λn T=>by
   rw[List.length_map,H] at T;have:=Y n T
   rw[List.any_eq_true] at this;obtain⟨x,B,G⟩:=this;simp only[decide_eq_true_eq] at G;rw[List.mem_map];exact⟨x,(uP M _).mem_iff.2 B,by rw[G];omega⟩)
  have F:=pos_at hi;have L:ji s i<(s.filter λn=>decide (n.par=(gN s i).par)).length:=(List.getElem?_eq_some_iff.1 F).1
  have:=J (ji s i) (by rw[List.length_map];exact L)
  rw[List.getElem?_map,F] at this;simp at this
  exact this
theorem RU(G:s.Perm (yb d.notes t))(hs:Srt s):(∀ i,i<s.length->yo s i=true)↔∀ n∈yb d.notes t,¬1<(yf d.notes t n.par).length:=by
 constructor
 .intro h n F E
  rw[<-(uP G n.par).length_eq] at E;obtain⟨i,hi,_,h2⟩:=Cd E;rw[Ve hs hi (h i hi)] at h2;cases h2
 .intro h i hi
  cases K:yo s i with
  |true=>rfl
  |false=>
   exfalso
   apply h _ (G.mem_iff.1 (vq hi))
   have e2:=K3 hi K;have H:=(List.getElem?_eq_some_iff.1 (pos_at hi)).1;rw[(uP G (gN s i).par).length_eq] at H;omega
end
end Go.V.Doc
namespace Go.V.Doc
open Go Go.Proofs
theorem K4(d:Dc):∀ (m i:Nat),i+m=d.notes.length->qs d m i=0->∀ j,i<=j->j<d.notes.length->vp d j=0
 |0,i,h,_,j,H,h2=>by omega
 |m+1,i,h,G,j,H,h2=>by
  rw[WW,if_pos (by omega)] at G
  by_cases F:vp d i=0
  .rw[if_pos F] at G
   rcases Nat.eq_or_lt_of_le H with e | e
   .rw[<-e];exact F
   .exact K4 d m (i+1) (by omega) G j e h2
  .rw[if_neg F] at G;exact absurd G F
theorem K5(l:List Tir):∀ (m i:Nat),i+m=l.length->uI l m i=0->∀ j,i<=j->(h:j<l.length)->qe (l.take j) l[j]=0
 |0,i,h,_,j,H,h2=>by omega
 |m+1,i,h,G,j,H,h2=>by
  simp only[uI] at G;rw[dif_pos (by omega)] at G
  by_cases F:qe (l.take i) (l[i]'(by omega))=0
  .rw[if_pos F] at G
   rcases Nat.eq_or_lt_of_le H with e | e
   .subst e;exact F
   .exact K5 l m (i+1) (by omega) G j e h2
  .rw[if_neg F] at G;exact absurd G F
structure Good(d:Dc):Prop where
 tiers:∀ j,(h:j<d.tiers.length)->qe (d.tiers.take j) d.tiers[j]=0
 notes:∀ j,j<d.notes.length->vp d j=0
theorem Ce{l:List Tir}{t:Tir}(h:qe l t=0)(H:t.kind≠0):0<=t.par/\t.par<l.length/\(zK t.kind=true->zK (l[t.par.toNat]?.getD default).kind=true):=by
 unfold qe at h
 split at h
 .cases h
 .split at h
  .cases h
  .split at h
   .cases h
   .split at h
    .cases h
    .split at h
     .cases h
     .split at h
      .cases h
      .rename_i hp
       split at h
       .cases h
       .rename_i ha
        refine⟨by omega,by omega,λe=>?_⟩
        cases G:zK (l[t.par.toNat]?.getD default).kind with
        |true=>rfl
        |false=>exact absurd ⟨e,G⟩ ha
structure NoteOk(d:Dc)(n:Nt):Prop where
 t0:0<=n.tier
 t1:n.tier<d.tiers.length
 place:jc d n=0
theorem Xh{d:Dc}(h:Good d){n:Nt}(H:n∈d.notes):NoteOk d n:=by
 obtain⟨i,hi,rfl⟩:=List.mem_iff_getElem.1 H
 have:=h.notes i hi
 simp only[vp,List.getElem?_eq_getElem hi,Option.getD_some] at this
 split at this
 .cases this
 .split at this
  .cases this
  .split at this
   .cases this
   .rename_i ht
    rw[ZO] at this;split at this
    .exact⟨by omega,by omega,this⟩
    .rename_i hx;exact absurd this hx
theorem Xi{d:Dc}{n:Nt}(h:jc d n=0):((zx d n.tier).kind=0->n.par=0)/\((zx d n.tier).kind≠0->(zi d.notes n.par).2=true/\(zi d.notes n.par).1.tier=(zx d n.tier).par) /\
  vo d n (zi d.notes n.par).1=true:=by
 unfold jc at h
 by_cases H:(zx d n.tier).kind=0
 .rw[if_pos H] at h
  by_cases G:n.par=0
  .rw[if_pos (by simpa using G)] at h
   by_cases F:vo d n (zi d.notes n.par).1=true
   .exact⟨λ_=>G,λe=>absurd H e,F⟩
   .rw[if_neg F] at h;cases h
  .rw[if_neg (by simpa using G)] at h;cases h
 .rw[if_neg H] at h
  by_cases E:((zi d.notes n.par).2&&decide ((zi d.notes n.par).1.tier=(zx d n.tier).par))=true
  .rw[if_pos E] at h
   by_cases F:vo d n (zi d.notes n.par).1=true
   .rw[Bool.and_eq_true,decide_eq_true_eq] at E
    exact⟨λe=>absurd e H,λ_=>E,F⟩
   .rw[if_neg F] at h;cases h
  .rw[if_neg E] at h;cases h
theorem Xj{d:Dc}{i:Int}(H:0<=i)(G:i<d.tiers.length):X5 d.tiers i=zK (zx d i).kind:=by
 unfold X5 zx
 rw[decide_eq_true H,decide_eq_true G];rfl
theorem K6{d:Dc}{n:Nt}(h:NoteOk d n)(H:zK (zx d n.tier).kind=true):yt n.fr n.tO=true:=by
 have G:=(Xi h.place).2.2
 unfold vo at G
 rw[if_pos (by rw[Xj h.t0 h.t1];exact H),Bool.and_eq_true] at G
 exact G.1
theorem RV{d:Dc}{n:Nt}(h:NoteOk d n)(H:zK (zx d n.tier).kind=false):n.fr=0/\n.tO=0:=by
 have G:=(Xi h.place).2.2
 unfold vo at G
 rw[if_neg (by rw[Xj h.t0 h.t1,H];simp),Bool.and_eq_true,decide_eq_true_eq,decide_eq_true_eq] at G
 exact G
theorem jH{l:List Nt}{id:Int}(h:(zi l id).2=true):(zi l id).1∈l/\(zi l id).1.id=id:=by
 unfold zi at h ⊢
 cases H:l.find? λn=>decide (n.id=id) with
 |none=>rw[H] at h;cases h
 |some n=>
  rw[H] at h;exact⟨List.mem_of_find?_eq_some H,by simpa using List.find?_some H⟩
theorem RX{d:Dc}(L:Good d){n:Nt}(h:NoteOk d n)(M:(zx d n.tier).kind≠0)(O:zK (zx d n.tier).kind=true):
  yt (zi d.notes n.par).1.fr (zi d.notes n.par).1.tO=true/\(zi d.notes n.par).1.fr<=n.fr/\n.tO<=(zi d.notes n.par).1.tO:=by
 obtain⟨_,Q,T⟩:=Xi h.place
 obtain⟨E,G⟩:=Q M
 have V:=jH E
 have K:=Xh L V.1
 obtain⟨k,J⟩:∃ k:Nat,n.tier=k:=⟨n.tier.toNat,by have:=h.t0;omega⟩
 have F:k<d.tiers.length:=by have:=h.t1;omega
 have et:zx d n.tier=d.tiers[k]:=by rw[J];simp[zx,List.getElem?_eq_getElem F]
 rw[et] at M O G
 obtain⟨q1,q2,q3⟩:=Ce (L.tiers k F) M
 have H:(d.tiers.take k).length=k:=by rw[List.length_take];omega
 rw[H] at q2
 have q4:=q3 O
 have e2:(d.tiers.take k)[(d.tiers[k]).par.toNat]?.getD default=zx d (d.tiers[k]).par:=by
  unfold zx;rw[List.getElem?_take,if_pos (by omega)]
 rw[e2] at q4
 refine⟨K6 K (by rw[G];exact q4),?_⟩
 unfold vo at T
 rw[if_pos (by rw[Xj h.t0 h.t1,et];exact O),et,if_neg M,Bool.and_eq_true,Bool.and_eq_true,decide_eq_true_eq,decide_eq_true_eq] at T
 exact T.2
theorem Cf{n:Nat}{f:Nat->Bool}:(List.range' 0 n).any f=false↔∀ i,i<n->f i=false:=by
 rw[List.any_eq_false]
 constructor
 .intro h i hi
  have:=h i (by rw[List.mem_range'];exact⟨i,hi,by omega⟩)
  simpa using this
 .intro h i hi
  rw[List.mem_range'] at hi;obtain⟨j,H,rfl⟩:=hi;simpa using h _ (by omega)
theorem Xk{α:Type}{l:List α}{f:α->Bool}:l.any f=false↔∀ x∈l,f x=false:=by
 rw[List.any_eq_false]
 exact⟨λh x H=>by simpa using h x H,λh x H=>by simpa using h x H⟩
theorem Ci{a b:Bool}(h:a=false↔b=false):a=b:=by
 cases a <;> cases b <;> simp_all
theorem RY(d:Dc)(L:Good d)(M:d.notes.length<=300)(t:Nat)(O:t<d.tiers.length):Xc d t=jg d t:=by
 rw[RI,C6]
 have Q:=R7 (yb d.notes t)
 have hs:=RJ (yb d.notes t)
 have T:(xf (yb d.notes t)).length<2^40:=by
  rw[WT];have:(yb d.notes t).length<=d.notes.length:=List.length_filter_le _ _
  omega
 have H:∀ n∈xf (yb d.notes t),NoteOk d n/\n.tier=t:=by
  intro n M;have V:=Q.mem_iff.1 M;unfold yb at V;rw[List.mem_filter] at V;exact⟨Xh L V.1,by simpa using V.2⟩
 generalize xf (yb d.notes t)=s at *
 generalize G:(zx d (t:Int)).kind=kd
 have K:(List.range' 0 s.length).any (ZP kd s)=(yb d.notes t).any (jG d t kd):=by
  apply Ci
  rw[Cf,Xk];cases X:zK kd with
  |false=>simp[ZP,jG,X]
  |true=>
   have Y:∀ n∈s,n.fr<n.tO:=by
    intro n M;obtain⟨V,h2⟩:=H n M;have:=K6 V (by rw[h2,G];exact X)
    simp only[yt,Bool.and_eq_true,decide_eq_true_eq] at this;omega
   simp only[ZP,jG,X,Bool.true_and];rw[<-Cb Q hs Y];exact⟨RL hs,RN⟩
 rw[K]
 cases Z:(yb d.notes t).any (jG d t kd) with
 |true=>rfl
 |false=>
  have F:(List.range' 0 s.length).any (jY d.notes kd s)=(yb d.notes t).any (badR d t kd):=by
   apply Ci
   rw[Cf,Xk];by_cases k1:kd=1
   .subst k1
    have X:zK 1=true:=rfl
    have Y:∀ n∈s,yt n.fr n.tO=true:=λn M=>by
     obtain⟨V,h2⟩:=H n M;exact K6 V (by rw[h2,G];exact X)
    have J:∀ n∈s,n.fr<n.tO:=λn M=>by
     have:=Y n M
     simp only[yt,Bool.and_eq_true,decide_eq_true_eq] at this;omega
    have E:Xg s:=by
     rw[Cb Q hs J];intro n M;have:=Xk.1 Z n M
     simpa[jG,X] using this
    have A:Wit d.notes s:=by
     have w:=λn (M:n∈s)=>RX L (H n M).1 (by rw[(H n M).2,G];decide) (by rw[(H n M).2,G];exact X)
     exact⟨Y,λn M=>(w n M).1,λn M=>(w n M).2.1,λn M=>(w n M).2.2⟩
    have:=RP Q hs E A
    have e1:∀ i,jY d.notes 1 s i=Z8 d.notes s i:=λi=>by simp[jY,Z8]
    have e2:∀ n,badR d t 1 n = !jd (spansOf (yf d.notes t n.par)) ⟨(zi d.notes n.par).1.fr,(zi d.notes n.par).1.tO⟩:=λn=>by simp[badR]
    simp only[e1,e2,Bool.not_eq_false'];exact this
   by_cases k3:kd=3
   .subst k3
    have X:zK 3=false:=rfl
    have:=RS Q hs T λn M=>(RV (H n M).1 (by rw[(H n M).2,G];exact X)).1
    have e1:∀ i,jY d.notes 3 s i=kP s i:=λi=>by simp[jY,kP]
    have e2:∀ n,badR d t 3 n = !je (yf d.notes t n.par):=λn=>by simp[badR]
    simp only[e1,e2,Bool.not_eq_false'];exact this
   by_cases k4:kd=4
   .subst k4
    have:=RU Q hs
    have e1:∀ i,jY d.notes 4 s i = !yo s i:=λi=>by simp[jY]
    have e2:∀ n,badR d t 4 n=decide (1<(yf d.notes t n.par).length):=λn=>by simp[badR]
    simp only[e1,e2,Bool.not_eq_false',decide_eq_false_iff_not];exact this
   simp[jY,badR,k1,k3,k4]
  rw[F]
theorem Cj(d:Dc)(H:Good d)(G:d.notes.length<=300):∀ (m i:Nat),i+m=d.tiers.length->Va d m i=jh d m i
 |0,i,_=>rfl
 |m+1,i,h=>by
  simp only[Va,jh];have hi:i<d.tiers.length:=by omega
  rw[if_pos hi,if_pos hi,RY d H G i hi,Cj d H G m (i+1) (by omega)]
theorem K7(d:Dc):WV d=jF d:=by
 unfold WV jF
 split
 .rfl
 .rename_i F
  split
  .rfl
  .split
   .rfl
   .rename_i h3
    split
    .rfl
    .rename_i E
     have H:jb d.tiers=0:=by simpa using F
     have G:qs d d.notes.length 0=0:=by simpa using E
     unfold jb at H;split at H
     .cases H
     .exact Cj d ⟨λj K=>K5 _ _ _ (by omega) H j (by omega) K,λj K=>K4 d _ _ (by omega) G j (by omega) K⟩ (by omega) _ _ (by omega)
structure Nok(d:Dc)(n:Nt):Prop where
 lo:1<=n.id
 hi:n.id<=1099511627776
 t0:0<=n.tier
 t1:n.tier<d.tiers.length
 e:Xb d n=0
structure Rgt(d:Dc):Prop where
 tiers:jb d.tiers=0
 len:0<=d.len/\d.len<=86400000
 few:d.notes.length<=300
 nok:∀ n∈d.notes,Nok d n
 inc:d.notes.Pairwise λa b=>a.id<b.id
 ter:∀ t:Nat,t<d.tiers.length->jg d t=0
theorem Cm(d:Dc):∀ (m i:Nat),i+m=d.notes.length->(∀ j,i<=j->j<d.notes.length->vp d j=0)->qs d m i=0
 |0,i,h,_=>rfl
 |m+1,i,h,H=>by
  rw[WW,if_pos (by omega),if_pos (H i (Nat.le_refl _) (by omega))]
  exact Cm d m (i+1) (by omega) λj G h2=>H j (by omega) h2
theorem CB(d:Dc):∀ (m i:Nat),i+m=d.tiers.length->jh d m i=0->∀ j:Nat,i<=j->j<d.tiers.length->jg d j=0
 |0,i,h,_,j,H,h2=>by omega
 |m+1,i,h,G,j,H,h2=>by
  simp only[jh] at G;rw[if_pos (by omega)] at G
  by_cases F:jg d i=0
  .rw[if_pos F] at G
   rcases Nat.eq_or_lt_of_le H with e | e
   .rw[<-e];exact F
   .exact CB d m (i+1) (by omega) G j e h2
  .rw[if_neg F] at G;exact absurd G F
theorem CG(d:Dc):∀ (m i:Nat),i+m=d.tiers.length->(∀ j:Nat,i<=j->j<d.tiers.length->jg d j=0)->jh d m i=0
 |0,i,h,_=>rfl
 |m+1,i,h,H=>by
  simp only[jh];rw[if_pos (by omega),if_pos (H i (Nat.le_refl _) (by omega))]
  exact CG d m (i+1) (by omega) λj G h2=>H j (by omega) h2
theorem Vf{d:Dc}{i:Nat}(hi:i<d.notes.length):vp d i=0↔Nok d d.notes[i]/\(i≠0->(d.notes[i-1]?.getD default).id<d.notes[i].id):=by
 simp only[vp,List.getElem?_eq_getElem hi,Option.getD_some]
 constructor
 .intro h
  split at h
  .cases h
  .split at h
   .cases h
   .split at h
    .cases h
    .exact⟨⟨by omega,by omega,by omega,by omega,h⟩,λh0=>by omega⟩
 .rintro⟨⟨H,h2,G,F,E⟩,K⟩
  rw[if_neg (by omega),if_neg (by rintro⟨a,b⟩;have:=K a;omega),if_neg (by omega)]
  exact E
theorem K8{d:Dc}:(∀ i,i<d.notes.length->vp d i=0)↔(∀ n∈d.notes,Nok d n)/\d.notes.Pairwise λa b=>a.id<b.id:=by
 constructor
 .intro h
  refine⟨λn hn=>?_,?_⟩
  .obtain⟨i,hi,rfl⟩:=List.mem_iff_getElem.1 hn
   exact((Vf hi).1 (h i hi)).1
  .rw[List.pairwise_iff_getElem]
   have key:∀ (k i:Nat) (G:i+k+1<d.notes.length),(d.notes[i]'(by omega)).id<(d.notes[i+k+1]'G).id:=by
    intro k;induction k with
    |zero=>
     intro i G;have:=((Vf G).1 (h _ G)).2 (by omega)
     rw[Nat.add_sub_cancel,List.getElem?_eq_getElem (by omega)] at this
     exact this
    |succ k ih=>
     intro i G;have a:=ih i (by omega)
     have:=((Vf G).1 (h _ G)).2 (by omega)
     rw[Nat.add_sub_cancel,List.getElem?_eq_getElem (by omega)] at this
     exact Int.lt_trans a this
   intro i j hi G H;obtain⟨k,rfl⟩:∃ k,j=i+k+1:=⟨j-i-1,by omega⟩
   exact key k i G
 .rintro⟨F,h2⟩ i hi
  rw[Vf hi];refine⟨F _ (List.getElem_mem hi),λh0=>?_⟩
  rw[List.getElem?_eq_getElem (by omega)]
  exact List.pairwise_iff_getElem.1 h2 (i-1) i (by omega) hi (by omega)
theorem CH{d:Dc}:WV d=0↔Rgt d:=by
 rw[K7]
 unfold jF
 constructor
 .intro h
  split at h
  .rename_i G;exact absurd h G
  .rename_i G
   split at h
   .cases h
   .split at h
    .cases h
    .split at h
     .rename_i F;exact absurd h F
     .rename_i F
      have H:qs d d.notes.length 0=0:=by simpa using F
      have E:=K8.1 λi hi=>K4 d _ _ (by omega) H i (by omega) hi
      exact⟨by simpa using G,by omega,by omega,E.1,E.2,λt K=>CB d _ _ (by omega) h t (by omega) K⟩
 .intro h
  rw[if_neg (by simpa using h.tiers),if_neg (by have:=h.len;omega),if_neg (by have:=h.few;omega)]
  have:=K8.2 ⟨h.nok,h.inc⟩
  rw[Cm d _ _ (by omega) λj _ hj=>this j hj]
  rw[if_neg (by simp)]
  exact CG d _ _ (by omega) λj _ hj=>h.ter j hj
theorem Rgt.good{d:Dc}(h:Rgt d):Good d:=by
 refine⟨?_,K8.2 ⟨h.nok,h.inc⟩⟩
 have H:=h.tiers
 unfold jb at H
 split at H
 .cases H
 .exact λj hj=>K5 _ _ _ (by omega) H j (by omega) hj
theorem CJ{d:Dc}{t:Int}:jg d t=0↔(∀ n∈yb d.notes t,jG d t (zx d t).kind n=false)/\∀ n∈yb d.notes t,badR d t (zx d t).kind n=false:=by
 rw[C6,<-Xk,<-Xk]
 have H:uO (zx d t).kind≠0:=by unfold uO;split <;> (try split) <;> omega
 cases (yb d.notes t).any (jG d t (zx d t).kind) <;> cases (yb d.notes t).any (badR d t (zx d t).kind) <;> simp[H]
theorem Xl{d:Dc}(h:Rgt d){a b:Nt}(H:a∈d.notes)(G:b∈d.notes)(e:a.id=b.id):a=b:=by
 obtain⟨i,hi,rfl⟩:=List.mem_iff_getElem.1 H
 obtain⟨j,F,rfl⟩:=List.mem_iff_getElem.1 G
 have E:=List.pairwise_iff_getElem.1 h.inc
 rcases Nat.lt_trichotomy i j with K | rfl | K
 .have:=E i j hi F K;omega
 .rfl
 .have:=E j i F hi K;omega
theorem wP{d:Dc}(h:Rgt d){n:Nt}(H:n∈d.notes):zi d.notes n.id=(n,true):=by
 unfold zi
 cases G:d.notes.find? λm=>decide (m.id=n.id) with
 |none=>rw[List.find?_eq_none] at G;exact absurd (G n H) (by simp)
 |some m=>
  have F:=List.mem_of_find?_eq_some G;have h2:m.id=n.id:=by simpa using List.find?_some G
  rw[Xl h F H h2]
end Go.V.Doc

/- Contracts and plain laws of this seat: part MD. It needs no conditions. -/
import Derived.Test.YtknekjalbninmaaGreatMC
import Derived.Test.YtknekjalbninmaaGreatMB
import Derived.Test.YtknekjalbninmaaGreatSw
import Derived.WalkKit
import Derived.BigCall
import Derived.KernelRfl
import Derived.Shelf.Strings.Builder1
import Derived.Test.YtknekjalbninmaaGreatMA
set_option maxHeartbeats 32000000
set_option linter.unusedVariables false
set_option linter.unusedSimpArgs false
set_option linter.unusedSectionVars false
set_option maxRecDepth 100000
namespace Go.V.Doc
open Go Go.Proofs Go.Sort Go.RowKit
theorem Jx{a b:Nt}:kH a b=true↔a.id<b.id:=by
 unfold kH ltOf ZV
 rw[decide_eq_true_eq]
 simp only[xK]
 repeat' split
 all_goals omega
theorem BX:SWO kH where
 irrefl:=λx=>by rw[<-Bool.not_eq_true,Jx];omega
 trans:=λx y z H h2=>by rw[Jx] at *;omega
 ntrans:=λx y z H h2=>by rw[<-Bool.not_eq_true,Jx] at *;omega
def j8(l:List Nt):List Nt:=(pdq kH l.toArray 0 l.length (Lib.bitLen l.length) true true).toList
theorem UK(l:List Nt):PermIn 0 l.length l.toArray (pdq kH l.toArray 0 l.length (Lib.bitLen l.length) true true)/\SortedIn kH 0 l.length (pdq kH l.toArray 0 l.length (Lib.bitLen l.length) true true):=
 pdq_sorts kH BX l.toArray 0 l.length (Lib.bitLen l.length) true true (Nat.zero_le _) (by simp) (Or.inl rfl)
theorem Jy(l:List Nt):(j8 l).length=l.length:=by
 have:=(UK l).1.1
 unfold j8
 rw[Array.length_toList,this];simp
theorem Jz(l:List Nt):(j8 l).Perm l:=by
 obtain⟨H,_,G⟩:=(UK l).1
 unfold j8
 generalize pdq kH l.toArray 0 l.length (Lib.bitLen l.length) true true=A at H G
 have e1:A.extract 0 l.length=A:=by rw[show l.length=A.size by rw[H];simp];simp
 have e2:l.toArray.extract 0 l.length=l.toArray:=by rw[show l.length=l.toArray.size by simp];simp
 rw[e1,e2] at G
 simpa using G
theorem TC(l:List Nt):(j8 l).Pairwise λa b=>¬b.id<a.id:=by
 have hs:=(UK l).2
 have G:=Jy l
 unfold j8 at G ⊢
 generalize pdq kH l.toArray 0 l.length (Lib.bitLen l.length) true true=A at hs G
 rw[List.pairwise_iff_getElem]
 intro i j hi hj H
 rw[Array.length_toList] at G
 have:=hs i j (Nat.zero_le _) H (by rw[Array.length_toList] at hj;omega)
 rw[Array.length_toList] at hi hj
 rw[<-Bool.not_eq_true,Jx] at this
 simpa[getElem!_pos,hi,hj] using this
theorem TD(l:List Nt)(F:l≠[])(K:l.length<4611686018427387904):
  zJ Tryz.prog 65 [.ar 0,.fn 66 []] [(0,.arr 72 7 (l.map Nt.row))] 1 (.d (.tup [])) 1 [(0,.arr 72 7 ((j8 l).map Nt.row))] []:=by
 refine GK gQ c_65 F (Jy l) ?_
 intro w E β vs G H g cap J L M
 simp only[zh,Sm] at G
 obtain⟨_,_,rfl,⟨_,rfl,rfl⟩,rfl⟩:=G
 have:=AnyQ.slices_SortFunc_eq Tryz.zh0 7 Cu Cv Nt.enc gQ.len gQ.one ZV BX 66 #[] g 0 cap l.toArray w TB
  (TA H L) M J (by simpa using K)
 change Calls Tryz.prog 65 _ _ _ at this
 have e:(pdq (ltOf ZV) l.toArray 0 l.toArray.size (Lib.bitLen l.toArray.size) true true)=(j8 l).toArray:=by
  unfold j8 kH;simp
 rw[e] at this
 simpa using this
def BY(l:List Nt)(n:Nt):List Nt:=l.takeWhile (λm=>!decide (n.id<m.id))++n::l.dropWhile (λm=>!decide (n.id<m.id))
def QF(l:List Nt)(n:Nt)(k:Nat):List Nt×Bool:=if (l.take k).all (λm=>!decide (n.id<m.id))=true then (l.take k,false) else (BY (l.take k) n,true)
end Go.V.Doc
namespace Go.Proofs
open Go.RowKit Go.Shelf
theorem UL:(Tryz.prog.info? 166).map (·.size)=some 2:=by kernel_rfl
theorem BZ:liesAt Tryz.prog Tryz.prog.depth 166 (2/Tryz.prog.cellsOf 166) 0 166 1=true:=by kernel_rfl
theorem TE(b:Nat)(w:World)(H:w.cell? ⟨b,0,none⟩=some (.pointer (some ⟨b,0,none⟩))):
  Calls Tryz.prog 159 #[.pointer (some ⟨b,0,none⟩)] w λe w'=>e = .returned (.tuple #[])/\w'=w:=by
 obtain⟨j,hj,_⟩:=Option.map_eq_some_iff.1 UL
 go_enter Tryz.func159,Tryz.ntmps159
 go_wp2
 rw[Lib.run_neq_ptr_same w _ Tryz.underlying163 hj]
 go_wp2
 go_end0
 exact⟨rfl,rfl⟩
theorem TF(b:Nat)(w:World)(E:w.cell? ⟨b,0,none⟩=some (.pointer none))(H:w.shape? b=some (166,2))(F:w.frozen? ⟨b,0,none⟩=false):
  Calls Tryz.prog 159 #[.pointer (some ⟨b,0,none⟩)] w λe w'=>e = .returned (.tuple #[])/\w'=w.setCell ⟨b,0,none⟩ (.pointer (some ⟨b,0,none⟩)):=by
 obtain⟨j,hj,G⟩:=Option.map_eq_some_iff.1 UL
 go_enter Tryz.func159,Tryz.ntmps159
 go_wp2
 rw[Lib.run_to_unsafe w ⟨b,0,none⟩ Tryz.underlying163 Tryz.underlying258 hj (by rw[G];decide) H (Nat.zero_lt_succ 1)]
 simp only[Result.andThen]
 rw[Oper.upon_value]
 go_wp2
 rw[run_callFunc_extern Tryz.func205 (by kernel_rfl) (by kernel_rfl) (by kernel_rfl) (e:=Extern.AbiNoEscape.same) (by kernel_rfl)]
 rw[Lib.run_noEscape]
 simp only[Result.andThen]
 rw[Oper.upon_value]
 go_wp2
 rw[Lib.run_from_unsafe w ⟨b,0,none⟩ Tryz.underlying258 Tryz.underlying163 hj H BZ]
 simp only[Result.andThen]
 rw[Oper.upon_value]
 go_wp2
 go_end0
 exact⟨rfl,rfl⟩
theorem TG:Builder.X72 Tryz.prog Tryz.bldStr_ren:=⟨UL,BZ⟩
theorem TJ:Builder.Extra Tryz.prog Tryz.bldStr_ren:={TG with
 t5:=Tryz.underlying5
 a5:=Tryz.isAgg5
 z5:=Tryz.sizeOf5
 v5:=Tryz.zeroValue5
 infoByte:=by kernel_rfl
 cellsByte:=by kernel_rfl
 sizeByte:=by kernel_rfl
 neB5:=by decide}
end Go.Proofs
namespace Go.V
open Go Go.Proofs
def wB(l:List Stp):Nat->Nat->Nat
 |0,m=>m
 |k+1,m=>qI l (wB l k m) 0 |||wB l k m
def Z8(n:Nett)(q:Nat):Bool:=jO n.states.toNat (wB n.steps n.states.toNat (qk 0 (q:Int))) (yk n.final)
def QG(n:Nett):Nat:=(List.range n.states.toNat).foldl (λm q=>if Z8 n q=true then m ||| (1 <<< q) else m) 0
theorem E0(f:Nat->Bool):∀ (l:List Nat) (m j:Nat),(l.foldl (λm q=>if f q=true then m ||| (1 <<< q) else m) m).testBit j=(m.testBit j || decide (j∈l/\f j=true))
 | [],m,j=>by simp
 |q::l,m,j=>by
  rw[List.foldl_cons,E0 f l];by_cases H:f q=true
  .rw[if_pos H,KV]
   by_cases e:q=j
   .subst e;simp[H]
   .have e':¬j=q:=λh=>e h.symm
    simp[e,e']
  .rw[if_neg H]
   by_cases e:j=q
   .subst e;simp[H]
   .simp[e]
def UM(n:Nett)(cs:List Int)(k:Nat):List Int:=((List.range k).map λ(i:Nat)=>(i:Int)+1).filter λc=>jO n.states.toNat (yv n.steps (yB n.steps cs) c) (QG n)
theorem TL(m:Nat)(q:Int)(j:Nat):(qk m q).testBit j=(m.testBit j || decide (q.toNat=j)):=by unfold qk;exact KV m q.toNat j
theorem E1(m:Nat)(c:Int)(j:Nat):∀ (l:List Stp) (out:Nat),(l.foldl (YC m c) out).testBit j=(out.testBit j || l.any λx=>m.testBit x.src.toNat&&(decide (c=0) || decide (x.cls=c))&&decide (x.dst.toNat=j))
 | [],out=>by simp
 |x::l,out=>by
  rw[List.foldl_cons,E1 m c j l,List.any_cons];unfold YC ku;by_cases h:m.testBit x.src.toNat=true/\(c=0\/x.cls=c)
  .rw[if_pos h,TL,h.1]
   have:(decide (c=0) || decide (x.cls=c))=true:=by rcases h.2 with e | e <;> simp[e]
   rw[this,Bool.and_true,Bool.true_and,Bool.or_assoc]
  .rw[if_neg h]
   have:(m.testBit x.src.toNat&&(decide (c=0) || decide (x.cls=c)))=false:=by
    cases H:m.testBit x.src.toNat with
    |false=>rfl
    |true=>
     rw[Bool.true_and];have G:¬(c=0\/x.cls=c):=λe=>h ⟨H,e⟩
     simp only[Bool.or_eq_false_iff,decide_eq_false_iff_not];exact⟨λe=>G (.inl e),λe=>G (.inr e)⟩
   rw[this,Bool.false_and,Bool.false_or]
theorem ZW(l:List Stp)(m:Nat)(c:Int)(j:Nat):(qI l m c).testBit j=l.any λx=>m.testBit x.src.toNat&&(decide (c=0) || decide (x.cls=c))&&decide (x.dst.toNat=j):=by
 unfold qI;rw[E1];simp
def YP(s0 s1 s2 m:Nat):Nat:=(if m.testBit 0=true then s0 else 0) ||| (if m.testBit 1=true then s1 else 0) ||| (if m.testBit 2=true then s2 else 0)
def wC(s0 s1 s2:Nat):Nat->Nat->Nat
 |0,m=>m
 |k+1,m=>YP s0 s1 s2 (wC s0 s1 s2 k m) |||wC s0 s1 s2 k m
theorem TM:∀ s0 m:Fin 2,YP s0.val 0 0 (wC s0.val 0 0 1 m.val) ||| wC s0.val 0 0 1 m.val=wC s0.val 0 0 1 m.val:=by decide +kernel
theorem closed2:∀ s0 s1 m:Fin 4,YP s0.val s1.val 0 (wC s0.val s1.val 0 2 m.val) ||| wC s0.val s1.val 0 2 m.val=wC s0.val s1.val 0 2 m.val:=by decide +kernel
theorem TN:∀ s0 s1 s2 m:Fin 8,YP s0.val s1.val s2.val (wC s0.val s1.val s2.val 3 m.val) ||| wC s0.val s1.val s2.val 3 m.val=wC s0.val s1.val s2.val 3 m.val:=by decide +kernel
theorem YQ(q j:Nat):(1 <<< q).testBit j=decide (q=j):=by rw[Nat.one_shiftLeft,Nat.testBit_two_pow]
def j9(l:List Stp)(q:Nat):Nat:=qI l (1 <<< q) 0
theorem E2(l:List Stp)(H:∀ x∈l,0<=x.src/\x.src<3)(m:Nat):qI l m 0=YP (j9 l 0) (j9 l 1) (j9 l 2) m:=by
 apply Nat.eq_of_testBit_eq
 intro j
 have G:∀ q,(j9 l q).testBit j=l.any λx=>decide (q=x.src.toNat)&&decide (x.dst.toNat=j):=by
  intro q;unfold j9;rw[ZW];congr 1
  funext x
  rw[YQ];simp
 have hi:∀ q,(if m.testBit q=true then j9 l q else 0).testBit j=(m.testBit q&&l.any λx=>decide (q=x.src.toNat)&&decide (x.dst.toNat=j)):=by
  intro q;cases h:m.testBit q with
  |true=>rw[if_pos rfl,G];rfl
  |false=>rw[if_neg (by decide)];simp
 unfold YP
 rw[Nat.testBit_or,Nat.testBit_or,hi,hi,hi,ZW,Bool.eq_iff_iff]
 simp only[Bool.or_eq_true,Bool.and_eq_true,List.any_eq_true,decide_eq_true_eq]
 constructor
 .rintro⟨x,F,⟨E,_⟩,K⟩
  have J:=H x F;have:x.src.toNat=0\/x.src.toNat=1\/x.src.toNat=2:=by omega
  rcases this with e | e | e
  .rw[e] at E;exact .inl (.inl ⟨E,x,F,e.symm,K⟩)
  .rw[e] at E;exact .inl (.inr ⟨E,x,F,e.symm,K⟩)
  .rw[e] at E;exact .inr ⟨E,x,F,e.symm,K⟩
 .rintro((⟨h,x,F,e,K⟩ | ⟨h,x,F,e,K⟩) | ⟨h,x,F,e,K⟩) <;> exact⟨x,F,⟨by rw[<-e];exact h,by simp⟩,K⟩
theorem E3(l:List Stp)(H:∀ x∈l,0<=x.src/\x.src<3)(m:Nat):∀ k,wB l k m=wC (j9 l 0) (j9 l 1) (j9 l 2) k m
 |0=>rfl
 |k+1=>by unfold wB wC;rw[E3 l H m k,E2 l H]
theorem E4{m S:Nat}(h:∀ j,m.testBit j=true->j<S):m<2^S:=by
 apply Nat.lt_pow_two_of_testBit
 intro j hj
 cases H:m.testBit j with
 |false=>rfl
 |true=>exact absurd (h j H) (by omega)
theorem UN{n:Nett}(H:NetL n)(q:Nat):j9 n.steps q<2^n.states.toNat:=by
 apply E4
 intro j hj
 unfold j9 at hj
 rw[ZW,List.any_eq_true] at hj
 obtain⟨x,G,h⟩:=hj
 simp only[Bool.and_eq_true,decide_eq_true_eq] at h
 have:=(H.steps x G).2.1
 omega
theorem E5{n:Nett}(H:NetL n){q:Nat}(G:n.states.toNat<=q):j9 n.steps q=0:=by
 apply Nat.eq_of_testBit_eq
 intro j
 rw[Nat.zero_testBit]
 unfold j9
 rw[ZW,List.any_eq_false]
 intro x F h
 rw[YQ] at h
 simp only[Bool.and_eq_true,decide_eq_true_eq] at h
 have:=(H.steps x F).1
 omega
theorem TP{n:Nett}(H:NetL n){m:Nat}(G:m<2^n.states.toNat):qI n.steps (wB n.steps n.states.toNat m) 0 ||| wB n.steps n.states.toNat m=wB n.steps n.states.toNat m:=by
 have F:∀ x∈n.steps,0<=x.src/\x.src<3:=λx E=>by have:=(H.steps x E).1;have:=H.hi;omega
 rw[E2 _ F,E3 _ F]
 have K:=UN H 0
 have J:=UN H 1
 have L:=UN H 2
 have M:n.states.toNat=1\/n.states.toNat=2\/n.states.toNat=3:=by have:=H.lo;have:=H.hi;omega
 have z1:=λh=>E5 H (q:=1) h
 have z2:=λh=>E5 H (q:=2) h
 generalize j9 n.steps 0=s0 at *
 generalize j9 n.steps 1=s1 at *
 generalize j9 n.steps 2=s2 at *
 rcases M with e | e | e
 .rw[e] at K G z1 z2 ⊢
  rw[z1 (by omega),z2 (by omega)]
  exact TM ⟨s0,K⟩ ⟨m,G⟩
 .rw[e] at K J G z2 ⊢
  rw[z2 (by omega)]
  exact closed2 ⟨s0,K⟩ ⟨s1,J⟩ ⟨m,G⟩
 .rw[e] at K J L G ⊢
  exact TN ⟨s0,K⟩ ⟨s1,J⟩ ⟨s2,L⟩ ⟨m,G⟩
def Sub(a b:Nat):Prop:=∀ j,a.testBit j=true->b.testBit j=true
theorem TQ{l:List Stp}{a b:Nat}{c:Int}(h:Sub a b):Sub (qI l a c) (qI l b c):=by
 intro j hj
 rw[ZW,List.any_eq_true] at hj ⊢
 obtain⟨x,H,G⟩:=hj
 simp only[Bool.and_eq_true] at G ⊢
 exact⟨x,H,⟨h _ G.1.1,G.1.2⟩,G.2⟩
theorem UO(l:List Stp)(m:Nat):∀ k,Sub m (wB l k m)
 |0=>λ_ h=>h
 |k+1=>λj h=>by unfold wB;rw[Nat.testBit_or,UO l m k j h,Bool.or_true]
theorem UP{l:List Stp}{m R:Nat}(h:Sub m R)(H:qI l R 0 ||| R=R):∀ k,Sub (wB l k m) R
 |0=>h
 |k+1=>λj hj=>by
  unfold wB at hj;rw[Nat.testBit_or,Bool.or_eq_true] at hj;rcases hj with hj | hj
  .have:=TQ (UP h H k) j hj
   rw[<-H,Nat.testBit_or,this,Bool.true_or]
  .exact UP h H k j hj
theorem sub_one{m q:Nat}(h:m.testBit q=true):Sub (1 <<< q) m:=by
 intro j hj
 rw[YQ,decide_eq_true_eq] at hj
 rw[<-hj];exact h
theorem E6(q:Nat):qk 0 (q:Int)=1 <<< q:=by unfold qk;simp
theorem TR{q S:Nat}(h:q<S):1 <<< q<2^S:=E4 λj hj=>by rw[YQ,decide_eq_true_eq] at hj;omega
theorem TS{n:Nett}(F:NetL n){x:Stp}(E:x∈n.steps)(h:Z8 n x.dst.toNat=true):Z8 n x.src.toNat=true:=by
 obtain⟨⟨s1,s2⟩,⟨d1,d2⟩,_⟩:=F.steps x E
 unfold Z8 at h ⊢
 rw[E6] at h ⊢
 unfold jO at h ⊢
 rw[List.any_eq_true] at h ⊢
 obtain⟨j,hj,K⟩:=h
 rw[Bool.and_eq_true] at K
 refine⟨j,hj,?_⟩
 rw[Bool.and_eq_true]
 refine⟨?_,K.2⟩
 have G:=TP F (TR (S:=n.states.toNat) (q:=x.src.toNat) (by omega))
 have H:=UO n.steps (1 <<< x.src.toNat) n.states.toNat x.src.toNat (by rw[YQ];simp)
 generalize wB n.steps n.states.toNat (1 <<< x.src.toNat)=R at G H ⊢
 refine UP (R:=R) (sub_one ?_) G n.states.toNat j K.1
 rw[<-G,Nat.testBit_or,ZW,Bool.or_eq_true]
 left
 rw[List.any_eq_true]
 exact⟨x,E,by simp[H]⟩
theorem E7{n:Nett}{q:Nat}(h:q<n.states.toNat):(QG n).testBit q=Z8 n q:=by
 unfold QG
 rw[E0]
 simp[h]
def Dead(n:Nett)(s:Nat):Prop:=jO n.states.toNat s (QG n)=false
theorem UQ{n:Nett}{s:Nat}:Dead n s↔∀ q,q<n.states.toNat->s.testBit q=true->Z8 n q=false:=by
 unfold Dead jO
 rw[List.any_eq_false]
 constructor
 .intro h q H hs
  have:=h q (List.mem_range.2 H)
  rw[hs,Bool.true_and,E7 H] at this;simpa using this
 .intro h q H
  have H:=List.mem_range.1 H;cases hs:s.testBit q with
  |false=>simp
  |true=>rw[E7 H,h q H hs];simp
theorem TU{n:Nett}(H:NetL n){s:Nat}(hs:s<2^n.states.toNat)(h:Dead n s){c:Int}(G:1<=c):Dead n (yv n.steps s c):=by
 rw[UQ] at h ⊢
 intro q F E
 rw[<-DY H s G,ZW,List.any_eq_true] at E
 obtain⟨x,K,J⟩:=E
 simp only[Bool.and_eq_true,decide_eq_true_eq] at J
 cases L:Z8 n q with
 |false=>rfl
 |true=>
  rw[<-J.2] at L;have M:=TS H K L;have:=(H.steps x K).1
  rw[h x.src.toNat (by omega) J.1.1] at M
  cases M
theorem E8{n:Nett}(H:NetL n){s:Nat}(hs:s<2^n.states.toNat)(h:Dead n s):s &&& yk n.final=0:=by
 rw[UQ] at h
 apply Nat.eq_of_testBit_eq
 intro j
 rw[Nat.zero_testBit,Nat.testBit_and]
 cases G:s.testBit j with
 |false=>rfl
 |true=>
  rw[Bool.true_and];cases F:(yk n.final).testBit j with
  |false=>rfl
  |true=>
   have hj:j<n.states.toNat:=by
    rcases Nat.lt_or_ge j n.states.toNat with E | E
    .exact E
    .have K:=Nat.testBit_lt_two_pow (i:=j) (Nat.lt_of_lt_of_le hs (Nat.pow_le_pow_right (by omega) E))
     rw[K] at G;cases G
   have J:=h j hj G;unfold Z8 jO at J;rw[List.any_eq_false] at J;have L:=J j (List.mem_range.2 hj);rw[E6,UO _ _ _ j (by rw[YQ];simp),F] at L
   exact absurd rfl L
def QH(a b:Rf):Bool:=decide (a.rcd<b.rcd) || (decide (a.rcd=b.rcd)&&decide (a.note<b.note))
theorem TV(a b:Rf):zj Tryz.prog 234 [.agg a.row,.agg b.row] (.bool (QH a b)):=by
 refine zn mixed Tryz.func234 rfl c_234 ?_
 by_cases H:a.rcd<b.rcd
 .simp+decide[Tryz.f234,int,Rf.row,QH,H]
 .by_cases G:a.rcd=b.rcd
  .simp+decide[Tryz.f234,int,Rf.row,QH,H,G]
  .simp+decide[Tryz.f234,int,Rf.row,QH,H,G]
theorem TW(a:Rf):zj Tryz.prog 233 [.agg a.row] (.bool (wR a.rcd&&wR a.note)):=by
 refine zn mixed Tryz.func233 rfl c_233 ?_
 simp+decide[Tryz.f233,int,Rf.row]
 refine zg (Qh a.rcd) ?_
 cases h:wR a.rcd with
 |false=>simp+decide[int]
 |true=>
  simp+decide[int];refine zg (Qh a.note) ?_
  simp+decide[int]
theorem TX(l:List Rf)(n:Int)(L:l.length<=1048576):xU Tryz.prog 202 [jo l,int n] Je:=by
 refine qV mixed Tryz.func202 rfl c_202 ?_
 by_cases M:n<l.length
 .simp+decide[Tryz.f202,int,jo,M]
 simp+decide[Tryz.f202,int,jo,M]
 refine zr mixed (λk:Nat=>{n:=37,next:=0,slots:=[(0,.d (jo l)),(5,.d (int k))],own:=[]})
  (λk=>k<=l.length) (λk=>l.length-k) 0 (by simp) (by simp+decide[int,jo]) ?_
 intro k O
 by_cases G:k<l.length
 .have H:(k:Int)<l.length:=by omega
  obtain⟨x,ex⟩:∃ x,l[k]=x:=⟨_,rfl⟩;have e1:l[k]?=some x:=by rw[List.getElem?_eq_getElem G,ex]
  simp+decide[int,jo,Rf.row,G,H,e1,ex];refine zg (TW x) ?_
  cases Q:wR x.rcd&&wR x.note with
  |false=>simp+decide[int]
  |true=>
   by_cases E:k=0
   .subst E
    simp+decide[int,I64,jo];exact⟨1,G,by omega,by omega⟩
   .have F:(0:Int)<k:=by omega
    have K:k-1<l.length:=by omega
    obtain⟨y,ey⟩:∃ y,l[k-1]=y:=⟨_,rfl⟩;have ey1:l[k-1]?=some y:=by rw[List.getElem?_eq_getElem K,ey]
    have t1:((k:Int)-1).toNat=k-1:=by omega
    have t2:0<=(k:Int)-1:=by omega
    have t3:(k:Int)-1<l.length:=by omega
    simp+decide[int,I64,jo,Rf.row,E,F,G,H,e1,ex,ey,ey1,t1,t2,t3,K];intro _;refine⟨⟨by omega,by omega⟩,by omega,?_⟩
    refine scp (TV y x) ?_
    cases J:QH y x with
    |false=>simp+decide[int]
    |true=>
     simp+decide[int,I64,jo,F];exact⟨⟨by omega,by omega⟩,k+1,G,by omega,by omega⟩
 .have H:¬(k:Int)<l.length:=by omega
  simp+decide[int,jo,H]
theorem TY(e:Ent)(L:e.links.length<=1048576):xU Tryz.prog 201 [.agg e.row] (λx=>∃ n,x=int n/\(n=0->e.links.length<=12/\∀ l∈e.links,0<=l.kind/\l.kind<=5)):=by
 refine qV mixed Tryz.func201 rfl c_201 ?_
 by_cases M:(12:Int)<e.links.length
 .simp+decide[Tryz.f201,int,Ent.row,x4,M]
 simp+decide[Tryz.f201,int,Ent.row,x4,M]
 refine zr mixed (λk:Nat=>{n:=76,next:=1,slots:=[(1,.bp 0 0),(3,.d (int k))],own:=[(0,.box 102 (e.row.map .d))]})
  (λk=>k<=e.links.length/\∀ l∈e.links.take k,0<=l.kind/\l.kind<=5) (λk=>e.links.length-k) 0 (by simp) (by simp+decide[int,ints,Ent.row,x4]) ?_
 intro k ⟨O,Q⟩
 by_cases G:k<e.links.length
 .have H:(k:Int)<e.links.length:=by omega
  obtain⟨x,ex⟩:∃ x,e.links[k]=x:=⟨_,rfl⟩;have e1:e.links[k]?=some x:=by rw[List.getElem?_eq_getElem G,ex]
  have hsn:=yu G;rw[ex] at hsn;by_cases b1:x.kind<0
  .simp+decide[int,ints,Ent.row,x4,Lnk.row,G,H,e1,ex,b1]
  by_cases b2:5<x.kind
  .simp+decide[int,ints,Ent.row,x4,Lnk.row,G,H,e1,ex,b1,b2]
  have J:∀ z∈e.links.take (k+1),0<=z.kind/\z.kind<=5:=by
   intro z T;rw[hsn] at T;rcases List.mem_append.1 T with h | h
   .exact Q z h
   .rw[List.mem_singleton] at h;rw[h];omega
  simp+decide[int,ints,Ent.row,x4,Lnk.row,G,H,e1,ex,b1,b2];refine zg (Qh x.dst) ?_
  cases V:wR x.dst with
  |false=>simp+decide[int]
  |true=>
   by_cases b3:x.dst=e.id
   .simp+decide[int,b3]
   by_cases E:k=0
   .subst E
    simp+decide[int,ints,Ent.row,x4,Lnk.row,I64,b3];exact⟨1,⟨G,J⟩,by omega,by omega⟩
   .have F:(0:Int)<k:=by omega
    have K:k-1<e.links.length:=by omega
    obtain⟨y,ey⟩:∃ y,e.links[k-1]=y:=⟨_,rfl⟩;have ey1:e.links[k-1]?=some y:=by rw[List.getElem?_eq_getElem K,ey]
    have t1:((k:Int)-1).toNat=k-1:=by omega
    have t2:0<=(k:Int)-1:=by omega
    have t3:(k:Int)-1<e.links.length:=by omega
    by_cases c1:x.kind<y.kind
    .simp+decide[int,ints,Ent.row,x4,Lnk.row,I64,b3,E,F,G,H,e1,ex,ey,ey1,t1,t2,t3,K,c1]
     exact λ_=>⟨⟨by omega,by omega⟩,by omega⟩
    .by_cases c2:x.kind=y.kind
     .by_cases c3:x.dst<=y.dst
      .simp+decide[int,ints,Ent.row,x4,Lnk.row,I64,b3,E,F,G,H,e1,ex,ey,ey1,t1,t2,t3,K,c1,c2,c3]
       exact λ_=>⟨⟨by omega,by omega⟩,by omega,⟨by omega,by omega⟩,by omega,⟨by omega,by omega⟩,by omega⟩
      .simp+decide[int,ints,Ent.row,x4,Lnk.row,I64,b3,E,F,G,H,e1,ex,ey,ey1,t1,t2,t3,K,c1,c2,c3]
       exact λ_=>⟨⟨by omega,by omega⟩,by omega,⟨by omega,by omega⟩,by omega,⟨by omega,by omega⟩,by omega,⟨by omega,by omega⟩,k+1,⟨G,J⟩,by omega,by omega⟩
     .simp+decide[int,ints,Ent.row,x4,Lnk.row,I64,b3,E,F,G,H,e1,ex,ey,ey1,t1,t2,t3,K,c1,c2]
      exact λ_=>⟨⟨by omega,by omega⟩,by omega,⟨by omega,by omega⟩,by omega,⟨by omega,by omega⟩,k+1,⟨G,J⟩,by omega,by omega⟩
 .have:k=e.links.length:=by omega
  subst this;rw[List.take_length] at Q;simp+decide[int,ints,Ent.row,x4];exact⟨by omega,Q⟩
structure EntF(inv:List Phon)(e:Ent):Prop extends WordsF inv e where
 senses:e.senses≠[]\/e.main≠0
 fewS:e.senses.length<=5
 links:e.links.length<=12
 kinds:∀ l∈e.links,0<=l.kind/\l.kind<=5
 gl:∀ s∈e.senses,xl s.gloss=true
theorem A0(inv:List Phon)(e:Ent)(H:EntC e):xU Tryz.prog 149 [.agg [zI inv],.agg e.row] (λx=>∃ n,x=int n/\(n=0->EntF inv e)):=by
 refine qV mixed Tryz.func149 rfl c_149 ?_
 simp+decide[Tryz.f149,int,Ent.row]
 refine zF.some (by rfl) (Rk inv e H) ?_
 rintro r ⟨n,rfl,G⟩
 by_cases F:n=0
 case neg=>simp+decide[int,F]
 have G:=G F
 simp+decide[int,F]
 refine zF.some (by rfl) (Ro e H) ?_
 rintro r ⟨m,rfl,E⟩
 by_cases K:m=0
 case neg=>simp+decide[int,K]
 have E:=E K
 simp+decide[int,K]
 refine zF.some (by rfl) (TY e H.links) ?_
 rintro r ⟨j,rfl,J⟩
 by_cases L:j=0
 case neg=>simp+decide[int,L]
 have J:=J L
 simp+decide[int,L]
 refine zF.some (by rfl) (TX e.refs 12 H.refs) ?_
 rintro r ⟨i,rfl⟩
 simp+decide[int]
 exact λ_=>⟨G,E.1.1,E.1.2,J.1,J.2,E.2⟩
theorem UR(l:List Ent)(id:Int)(H:l.length<2^40):zj Tryz.prog 150 [zm l,int id] (.bool (zG l id).2):=by
 refine zn mixed Tryz.func150 rfl c_150 ?_
 have G:=J4 l id (by omega)
 generalize zG l id=r at G ⊢
 obtain⟨e,ok⟩:=r
 simp+decide[Tryz.f150,int,zm]
 refine zg G ?_
 simp+decide[int,Ent.row]
structure LexC(l:List Ent):Prop where
 few:l.length<=1048576
 each:∀ e∈l,EntC e
structure LexF(inv:List Phon)(l:List Ent):Prop where
 each:∀ e∈l,EntF inv e
 up:∀ k (h:k+1<l.length),l[k].id<l[k+1].id
theorem A1(inv:List Phon)(l:List Ent)(C:LexC l):xU Tryz.prog 90 [.agg [zI inv],zm l] (λx=>∃ n,x=int n/\(n=0->LexF inv l)):=by
 have V:=C.few
 refine qV mixed Tryz.func90 rfl c_90 ?_
 by_cases I:(100:Int)<l.length
 .simp+decide[Tryz.f90,int,zm,I]
 simp+decide[Tryz.f90,int,zm,I]
 refine yU mixed (λk:Nat=>{n:=87,next:=1,slots:=[(1,.d (zm l)),(2,.bp 0 0),(13,.d (int l.length)),(14,.d (int k))],own:=[(0,.box 24 [.d (zI inv)])]})
  (λk=>k<=l.length/\(∀ e∈l.take k,EntF inv e)/\∀ j (h:j+1<l.length),j+1<k->l[j].id<l[j+1].id) (λk=>l.length-k) 0 ⟨by simp,by simp,λj h N=>absurd N (by omega)⟩ (by simp+decide[int,ints,zm]) ?_
 intro k ⟨P,S,Q⟩
 by_cases E:k<l.length
 .have K:(k:Int)<l.length:=by omega
  have W:=C.each l[k] (List.getElem_mem E);obtain⟨e,ee⟩:∃ e,l[k]=e:=⟨_,rfl⟩;have e1:l[k]?=some e:=by rw[List.getElem?_eq_getElem E,ee]
  have hsn:=yu E;rw[ee] at hsn W;have hE:=A0 inv e W;refine jI mixed 2 {n:=87,next:=1,slots:=[(1,.d (zm l)),(2,.bp 0 0),(13,.d (int l.length)),(14,.d (int k))],own:=[(0,.box 24 [.d (zI inv)])]} rfl (by simp+decide[yn,qW,int,zm,E,K]) ?_
  simp only[yL];refine VH (Yo (jI mixed 1 {n:=87,next:=1,slots:=[(1,.d (zm l)),(2,.bp 0 0),(5,.d (int k)),(13,.d (int l.length)),(14,.d (int k))],own:=[(0,.box 24 [.d (zI inv)])]} rfl (by simp+decide[yn,qW,int,zm]) ?_)) mixed
  simp only[yL];refine VH ?_ mixed
  refine Yr mixed 5 (by rfl) (by rfl) (by rfl) (by rfl) (by simp) ?_
  simp+decide[int,zm,Ent.row,E,K,ee,e1];refine zF.some (by rfl) hE ?_
  rintro r ⟨n,rfl,hF⟩
  by_cases hn:n=0
  case neg=>simp+decide[int,hn]
  have hF:=hF hn;have T:∀ x∈l.take (k+1),EntF inv x:=by
   intro x hx;rw[hsn] at hx;rcases List.mem_append.1 hx with h | h
   .exact S x h
   .rw[List.mem_singleton] at h;rw[h];exact hF
  by_cases O:k=0
  .subst O
   simp+decide[int,hn,zm,I64];exact⟨1,⟨E,T,λj h N=>absurd N (by omega)⟩,by omega,by omega⟩
  .have L:(0:Int)<k:=by omega
   have F:k-1<l.length:=by omega
   obtain⟨y,ey⟩:∃ y,l[k-1]=y:=⟨_,rfl⟩;have ey1:l[k-1]?=some y:=by rw[List.getElem?_eq_getElem F,ey]
   have t1:((k:Int)-1).toNat=k-1:=by omega
   have t2:0<=(k:Int)-1:=by omega
   have t3:(k:Int)-1<l.length:=by omega
   by_cases c1:e.id<=y.id
   .simp+decide[int,hn,zm,Ent.row,I64,O,L,E,K,e1,ee,ey,ey1,t1,t2,t3,F,c1]
    exact λ_=>⟨⟨by omega,by omega⟩,by omega⟩
   .simp+decide[int,hn,zm,Ent.row,I64,O,L,E,K,e1,ee,ey,ey1,t1,t2,t3,F,c1]
    refine λ_=>⟨⟨by omega,by omega⟩,by omega,⟨by omega,by omega⟩,k+1,⟨E,T,λj h N=>?_⟩,by omega,by omega⟩
    by_cases hj:j+1<k
    .exact Q j h hj
    .have X:j=k-1:=by omega
     subst X;have B:k-1+1=k:=by omega
     have:l[k-1+1]=e:=by rw[<-ee];congr 1
     rw[ey,this];omega
 .have:k=l.length:=by omega
  subst this;rw[List.take_length] at S;refine zL mixed ?_
  simp+decide[int,zm];have M:LexF inv l:=⟨S,λj h=>Q j h h⟩
  refine zr mixed (λk:Nat=>{n:=87,next:=1,slots:=[(1,.d (zm l)),(2,.bp 0 0),(44,.d (int l.length)),(45,.d (int k))],own:=[(0,.box 24 [.d (zI inv)])]})
   (λk=>k<=l.length) (λk=>l.length-k) 0 (by simp) (by simp+decide[int,ints,zm]) ?_
  intro i hi;by_cases J:i<l.length
  .have H:(i:Int)<l.length:=by omega
   have Y:=(S l[i] (List.getElem_mem J)).links;obtain⟨e,ee⟩:∃ e,l[i]=e:=⟨_,rfl⟩;have e1:l[i]?=some e:=by rw[List.getElem?_eq_getElem J,ee]
   rw[ee] at Y;by_cases hm:e.main=0
   .simp+decide[int,zm,Ent.row,x4,J,H,e1,ee,hm,I64]
    refine zr mixed (λm:Nat=>{n:=87,next:=1,slots:=[(1,.d (zm l)),(2,.bp 0 0),(7,.d (int i)),(44,.d (int l.length)),(45,.d (int i)),(69,.d (int e.links.length)),(70,.d (int m))],own:=[(0,.box 24 [.d (zI inv)])]})
     (λm=>m<=e.links.length) (λm=>e.links.length-m) 0 (by simp) (by simp+decide[int,ints,zm]) ?_
    intro m Z;by_cases F:m<e.links.length
    .have G:(m:Int)<e.links.length:=by omega
     obtain⟨y,ey⟩:∃ y,e.links[m]=y:=⟨_,rfl⟩;have ey1:e.links[m]?=some y:=by rw[List.getElem?_eq_getElem F,ey]
     simp+decide[int,zm,Ent.row,x4,Lnk.row,J,H,e1,ee,F,G,ey,ey1,I64];refine zg (UR l y.dst (by omega)) ?_
     cases A:(zG l y.dst).2 with
     |false=>simp+decide[int]
     |true=>
      simp+decide[int,I64,zm];exact⟨⟨by omega,by omega⟩,m+1,F,by omega,by omega⟩
    .have G:¬(m:Int)<e.links.length:=by omega
     simp+decide[int,zm,G,I64];exact⟨⟨by omega,by omega⟩,i+1,J,by omega,by omega⟩
   .simp+decide[int,zm,Ent.row,x4,J,H,e1,ee,hm,I64]
    refine zg (UR l e.main (by omega)) ?_
    cases hg:(zG l e.main).2 with
    |false=>simp+decide[int]
    |true=>
     simp+decide[int,zm,Ent.row,x4,J,H,e1,ee,hm,I64];refine zr mixed (λm:Nat=>{n:=87,next:=1,slots:=[(1,.d (zm l)),(2,.bp 0 0),(7,.d (int i)),(44,.d (int l.length)),(45,.d (int i)),(69,.d (int e.links.length)),(70,.d (int m))],own:=[(0,.box 24 [.d (zI inv)])]})
      (λm=>m<=e.links.length) (λm=>e.links.length-m) 0 (by simp) (by simp+decide[int,ints,zm]) ?_
     intro m Z;by_cases F:m<e.links.length
     .have G:(m:Int)<e.links.length:=by omega
      obtain⟨y,ey⟩:∃ y,e.links[m]=y:=⟨_,rfl⟩;have ey1:e.links[m]?=some y:=by rw[List.getElem?_eq_getElem F,ey]
      simp+decide[int,zm,Ent.row,x4,Lnk.row,J,H,e1,ee,F,G,ey,ey1,I64];refine zg (UR l y.dst (by omega)) ?_
      cases A:(zG l y.dst).2 with
      |false=>simp+decide[int]
      |true=>
       simp+decide[int,I64,zm];exact⟨⟨by omega,by omega⟩,m+1,F,by omega,by omega⟩
     .have G:¬(m:Int)<e.links.length:=by omega
      simp+decide[int,zm,G,I64];exact⟨⟨by omega,by omega⟩,i+1,J,by omega,by omega⟩
  .have H:¬(i:Int)<l.length:=by omega
   simp+decide[int,zm,H];exact M
def QI(k:Int):Int:=if k=0 then k else if k=1 then k else if k=2 then 3 else if k=3 then 2 else if k=4 then 5 else if k=5 then 4 else -1
theorem E9(k:Int):zj Tryz.prog 151 [int k] (int (QI k)):=by
 refine zn mixed Tryz.func151 rfl c_151 ?_
 unfold QI
 by_cases H:k=0
 .simp+decide[Tryz.f151,int,H]
 by_cases G:k=1
 .simp+decide[Tryz.f151,int,H,G]
 by_cases F:k=2
 .simp+decide[Tryz.f151,int,H,G,F]
 by_cases E:k=3
 .simp+decide[Tryz.f151,int,H,G,F,E]
 by_cases K:k=4
 .simp+decide[Tryz.f151,int,H,G,F,E,K]
 by_cases J:k=5
 .simp+decide[Tryz.f151,int,H,G,F,E,K,J]
 simp+decide[Tryz.f151,int,H,G,F,E,K,J]
def QJ(e:Ent)(x:Lnk):Bool:=e.links.any λy=>decide (y=x)
theorem A2(e:Ent)(x:Lnk)(K:e.links.length<=1048576):zj Tryz.prog 153 [.agg e.row,.agg x.row] (.bool (QJ e x)):=by
 refine zn mixed Tryz.func153 rfl c_153 ?_
 simp+decide[Tryz.f153,int,Ent.row,Lnk.row]
 refine zr mixed (λk:Nat=>{n:=20,next:=2,slots:=[(2,.bp 0 0),(3,.bp 1 0),(5,.d (int k))],own:=[(0,.box 102 (e.row.map .d)),(1,.box 213 (x.row.map .d))]})
  (λk=>k<=e.links.length/\∀ y∈e.links.take k,¬y=x) (λk=>e.links.length-k) 0 (by simp) (by simp+decide[int,ints,Ent.row,Lnk.row,x4]) ?_
 intro k ⟨J,L⟩
 by_cases H:k<e.links.length
 .have G:(k:Int)<e.links.length:=by omega
  have F:=List.getElem_mem H;have hsn:=yu H;obtain⟨y,ey⟩:∃ y,e.links[k]=y:=⟨_,rfl⟩;have e1:e.links[k]?=some y:=by rw[List.getElem?_eq_getElem H,ey]
  rw[ey] at F hsn;by_cases b1:y=x
  .have:QJ e x=true:=List.any_eq_true.2 ⟨y,F,by simpa using b1⟩
   rw[this];subst b1;simp+decide[int,ints,Ent.row,x4,Lnk.row,H,G,e1,ey]
  .simp+decide[int,ints,Ent.row,x4,Lnk.row,H,G,e1,ey,I64]
   have E:y.kind=x.kind->¬y.dst=x.dst:=by
    intro M O;obtain⟨a,b⟩:=y;obtain⟨c,d⟩:=x;simp only at M O
    exact b1 (by rw[M,O])
   refine⟨λM O=>absurd O (E M),λ_=>⟨⟨by omega,by omega⟩,k+1,⟨H,λz Q=>?_⟩,by omega,by omega⟩⟩
   rw[hsn] at Q;rcases List.mem_append.1 Q with h | h
   .exact L z h
   .rw[List.mem_singleton] at h;rw[h];exact b1
 .have:k=e.links.length:=by omega
  subst this;rw[List.take_length] at L;have:QJ e x=false:=by unfold QJ;rw[List.any_eq_false];intro y T;simpa using L y T
  rw[this];simp+decide[int,ints,Ent.row,x4]
theorem Ea(l:List Int)(x:Int)(E:l.length<2^40):zj Tryz.prog 154 [ints l,int x] (.bool (decide (x∈l))):=by
 refine zn mixed Tryz.func154 rfl c_154 ?_
 simp+decide[Tryz.f154,int,ints]
 refine zr mixed (λk:Nat=>{n:=18,next:=0,slots:=[(0,.d (ints l)),(1,.d (int x)),(5,.d (int k))],own:=[]})
  (λk=>k<=l.length/\∀ y∈l.take k,¬y=x) (λk=>l.length-k) 0 (by simp) (by simp+decide[int,ints]) ?_
 intro k ⟨K,J⟩
 by_cases H:k<l.length
 .have G:(k:Int)<l.length:=by omega
  have F:=List.getElem_mem H;have hsn:=yu H;obtain⟨y,ey⟩:∃ y,l[k]=y:=⟨_,rfl⟩;have e1:l[k]?=some y:=by rw[List.getElem?_eq_getElem H,ey]
  rw[ey] at F hsn;by_cases b1:y=x
  .subst b1
   simp+decide[int,ints,H,G,e1,ey,F]
  .simp+decide[int,ints,H,G,e1,ey,b1,I64]
   refine⟨⟨by omega,by omega⟩,k+1,⟨H,λz L=>?_⟩,by omega,by omega⟩
   rw[hsn] at L;rcases List.mem_append.1 L with h | h
   .exact J z h
   .rw[List.mem_singleton] at h;rw[h];exact b1
 .have:k=l.length:=by omega
  subst this;rw[List.take_length] at J;have M:¬x∈l:=λh=>J x h rfl
  simp+decide[int,ints,M]
def jR(l:List Ent)(kind:Int)(s:List Bool×List Int)(x:Lnk):List Bool×List Int:=
 if x.kind=kind/\0<=x5 l x.dst/\s.1[(x5 l x.dst).toNat]?.getD true=false then (s.1.set (x5 l x.dst).toNat true,s.2++[x.dst]) else s
def wE(l:List Ent)(kind:Int)(s:List Bool×List Int)(t:Int):List Bool×List Int:=(zG l t).1.links.foldl (jR l kind) s
def Eb(l:List Ent)(kind:Int)(s:List Bool×List Int):List Bool×List Int:=s.2.foldl (wE l kind) (s.1,[])
def rN(l:List Ent)(id kind:Int):Nat->List Bool×List Int
 |0=>(List.replicate l.length false,[id])
 |n+1=>Eb l kind (rN l id kind n)
def uV(l:List Ent)(s:List Bool)(k:Nat):List Int:=((List.range k).filter λj=>s[j]?.getD false).map λj=>((l[j]?).map Ent.id).getD 0
def ZX(l:List Ent)(id kind:Int):List Int:=uV l (rN l id kind (l.length+1)).1 l.length
theorem A3(l:List Ent)(kind:Int)(s:List Bool×List Int)(x:Lnk):(jR l kind s x).1.length=s.1.length/\(jR l kind s x).2.length<=s.2.length+1:=by
 unfold jR;split <;> simp
theorem US(l:List Ent)(kind:Int):∀ (xs:List Lnk) (s:List Bool×List Int),(xs.foldl (jR l kind) s).1.length=s.1.length/\(xs.foldl (jR l kind) s).2.length<=s.2.length+xs.length
 | [],s=>⟨rfl,Nat.le_refl _⟩
 |x::xs,s=>by
  have H:=A3 l kind s x;have G:=US l kind xs (jR l kind s x);rw[List.foldl_cons,List.length_cons];exact⟨G.1.trans H.1,by omega⟩
theorem Ec{l:List Ent}(H:∀ e∈l,e.links.length<=12)(t:Int):(zG l t).1.links.length<=12:=by
 rcases wi l t with⟨_,G⟩ | ⟨j,hj,_,G⟩
 .rw[G];simp[Ent.zero]
 .rw[G];exact H _ (List.getElem_mem hj)
theorem UT{l:List Ent}(H:∀ e∈l,e.links.length<=12)(kind:Int):∀ (ts:List Int) (s:List Bool×List Int),(ts.foldl (wE l kind) s).1.length=s.1.length/\(ts.foldl (wE l kind) s).2.length<=s.2.length+12*ts.length
 | [],s=>⟨rfl,by simp⟩
 |t::ts,s=>by
  have G:=US l kind (zG l t).1.links s;have F:=Ec H t;have E:=UT H kind ts (wE l kind s t);rw[List.foldl_cons,List.length_cons];unfold wE at E ⊢;exact⟨E.1.trans G.1,by omega⟩
theorem Ed{l:List Ent}(H:∀ e∈l,e.links.length<=12)(id kind:Int):∀ n,(rN l id kind n).1.length=l.length/\(rN l id kind n).2.length<=12^n
 |0=>by simp[rN]
 |n+1=>by
  have h:=Ed H id kind n;have G:=UT H kind (rN l id kind n).2 ((rN l id kind n).1,[]);unfold rN Eb;simp only[List.length_nil,Nat.zero_add] at G;refine⟨G.1.trans h.1,Nat.le_trans G.2 ?_⟩
  rw[Nat.pow_succ];omega
theorem A4(l:List Ent)(s:List Bool)(k:Nat):uV l s (k+1)=uV l s k++(if s[k]?.getD false=true then [((l[k]?).map Ent.id).getD 0] else []):=by
 unfold uV
 rw[List.range_succ,List.filter_append,List.map_append]
 congr 1
 by_cases h:s[k]?.getD false=true
 .simp[h]
 .simp[h]
theorem Ee(l:List Ent)(s:List Bool)(k:Nat):(uV l s k).length<=k:=by
 unfold uV
 rw[List.length_map]
 have:=List.length_filter_le (λj=>s[j]?.getD false) (List.range k)
 simpa using this
def rB(l:List Bool):List (List D):=l.map λb=>[.bool b]
def rI(l:List Int):List (List D):=l.map λn=>[int n]
def rH(l:List Ent)(id kind:Int)(i:Nat):St:=
 {n:=110,next:=3,slots:=[(0,.d (zm l)),(1,.d (int id)),(2,.d (int kind)),(7,.ar 1),(8,.d (ints (rN l id kind i).2)),(9,.d (int i))],own:=[(1,.arr 4 1 (rB (rN l id kind i).1))],moved:=[3]}
def rM(l:List Ent)(id kind:Int)(i:Nat)(todo:List Int)(s:List Bool×List Int):St:=
 {n:=110,next:=4,slots:=[(0,.d (zm l)),(1,.d (int id)),(2,.d (int kind)),(7,.ar 1),(8,.d (ints todo)),(9,.d (int i)),(10,.ar 3)],own:=[(1,.arr 4 1 (rB s.1)),(3,.arr 3 1 (rI s.2))],moved:=[3]}
def JA(l:List Ent)(id kind:Int)(i:Nat)(todo:List Int)(j:Nat)(s:List Bool×List Int):St:=
 {n:=110,next:=4,slots:=[(0,.d (zm l)),(1,.d (int id)),(2,.d (int kind)),(7,.ar 1),(8,.d (ints todo)),(9,.d (int i)),(10,.ar 3),(11,.d (int j))],own:=[(1,.arr 4 1 (rB s.1)),(3,.arr 3 1 (rI s.2))],moved:=[3]}
def rL(l:List Ent)(id kind:Int)(i:Nat)(todo:List Int)(j:Nat)(f:Int)(m:Nat)(s:List Bool×List Int):St:=
 {n:=110,next:=4,slots:=[(0,.d (zm l)),(1,.d (int id)),(2,.d (int kind)),(7,.ar 1),(8,.d (ints todo)),(9,.d (int i)),(10,.ar 3),(11,.d (int j)),(12,.d (int f)),(13,.d (int m))],own:=[(1,.arr 4 1 (rB s.1)),(3,.arr 3 1 (rI s.2))],moved:=[3]}
theorem Ef(l:List Ent)(id kind:Int)(hl:l.length<=5)(hk:∀ e∈l,e.links.length<=12):zj Tryz.prog 155 [zm l,int id,int kind] (ints (ZX l id kind)):=by
 refine zn mixed Tryz.func155 rfl c_155 ?_
 simp+decide[Tryz.f155,int,zm]
 refine⟨by omega,by unfold maxLen;omega,?_⟩
 refine VL [2] ?_
 refine yU mixed (rH l id kind) (λi=>i<=l.length+1) (λi=>l.length+1-i) 0 (by simp) (by simp+decide[rH,rN,int,ints,zm,rB]) ?_
 intro i hi
 obtain⟨n1,n2⟩:=Ed hk id kind i
 have N:12^i<=12^6:=Nat.pow_le_pow_right (by omega) (by omega)
 by_cases W:i<l.length+1
 .have Q:(i:Int)<=l.length:=by omega
  refine jI mixed 1 (rH l id kind i) rfl (by simp+decide[rH,yn,qW,int,zm,Q]) ?_
  simp only[yL];refine VH (Yo (jI mixed 2 (rM l id kind i (rN l id kind i).2 (rN l id kind (i+1))) rfl ?_ ?_)) mixed
  .unfold rH
   have n3:(rN l id kind i).2.length<=2985984:=Nat.le_trans n2 (Nat.le_trans N (by decide))
   have G:rN l id kind (i+1)=(rN l id kind i).2.foldl (wE l kind) ((rN l id kind i).1,[]):=rfl
   generalize rN l id kind (i+1)=nx at G;generalize rN l id kind i=cur at G n1 n2 n3 ⊢;obtain⟨seen,todo⟩:=cur;simp only at G n1 n2 n3
   simp+decide[rH,yn,int,zm];have A:(seen,[])=(([]:List Int).foldl (wE l kind) (seen,[])):=rfl
   refine zr mixed (λj:Nat=>JA l id kind i todo j ((todo.take j).foldl (wE l kind) (seen,[]))) (λj=>j<=todo.length) (λj=>todo.length-j) 0 (by simp) (by simp+decide[JA,int,ints,zm,rB,rI]) ?_
   intro j hj;obtain⟨m1,m2⟩:=UT hk kind (todo.take j) (seen,[]);rw[List.length_take] at m2;simp only[List.length_nil,Nat.zero_add] at m1 m2;by_cases K:j<todo.length
   case neg=>
    have:j=todo.length:=by omega
    subst this;rw[List.take_length,<-G];simp+decide[JA,rM,int,ints,zm,qW];done
   have T:(j:Int)<todo.length:=by omega
   have hsn:(todo.take (j+1)).foldl (wE l kind) (seen,[])=wE l kind ((todo.take j).foldl (wE l kind) (seen,[])) todo[j]:=by rw[yu K,List.foldl_append];rfl
   obtain⟨t,et⟩:∃ t,todo[j]=t:=⟨_,rfl⟩;have et1:todo[j]?=some t:=by rw[List.getElem?_eq_getElem K,et]
   rw[et] at hsn;generalize (todo.take j).foldl (wE l kind) (seen,[])=s0 at hsn m1 m2;have hF:=KC l t (by omega)
   have F:=Ec hk t;have V:wE l kind s0 t=(zG l t).1.links.foldl (jR l kind) s0:=rfl
   rw[V] at hsn;simp+decide[JA,int,ints,zm,K,T,et,et1];refine zg hF ?_
   simp+decide[int,ints,zm];refine zr mixed (λm:Nat=>rL l id kind i todo j (x5 l t) m (((zG l t).1.links.take m).foldl (jR l kind) s0)) (λm=>m<=(zG l t).1.links.length) (λm=>(zG l t).1.links.length-m) 0 (by simp) (by simp+decide[rL,int,ints,zm,rB,rI]) ?_
   intro m hm;rcases wi l t with⟨f1,f2⟩ | ⟨q,hq,f1,f2⟩
   .have hz:(zG l t).1.links=[]:=by rw[f2];rfl
    rw[hz] at hm hsn ⊢;have P:m=0:=by simpa using hm
    subst P;have S:¬0<=x5 l t:=by omega
    simp only[List.take_zero,List.foldl_nil] at hsn ⊢;simp+decide[rL,int,ints,zm,S,I64];exact⟨⟨by omega,by omega⟩,j+1,K,by omega,by omega,by rw[hsn],by rw[hsn]⟩
   .rw[f2] at hm hsn F ⊢
    simp only at hm hsn F ⊢
    rw[f1];obtain⟨e,ee⟩:∃ e,l[q]=e:=⟨_,rfl⟩;have eq1:l[q]?=some e:=by rw[List.getElem?_eq_getElem hq,ee]
    have B:(q:Int)<l.length:=by omega
    rw[ee] at hm hsn F ⊢;by_cases E:m<e.links.length
    case neg=>
     have:m=e.links.length:=by omega
     subst this;rw[List.take_length,<-hsn];simp+decide[rL,int,ints,zm,hq,B,ee,eq1,Ent.row,x4,I64];exact⟨⟨by omega,by omega⟩,j+1,K,by omega,by omega,rfl,rfl⟩
    have X:(m:Int)<e.links.length:=by omega
    obtain⟨p1,p2⟩:=US l kind (e.links.take m) s0;rw[List.length_take] at p2;have H:(e.links.take (m+1)).foldl (jR l kind) s0=jR l kind ((e.links.take m).foldl (jR l kind) s0) e.links[m]:=by rw[yu E,List.foldl_append];rfl
    obtain⟨x,ex⟩:∃ x,e.links[m]=x:=⟨_,rfl⟩;have ex1:e.links[m]?=some x:=by rw[List.getElem?_eq_getElem E,ex]
    rw[ex] at H;generalize (e.links.take m).foldl (jR l kind) s0=s1 at H p1 p2;have hG:=KC l x.dst (by omega)
    have J:jR l kind s1 x=if x.kind=kind/\0<=x5 l x.dst/\s1.1[(x5 l x.dst).toNat]?.getD true=false then (s1.1.set (x5 l x.dst).toNat true,s1.2++[x.dst]) else s1:=rfl
    rw[J] at H;simp+decide[rL,int,ints,zm,hq,B,ee,eq1,Ent.row,x4,Lnk.row,I64,E,X,ex,ex1];refine zg hG ?_
    by_cases k1:x.kind=kind
    case neg=>
     rw[if_neg (λh=>k1 h.1)] at H
     simp+decide[int,k1,I64];exact⟨⟨by omega,by omega⟩,m+1,E,by omega,by omega,by rw[H],by rw[H]⟩
    rcases wi l x.dst with⟨g1,g2⟩ | ⟨u,hu,g1,g2⟩
    .have C:¬0<=x5 l x.dst:=by omega
     rw[if_neg (λh=>C h.2.1)] at H
     simp+decide[int,k1,C,I64];exact⟨⟨by omega,by omega⟩,m+1,E,by omega,by omega,by rw[H],by rw[H]⟩
    .have Y:u<s1.1.length:=by omega
     obtain⟨b,eb⟩:∃ b,s1.1[u]=b:=⟨_,rfl⟩;have eb1:s1.1[u]?=some b:=by rw[List.getElem?_eq_getElem Y,eb]
     rw[g1] at H;simp only[Int.toNat_natCast,eb1,Option.getD_some] at H;have I:(u:Int)<s1.1.length:=by omega
     cases b with
     |true=>
      rw[if_neg (λh=>by cases h.2.2)] at H
      simp+decide[int,k1,g1,rB,Y,I,eb,eb1,I64];exact⟨⟨by omega,by omega⟩,m+1,E,by omega,by omega,by rw[H],by rw[H]⟩
     |false=>
      rw[if_pos ⟨k1,by omega,rfl⟩] at H
      simp+decide[int,k1,g1,rB,rI,Y,I,eb,eb1,I64];exact⟨by omega,by unfold maxLen;omega,⟨by omega,by omega⟩,m+1,E,by omega,by omega,by rw[H];simp[List.map_set],by rw[H];simp⟩
  .simp only[yL]
   refine VL [3] ?_
   refine zL mixed ?_
   simp+decide[rM,int,zm];exact⟨⟨by omega,by omega⟩,i+1,by omega,by omega,by simp+decide[rH,int,ints,zm,rB,rI]⟩
 .have:i=l.length+1:=by omega
  subst this;refine zL mixed ?_
  have hn:¬(l.length:Int)+1<=l.length:=by omega
  simp+decide[rH,int,zm,hn];have L:ZX l id kind=uV l (rN l id kind (l.length+1)).1 l.length:=rfl
  generalize (rN l id kind (l.length+1)).1=seen at L n1 ⊢;refine zr mixed (λk:Nat=>{n:=110,next:=4,slots:=[(0,.d (zm l)),(7,.ar 1),(16,.ar 3),(17,.d (int k))],own:=[(1,.arr 4 1 (rB seen)),(3,.arr 3 1 (rI (uV l seen k)))],moved:=[3]}) (λk=>k<=l.length) (λk=>l.length-k) 0 (by simp) (by simp+decide[int,ints,zm,rB,rI,uV]) ?_
  intro k H0;have H1:=Ee l seen k;by_cases F:k<l.length
  .have M:(k:Int)<l.length:=by omega
   have Z:k<seen.length:=by omega
   have O:(k:Int)<seen.length:=by omega
   have hsn:=A4 l seen k;obtain⟨e,ee⟩:∃ e,l[k]=e:=⟨_,rfl⟩;have e1:l[k]?=some e:=by rw[List.getElem?_eq_getElem F,ee]
   obtain⟨b,eb⟩:∃ b,seen[k]=b:=⟨_,rfl⟩;have eb1:seen[k]?=some b:=by rw[List.getElem?_eq_getElem Z,eb]
   rw[e1,eb1] at hsn;cases b with
   |false=>
    simp only[Option.getD_some,Bool.false_eq_true,if_false,List.append_nil] at hsn;simp+decide[int,ints,zm,rB,F,M,Z,O,ee,e1,eb,eb1,I64];exact⟨⟨by omega,by omega⟩,k+1,F,by omega,by omega,by rw[hsn]⟩
   |true=>
    simp only[Option.getD_some,if_true,Option.map_some] at hsn;simp+decide[int,ints,zm,rB,rI,Ent.row,F,M,Z,O,ee,e1,eb,eb1,I64];exact⟨by omega,by unfold maxLen;omega,⟨by omega,by omega⟩,k+1,F,by omega,by omega,by rw[hsn];simp⟩
  .have:k=l.length:=by omega
   subst this;rw[L];simp+decide[int,ints,zm,rI]
theorem Eg(l:List Ent)(id kind:Int):(ZX l id kind).length<=l.length:=Ee _ _ _
theorem A5(l:List Ent)(T:l.length<=5)(V:∀ e∈l,e.links.length<=12):xU Tryz.prog 91 [zm l] Je:=by
 refine qV mixed Tryz.func91 rfl c_91 ?_
 simp+decide[Tryz.f91,int,zm]
 refine zr mixed (λi:Nat=>{n:=91,next:=0,slots:=[(0,.d (zm l)),(3,.d (int i))],own:=[]}) (λi=>i<=l.length) (λi=>l.length-i) 0 (by simp) (by simp+decide[int,zm]) ?_
 intro i hi
 by_cases F:i<l.length
 .have H:(i:Int)<l.length:=by omega
  have M:=V l[i] (List.getElem_mem F);obtain⟨e,ee⟩:∃ e,l[i]=e:=⟨_,rfl⟩;have e1:l[i]?=some e:=by rw[List.getElem?_eq_getElem F,ee]
  rw[ee] at M;simp+decide[int,zm,H];refine zr mixed (λk:Nat=>{n:=91,next:=0,slots:=[(0,.d (zm l)),(3,.d (int i)),(4,.d (int k))],own:=[]}) (λk=>k<=e.links.length) (λk=>e.links.length-k) 0 (by simp) (by simp+decide[int,zm]) ?_
  intro k Q;by_cases J:k<e.links.length
  .have E:(k:Int)<e.links.length:=by omega
   obtain⟨x,ex⟩:∃ x,e.links[k]=x:=⟨_,rfl⟩;have ex1:e.links[k]?=some x:=by rw[List.getElem?_eq_getElem J,ex]
   simp+decide[int,zm,Ent.row,x4,Lnk.row,F,H,ee,e1,J,E,ex,ex1];refine zg (E9 x.kind) ?_
   by_cases c1:QI x.kind<0
   .simp+decide[int,c1]
   simp+decide[int,zm,c1];refine zg (KC l x.dst (by omega)) ?_
   rcases wi l x.dst with⟨g1,g2⟩ | ⟨u,X,g1,g2⟩
   .simp+decide[int,g1]
   .have L:(u:Int)<l.length:=by omega
    have O:=V l[u] (List.getElem_mem X);obtain⟨y,ey⟩:∃ y,l[u]=y:=⟨_,rfl⟩;have ey1:l[u]?=some y:=by rw[List.getElem?_eq_getElem X,ey]
    rw[ey] at O;have Y:=A2 y ⟨QI x.kind,e.id⟩ (by omega)
    rw[g1];simp+decide[int,zm,Ent.row,x4,Lnk.row,F,H,ee,e1,X,L,ey,ey1];refine scp (E9 x.kind) ?_
    simp+decide[int,zm,Ent.row,x4,Lnk.row,F,H,ee,e1,X,L,ey,ey1];refine scp Y ?_
    cases Z:QJ y ⟨QI x.kind,e.id⟩ with
    |false=>simp+decide[int]
    |true=>
     simp+decide[int,I64,zm];exact⟨⟨by omega,by omega⟩,k+1,J,by omega,by omega⟩
  .have E:¬(k:Int)<e.links.length:=by omega
   simp+decide[int,zm,Ent.row,x4,F,H,ee,e1,E,I64];exact⟨⟨by omega,by omega⟩,i+1,F,by omega,by omega⟩
 .have H:¬(i:Int)<l.length:=by omega
  simp+decide[int,zm,H];refine zr mixed (λi:Nat=>{n:=91,next:=0,slots:=[(0,.d (zm l)),(7,.d (int i))],own:=[]}) (λi=>i<=l.length) (λi=>l.length-i) 0 (by simp) (by simp+decide[int,zm]) ?_
  intro j hj;by_cases K:j<l.length
  .have G:(j:Int)<l.length:=by omega
   obtain⟨e,ee⟩:∃ e,l[j]=e:=⟨_,rfl⟩;have e1:l[j]?=some e:=by rw[List.getElem?_eq_getElem K,ee]
   have r2:=Eg l e.id 2;have r4:=Eg l e.id 4;simp+decide[int,zm,Ent.row,K,G,ee,e1];refine scp (Ef l e.id 2 T V) ?_
   simp+decide[int,ints,zm,Ent.row,K,G,ee,e1];refine scp (Ea (ZX l e.id 2) e.id (by omega)) ?_
   by_cases m2:e.id∈ZX l e.id 2
   .simp+decide[int,m2]
   simp+decide[int,zm,Ent.row,K,G,ee,e1,m2];refine scp (Ef l e.id 4 T V) ?_
   simp+decide[int,ints,zm,Ent.row,K,G,ee,e1,m2];refine scp (Ea (ZX l e.id 4) e.id (by omega)) ?_
   by_cases m4:e.id∈ZX l e.id 4
   .simp+decide[int,m2,m4]
   .simp+decide[int,m2,m4,I64,zm]
    exact⟨⟨by omega,by omega⟩,j+1,K,by omega,by omega⟩
  .have G:¬(j:Int)<l.length:=by omega
   simp+decide[int,zm,G]
structure MainF(l:List Ent):Prop where
 main:∀ e∈l,e.main≠0->0<=x5 l e.main
 ends:∀ e∈l,(xO l (l.length+1) e.id).length<=l.length
theorem A6(l:List Ent)(J:l.length<=1048576):xU Tryz.prog 92 [zm l] (λx=>∃ n,x=int n/\(n=0->MainF l)):=by
 refine qV mixed Tryz.func92 rfl c_92 ?_
 simp+decide[Tryz.f92,int,zm]
 refine zr mixed (λi:Nat=>{n:=44,next:=0,slots:=[(0,.d (zm l)),(3,.d (int i))],own:=[]}) (λi=>i<=l.length/\∀ e∈l.take i,e.main≠0->0<=x5 l e.main) (λi=>l.length-i) 0 (by simp) (by simp+decide[int,zm]) ?_
 intro i ⟨hi,L⟩
 by_cases H:i<l.length
 .have G:(i:Int)<l.length:=by omega
  obtain⟨e,ee⟩:∃ e,l[i]=e:=⟨_,rfl⟩;have e1:l[i]?=some e:=by rw[List.getElem?_eq_getElem H,ee]
  have hsn:=yu H;rw[ee] at hsn;have K:(e.main≠0->0<=x5 l e.main)->∀ x∈l.take (i+1),x.main≠0->0<=x5 l x.main:=by
   intro h x M;rw[hsn] at M;rcases List.mem_append.1 M with O | O
   .exact L x O
   .rw[List.mem_singleton] at O;rw[O];exact h
  by_cases Q:e.main=0
  .have T:=K (λh=>absurd Q h)
   simp+decide[int,zm,Ent.row,H,G,ee,e1,Q,I64];exact⟨⟨by omega,by omega⟩,i+1,⟨H,T⟩,by omega,by omega⟩
  .simp+decide[int,zm,Ent.row,H,G,ee,e1,Q,I64]
   refine zg (J3 l e.main (by omega)) ?_
   by_cases c1:x5 l e.main<0
   .simp+decide[int,c1]
   .have T:=K (λ_=>by omega)
    simp+decide[int,c1,I64,zm];exact⟨⟨by omega,by omega⟩,i+1,⟨H,T⟩,by omega,by omega⟩
 .have:i=l.length:=by omega
  subst this;rw[List.take_length] at L;simp+decide[int,zm];refine zr mixed (λi:Nat=>{n:=44,next:=0,slots:=[(0,.d (zm l)),(4,.d (int i))],own:=[]}) (λi=>i<=l.length/\∀ e∈l.take i,(xO l (l.length+1) e.id).length<=l.length) (λi=>l.length-i) 0 (by simp) (by simp+decide[int,zm]) ?_
  intro j ⟨hj,V⟩;by_cases F:j<l.length
  .have E:(j:Int)<l.length:=by omega
   obtain⟨e,ee⟩:∃ e,l[j]=e:=⟨_,rfl⟩;have e1:l[j]?=some e:=by rw[List.getElem?_eq_getElem F,ee]
   have hsn:=yu F;rw[ee] at hsn;simp+decide[int,zm,Ent.row,F,E,ee,e1,I64];refine zg (DR l e.id (by omega)) ?_
   by_cases c1:l.length<(xO l (l.length+1) e.id).length
   .have c1':(l.length:Int)<(xO l (l.length+1) e.id).length:=by omega
    simp+decide[int,ints,zm,c1,c1']
   .have c1':¬(l.length:Int)<(xO l (l.length+1) e.id).length:=by omega
    simp+decide[int,ints,zm,c1,c1',I64];refine⟨⟨by omega,by omega⟩,j+1,⟨F,λx M=>?_⟩,by omega,by omega⟩
    rw[hsn] at M;rcases List.mem_append.1 M with O | O
    .exact V x O
    .rw[List.mem_singleton] at O;rw[O];omega
  .have:j=l.length:=by omega
   subst this;rw[List.take_length] at V;simp+decide[int,zm];exact⟨L,V⟩
theorem UU{s:ByteArray}(h:xl s=true):0<s.size/\s.size<=32:=by
 unfold xl at h
 simp only[Bool.and_eq_true,decide_eq_true_eq] at h
 omega
structure UnitF(u:Grap):Prop where
 pos:0<u.graph.size
 size:u.graph.size<=32
 segs:1<=u.segs.length
 few:u.segs.length<=3
 lab:xl u.graph=true
theorem A7(s:ByteArray)(hs:s.size<=1048576):xU Tryz.prog 145 [.str s] (λx=>∃ b,x = .bool b/\(b=true->xl s=true)):=by
 refine qV mixed Tryz.func145 rfl c_145 ?_
 simp+decide[Tryz.f145,int]
 refine zr mixed (λk:Nat=>{n:=16,next:=0,slots:=[(0,.d (.str s)),(3,.d (int k))],own:=[]})
  (λk=>k<=s.size) (λk=>s.size-k) 0 (by simp) (by simp+decide[int]) ?_
 intro k F
 by_cases G:k<s.size
 .have H:(k:Int)<s.size:=by omega
  have e1:byteAt s (k:Int)=(zD s k:Int):=gP s k
  by_cases b1:(zD s k:Int)=32
  .simp+decide[int,G,H,e1,b1]
  .simp+decide[int,G,H,e1,b1,I64]
   exact⟨⟨by omega,by omega⟩,k+1,G,by omega,by omega⟩
 .have H:¬(k:Int)<s.size:=by omega
  simp+decide[int,H];refine zg (Ct s hs) ?_
  simp+decide[int]
theorem A8(inv:List Phon)(o:Orth)(Q:OrthC o)(i:Nat)(hi:i<o.units.length)(T:inv.length<2^40):xU Tryz.prog 144 [.agg [zI inv],.agg o.cells,int i] (λx=>∃ n,x=int n/\(n=0->∀ u,o.units[i]?=some u->UnitF u)):=by
 refine qV mixed Tryz.func144 rfl c_144 ?_
 have M:(i:Int)<o.units.length:=by omega
 have V:=Q.units o.units[i] (List.getElem_mem hi)
 have O:=Q.few.1
 obtain⟨u,eu⟩:∃ u,o.units[i]=u:=⟨_,rfl⟩
 have eu1:o.units[i]?=some u:=by rw[List.getElem?_eq_getElem hi,eu]
 rw[eu] at V
 rw[eu1]
 simp+decide[Tryz.f144,int,Orth.cells,zN,hi,M,eu,eu1,Grap.row]
 refine zF.some (by rfl) (A7 u.graph V.1) ?_
 rintro r ⟨b,rfl,G⟩
 cases b with
 |false=>simp+decide[int]
 |true=>
  have G:=G rfl;simp+decide[int];refine zr mixed (λk:Nat=>{n:=67,next:=3,slots:=[(2,.d (int i)),(3,.bp 0 0),(4,.bp 1 0),(7,.bp 2 0),(8,.d (int k))],own:=[(0,.box 24 [.d (zI inv)]),(1,.box 28 (o.cells.map .d)),(2,.box 143 [.d (.str u.graph),.d (ints u.segs)])]})
   (λk=>k<=i) (λk=>i-k) 0 (by simp) (by simp+decide[int,ints,Orth.cells,zN,Grap.row]) ?_
  intro k X;by_cases E:k<i
  .have H:(k:Int)<i:=by omega
   have L:k<o.units.length:=by omega
   have K:(k:Int)<o.units.length:=by omega
   obtain⟨x,ex⟩:∃ x,o.units[k]=x:=⟨_,rfl⟩;have ex1:o.units[k]?=some x:=by rw[List.getElem?_eq_getElem L,ex]
   by_cases b1:x.graph=u.graph
   .simp+decide[int,ints,Orth.cells,zN,Grap.row,E,H,L,K,ex,ex1,b1]
   .simp+decide[int,ints,Orth.cells,zN,Grap.row,E,H,L,K,ex,ex1,b1,I64]
    first | exact λ_=>⟨⟨by omega,by omega⟩,k+1,E,by omega,by omega⟩ | exact⟨⟨by omega,by omega⟩,k+1,E,by omega,by omega⟩
  .have H:¬(k:Int)<i:=by omega
   by_cases c1:(u.segs.length:Int)<1
   .simp+decide[int,ints,Orth.cells,zN,Grap.row,E,H,c1]
   .by_cases c2:(3:Int)<u.segs.length
    .simp+decide[int,ints,Orth.cells,zN,Grap.row,E,H,c1,c2]
    .simp+decide[int,ints,Orth.cells,zN,Grap.row,E,H,c1,c2]
     refine zr mixed (λm:Nat=>{n:=67,next:=3,slots:=[(2,.d (int i)),(3,.bp 0 0),(4,.bp 1 0),(7,.bp 2 0),(9,.d (int m))],own:=[(0,.box 24 [.d (zI inv)]),(1,.box 28 (o.cells.map .d)),(2,.box 143 [.d (.str u.graph),.d (ints u.segs)])]})
      (λm=>m<=u.segs.length) (λm=>u.segs.length-m) 0 (by simp) (by simp+decide[int,ints,Orth.cells,zN,Grap.row]) ?_
     intro m Y;by_cases J:m<u.segs.length
     .have F:(m:Int)<u.segs.length:=by omega
      obtain⟨y,ey⟩:∃ y,u.segs[m]=y:=⟨_,rfl⟩;have ey1:u.segs[m]?=some y:=by rw[List.getElem?_eq_getElem J,ey]
      by_cases b1:y<1
      .simp+decide[int,ints,J,F,ey,ey1,b1]
      .by_cases b2:(inv.length:Int)<y
       .simp+decide[int,ints,zI,J,F,ey,ey1,b1,b2]
       .simp+decide[int,ints,zI,J,F,ey,ey1,b1,b2,I64]
        exact⟨⟨by omega,by omega⟩,m+1,J,by omega,by omega,by simp[Orth.cells,Sym.los,Sym.lo]⟩
     .have F:¬(m:Int)<u.segs.length:=by omega
      simp+decide[int,ints,F];exact⟨(UU G).1,(UU G).2,by omega,by omega,G⟩
theorem Aa(inv:List Phon)(o:Orth)(Y:OrthC o)(Z:inv.length<2^40):xU Tryz.prog 87 [.agg [zI inv],.agg o.cells] (λx=>∃ n,x=int n/\(n=0->∀ u∈o.units,UnitF u)):=by
 have Q:=Y.few
 refine qV mixed Tryz.func87 rfl c_87 ?_
 simp+decide[Tryz.f87,int,Orth.cells]
 refine zg (Cd o.name (by have:=Y.name;omega)) ?_
 cases X:nameP o.name with
 |false=>simp+decide[int]
 |true=>
  by_cases A:(100:Int)<o.units.length
  .simp+decide[int,zN,A]
  simp+decide[int,zN,A];refine zr mixed (λk:Nat=>{n:=79,next:=2,slots:=[(2,.bp 0 0),(3,.bp 1 0),(5,.d (int k))],own:=[(0,.box 24 [.d (zI inv)]),(1,.box 28 (o.cells.map .d))]})
   (λk=>k<=o.units.length/\∀ u∈o.units.take k,UnitF u) (λk=>o.units.length-k) 0 (by simp) (by simp+decide[int,zN,Orth.cells]) ?_
  intro k ⟨B,M⟩;by_cases K:k<o.units.length
  .have G:(k:Int)<o.units.length:=by omega
   simp+decide[int,zN,K,G,Orth.cells];refine zF.some (by rfl) (A8 inv o Y k K Z) ?_
   rintro r ⟨e,rfl,O⟩
   by_cases C:e=0
   .subst C
    simp+decide[int,I64];exact⟨⟨by omega,by omega⟩,k+1,⟨K,λu I=>by
     rw[yu K] at I;rcases List.mem_append.1 I with h | h
     .exact M u h
     .rw[List.mem_singleton] at h
      exact O rfl u (by rw[List.getElem?_eq_getElem K,h])⟩,by omega,by simp[Orth.cells,Sym.los,Sym.lo,zN]⟩
   .simp+decide[int,C]
  .have G:¬(k:Int)<o.units.length:=by omega
   have:k=o.units.length:=by omega
   subst this;rw[List.take_length] at M;by_cases N:(100:Int)<o.letters.length
   .simp+decide[int,zN,wh,G,N,Orth.cells]
   simp+decide[int,zN,wh,G,N,Orth.cells];refine zr mixed (λx:Nat×List ByteArray=>{n:=79,next:=3,slots:=[(2,.bp 0 0),(3,.bp 1 0),(7,.ar 2),(8,.d (int x.1))],own:=[(0,.box 24 [.d (zI inv)]),(1,.box 28 (o.cells.map .d)),(2,.arr 9 1 (x.2.map λs=>[.str s]))],moved:=[2]})
    (λx=>x.1<=o.letters.length/\x.2.length<=x.1*1048576) (λx=>o.letters.length-x.1) (0,[]) (by simp) (by simp+decide[int,zN,wh,Orth.cells]) ?_
   rintro⟨i,seen⟩ ⟨hi,hs⟩
   simp only at hi hs
   by_cases F:i<o.letters.length
   .have H:(i:Int)<o.letters.length:=by omega
    have P:=Y.letters o.letters[i] (List.getElem_mem F);obtain⟨L,eL⟩:∃ L,o.letters[i]=L:=⟨_,rfl⟩;have eL1:o.letters[i]?=some L:=by rw[List.getElem?_eq_getElem F,eL]
    rw[eL] at P;by_cases S:L.length=0
    .simp+decide[int,zN,wh,Orth.cells,F,H,eL,eL1,S]
    have T:¬(L.length:Int)=0:=by omega
    simp+decide[int,zN,wh,Orth.cells,F,H,eL,eL1,S,T];refine zr mixed (λx:Nat×List ByteArray=>{n:=79,next:=3,slots:=[(2,.bp 0 0),(3,.bp 1 0),(7,.ar 2),(8,.d (int i)),(9,.d (int x.1))],own:=[(0,.box 24 [.d (zI inv)]),(1,.box 28 (o.cells.map .d)),(2,.arr 9 1 (x.2.map λs=>[.str s]))],moved:=[2]})
     (λx=>x.1<=L.length/\x.2.length<=i*1048576+x.1) (λx=>L.length-x.1) (0,seen) (by simpa using hs) (by simp+decide[int,zN,wh,Orth.cells]) ?_
    rintro⟨m,sn⟩ ⟨W,V⟩
    simp only at W V
    by_cases J:m<L.length
    .have E:(m:Int)<L.length:=by omega
     have hS:=P.2 L[m] (List.getElem_mem J);obtain⟨y,ey⟩:∃ y,L[m]=y:=⟨_,rfl⟩;have ey1:L[m]?=some y:=by rw[List.getElem?_eq_getElem J,ey]
     rw[ey] at hS;simp+decide[int,zN,wh,Orth.cells,F,H,eL,eL1,J,E,ey,ey1];refine zF.some (by rfl) (PN y hS) ?_
     rintro r ⟨b,rfl⟩
     cases b with
     |false=>simp+decide[int]
     |true=>
      simp+decide[int];refine zF.some (by rfl) (PP sn y (by omega)) ?_
      rintro r ⟨b,rfl⟩
      cases b with
      |true=>simp+decide[int]
      |false=>
       simp+decide[int,I64];exact⟨by omega,by unfold maxLen;omega,⟨by omega,by omega⟩,m+1,sn++[y],⟨J,by rw[List.length_append];simp;omega⟩,by omega,by omega,by simp⟩
    .have E:¬(m:Int)<L.length:=by omega
     simp+decide[int,zN,wh,Orth.cells,F,H,eL,eL1,E,I64];exact⟨⟨by omega,by omega⟩,i+1,sn,⟨F,by omega⟩,by omega,by omega,rfl⟩
   .have H:¬(i:Int)<o.letters.length:=by omega
    simp+decide[int,zN,wh,H,Orth.cells];exact M
structure SmallL(l:List Ent):Prop where
 few:l.length<=5
 forms:∀ e∈l,e.form.length<=3/\e.alts.length<=1/\∀ w∈e.alts,w.length<=3
theorem Ab(l:List Ent)(J:l.length<=1048576):xU Tryz.prog 38 [zm l] (λx=>∃ b,x = .bool b/\(b=true->SmallL l)):=by
 refine qV mixed Tryz.func38 rfl c_38 ?_
 by_cases L:(5:Int)<l.length
 .simp+decide[Tryz.f38,int,zm,L]
 simp+decide[Tryz.f38,int,zm,L]
 refine zr mixed (λi:Nat=>{n:=50,next:=0,slots:=[(0,.d (zm l)),(3,.d (int i))],own:=[]}) (λi=>i<=l.length/\∀ e∈l.take i,e.form.length<=3/\e.alts.length<=1/\∀ w∈e.alts,w.length<=3) (λi=>l.length-i) 0 (by simp) (by simp+decide[int,zm]) ?_
 intro i ⟨hi,M⟩
 by_cases G:i<l.length
 .have H:(i:Int)<l.length:=by omega
  obtain⟨e,ee⟩:∃ e,l[i]=e:=⟨_,rfl⟩;have e1:l[i]?=some e:=by rw[List.getElem?_eq_getElem G,ee]
  have hsn:=yu G;rw[ee] at hsn;by_cases c1:(3:Int)<e.form.length
  .simp+decide[int,ints,zm,Ent.row,G,H,ee,e1,c1]
  by_cases c2:(1:Int)<e.alts.length
  .simp+decide[int,ints,zm,yl,Ent.row,G,H,ee,e1,c1,c2]
  simp+decide[int,ints,zm,yl,Ent.row,G,H,ee,e1,c1,c2];refine zr mixed (λk:Nat=>{n:=50,next:=0,slots:=[(0,.d (zm l)),(3,.d (int i)),(4,.d (int k))],own:=[]}) (λk=>k<=e.alts.length/\∀ w∈e.alts.take k,w.length<=3) (λk=>e.alts.length-k) 0 (by simp) (by simp+decide[int,zm]) ?_
  intro k ⟨O,Q⟩;by_cases F:k<e.alts.length
  .have E:(k:Int)<e.alts.length:=by omega
   obtain⟨w,ew⟩:∃ w,e.alts[k]=w:=⟨_,rfl⟩;have ew1:e.alts[k]?=some w:=by rw[List.getElem?_eq_getElem F,ew]
   have K:=yu F;rw[ew] at K;by_cases c3:(3:Int)<w.length
   .simp+decide[int,ints,zm,yl,Ent.row,G,H,ee,e1,F,E,ew,ew1,c3]
   .simp+decide[int,ints,zm,yl,Ent.row,G,H,ee,e1,F,E,ew,ew1,c3,I64]
    refine⟨⟨by omega,by omega⟩,k+1,⟨F,λx T=>?_⟩,by omega,by omega⟩
    rw[K] at T;rcases List.mem_append.1 T with V | V
    .exact Q x V
    .rw[List.mem_singleton] at V;rw[V];omega
  .have:k=e.alts.length:=by omega
   subst this;rw[List.take_length] at Q;simp+decide[int,ints,zm,yl,Ent.row,G,H,ee,e1,I64];refine⟨⟨by omega,by omega⟩,i+1,⟨G,λx T=>?_⟩,by omega,by omega⟩
   rw[hsn] at T;rcases List.mem_append.1 T with V | V
   .exact M x V
   .rw[List.mem_singleton] at V;rw[V];exact⟨by omega,by omega,Q⟩
 .have:i=l.length:=by omega
  subst this;rw[List.take_length] at M;simp+decide[int,zm];exact⟨by omega,M⟩
structure LangC(g:Lang):Prop where
 inv:Ci g.inv
 orth:OrthC g.orth
 rules:RulesC g.rules
 steps:g.net.steps.length<=1048576
 final:g.net.final.length<=1048576
 lex:LexC g.lex
structure RightF(g:Lang):Prop where
 rules:∀ r∈g.rules,RuleL r
 Yl:∀ r∈g.rules,Jg g.inv r
 net:NetF g.net
 lex:LexF g.inv g.lex
 main:MainF g.lex
 units1:∀ u∈g.orth.units,UnitF u
theorem RightF.graphs{g:Lang}(h:RightF g):∀ u∈g.orth.units,0<u.graph.size:=λu H=>(h.units1 u H).pos
theorem Ac(g:Lang)(G:LangC g)(F:g.lex.length<=5):xU Tryz.prog 39 [g.d] (λx=>∃ n,x=int n/\(n=0->RightF g)):=by
 have H:=G.inv.1
 refine qV mixed Tryz.func39 rfl c_39 ?_
 simp+decide[Tryz.f39,int,Lang.d]
 refine zF.some (by rfl) (PY g.inv G.inv) ?_
 rintro r ⟨n,rfl⟩
 by_cases z1:n=0
 case neg=>simp+decide[int,z1]
 simp+decide[int,z1]
 refine zF.some (by rfl) (Aa g.inv g.orth G.orth (by omega)) ?_
 rintro r ⟨n,rfl,E⟩
 by_cases z2:n=0
 case neg=>simp+decide[int,z2]
 have E:=E z2
 simp+decide[int,z2]
 refine zF.some (by rfl) (Ri g G.rules) ?_
 rintro r ⟨n,rfl,K⟩
 by_cases z3:n=0
 case neg=>simp+decide[int,z3]
 have K:=K z3
 simp+decide[int,z3]
 refine zF.some (by rfl) (Rj g.net G.steps G.final) ?_
 rintro r ⟨n,rfl,J⟩
 by_cases z4:n=0
 case neg=>simp+decide[int,z4]
 have J:=J z4
 simp+decide[int,z4]
 refine zF.some (by rfl) (A1 g.inv g.lex G.lex) ?_
 rintro r ⟨n,rfl,L⟩
 by_cases z5:n=0
 case neg=>simp+decide[int,z5]
 have L:=L z5
 simp+decide[int,z5]
 refine zF.some (by rfl) (A5 g.lex F λe M=>(L.each e M).links) ?_
 rintro r ⟨n,rfl⟩
 by_cases z6:n=0
 case neg=>simp+decide[int,z6]
 simp+decide[int,z6]
 refine zF.some (by rfl) (A6 g.lex (by omega)) ?_
 rintro r ⟨n,rfl,O⟩
 simp+decide[int]
 exact λh=>⟨λr Q=>(K r Q).1,λr Q=>(K r Q).2,J,L,O h,E⟩
structure LightF(g:Lang):Prop extends RightF g where
 small:SmallL g.lex
 segs:g.inv.length<=8
 units:g.orth.units.length<=10
 few:g.rules.length<=2
 states:g.net.states<=3
 steps:g.net.steps.length<=6
 final:g.net.final.length<=3
theorem Ad(g:Lang)(K:LangC g):xU Tryz.prog 12 [g.d] (λx=>∃ b,x = .bool b/\(b=true->LightF g)):=by
 have F:=K.lex.few
 have E:=K.rules.few
 refine qV mixed Tryz.func12 rfl c_12 ?_
 by_cases c1:(8:Int)<g.inv.length
 .simp+decide[Tryz.f12,int,Lang.d,zI,c1]
 by_cases c2:(10:Int)<g.orth.units.length
 .simp+decide[Tryz.f12,int,Lang.d,zI,zN,c1,c2]
 by_cases c3:(2:Int)<g.rules.length
 .simp+decide[Tryz.f12,int,Lang.d,zI,zN,yO,c1,c2,c3]
 by_cases c4:3<g.net.states
 .simp+decide[Tryz.f12,int,Lang.d,zI,zN,yO,c1,c2,c3,c4]
 by_cases c5:(6:Int)<g.net.steps.length
 .simp+decide[Tryz.f12,int,Lang.d,zI,zN,yO,stepsD,c1,c2,c3,c4,c5]
 by_cases c6:(3:Int)<g.net.final.length
 .simp+decide[Tryz.f12,int,ints,Lang.d,zI,zN,yO,stepsD,c1,c2,c3,c4,c5,c6]
 simp+decide[Tryz.f12,int,ints,Lang.d,zI,zN,yO,stepsD,c1,c2,c3,c4,c5,c6]
 refine zF.some (by rfl) (Ab g.lex F) ?_
 rintro r ⟨b,rfl,J⟩
 cases b with
 |false=>simp+decide[int]
 |true=>
  have J:=J rfl;simp+decide[int];refine zr mixed (λk:Nat=>{n:=66,next:=1,slots:=[(1,.bp 0 0),(3,.d (int k))],own:=[(0,.box 36 (zq g.d))]})
   (λk=>k<=g.rules.length) (λk=>g.rules.length-k) 0 (by simp) (by simp+decide[int,ints,zI,zN,yO,stepsD,zq,Lang.d]) ?_
  intro k L;by_cases G:k<g.rules.length
  .have H:(k:Int)<g.rules.length:=by omega
   obtain⟨r,er⟩:∃ r,g.rules[k]=r:=⟨_,rfl⟩;have er1:g.rules[k]?=some r:=by rw[List.getElem?_eq_getElem G,er]
   by_cases d1:(8:Int)<r.src.length
   .simp+decide[int,ints,yO,zq,Lang.d,G,H,er,er1,Rule.row,d1]
   .simp+decide[int,ints,yO,zq,Lang.d,G,H,er,er1,Rule.row,d1,I64]
    exact⟨⟨by omega,by omega⟩,k+1,G,by omega,by omega⟩
  .have H:¬(k:Int)<g.rules.length:=by omega
   simp+decide[int,yO,zq,Lang.d,H];refine zF.some (by rfl) (Ac g K J.few) ?_
   rintro r ⟨n,rfl,M⟩
   simp+decide[int];by_cases z:n=0
   .exact .inr ⟨z,M z,J,by omega,by omega,by omega,by omega,by omega,by omega⟩
   .exact .inl z
theorem LightF.vJ{g:Lang}(h:LightF g):NetL g.net:=
 {lo:=h.net.lo,hi:=h.states,steps:=λs hs=>⟨(h.net.steps s hs).1,(h.net.steps s hs).2.1,(h.net.steps s hs).2.2.1⟩,final:=h.net.final,few:=by have:=h.steps;omega,few2:=by have:=h.final;omega}
theorem LightF.Z9{g:Lang}(h:LightF g)(G:LangC g):LangR g:=by
 have hs:=h.small
 have H:∀ e∈g.lex,∀ w∈e.forms,WordF g.inv w:=by
  intro e F w E;have K:=h.lex.each e F;rcases List.mem_cons.1 E with e1 | e1
  .rw[e1];exact K.form
  .exact K.alts w e1
 refine {lex:=⟨by have:=hs.few;omega,λe F=>by have:=(hs.forms e F).2.1;omega,λe F w E=>by have:=(H e F w E).len;omega,λe F=>by have:=(G.lex.each e F).senses.1;omega⟩,inv:=by have:=h.segs;omega,rules:=⟨λr J=>(h.rules r J).toRuleOk,by have:=h.few;omega⟩,net:=h.vJ.ok,light:=h.vJ,rulesL:=h.rules,nz:=λe F w E x L=>?_}
 have:=(H e F w E).segs x L
 simp only[yS,Bool.and_eq_true,decide_eq_true_eq] at this
 omega
end Go.V
namespace Go.V
open Go Go.Proofs
theorem lex_lt{l:List Ent}(h:∀ k (h:k+1<l.length),l[k].id<l[k+1].id):∀ (d i:Nat) (hj:i+d+1<l.length),l[i].id<l[i+d+1].id
 |0,i,hj=>h i hj
 |d+1,i,hj=>by
  have H:=lex_lt h d i (by omega)
  have G:=h (i+d+1) hj;exact Int.lt_trans H G
theorem JB{l:List Ent}(h:∀ k (h:k+1<l.length),l[k].id<l[k+1].id){e:Ent}(H:e∈l):zG l e.id=(e,true):=by
 obtain⟨i,hi,ei⟩:=List.mem_iff_getElem.1 H
 unfold zG
 have:l.find? (λx=>decide (x.id=e.id))=some e:=by
  rw[List.find?_eq_some_iff_getElem];refine⟨by simp,i,hi,ei,λj hj=>?_⟩
  have:=lex_lt h (i-j-1) j (by omega)
  have e2:j+(i-j-1)+1=i:=by omega
  simp only[e2] at this;rw[ei] at this;simp
  omega
 rw[this]
theorem Eh{inv:List Phon}{l:List Ent}(G:∀ e∈l,EntF inv e)(F:∀ e∈l,e.main≠0->0<=x5 l e.main):∀ (f:Nat) (id:Int),(xO l f id).length<f->(zG l id).2=true->jN l (xO l f id)≠[]
 |0,id,h,_=>by omega
 |f+1,id,h,E=>by
  have H:=Yz E;unfold xO at h ⊢;rw[if_pos E] at h ⊢;unfold jN;by_cases hs:(zG l id).1.senses≠[]
  .rw[if_pos hs];exact hs
  .rw[if_neg hs]
   have K:(zG l id).1.main≠0:=by
    rcases(G _ H).senses with J | J
    .exact absurd J hs
    .exact J
   rw[if_neg K] at h ⊢;refine Eh G F f _ (by simpa using h) ?_
   rcases wi l (zG l id).1.main with⟨L,_⟩ | ⟨j,hj,_,M⟩
   .exact absurd (F _ H K) (by omega)
   .rw[M]
theorem LightF.senses{g:Lang}(h:LightF g){e:Ent}(H:e∈g.lex):xM g.lex e.id≠[]:=by
 unfold xM
 rw[Ja]
 refine Eh h.lex.each h.main.main _ _ ?_ (by rw[JB h.lex.up H])
 have:=h.main.ends e H
 omega
section
variable (g:Lang) (w:List Int)
def wW:Nat:=if Zz g.rules=true then 24 else w.length
def QK(b:List Prt):Bool:=decide (w.length<=(zP g.lex b).length)&&jq g w b
def kJ:Nat->List Prt->List (List Prt)
 |0,_=>[]
 |f+1,a=>g.lex.flatMap λe=>if e.cls∈UM g.net (yG g.lex a) 20 then ((List.range e.forms.length).flatMap λ(alt:Nat)=>
   if wW g w<(zP g.lex (a++[⟨e.id,alt,0⟩])).length then [] else (if QK g w (a++[⟨e.id,alt,0⟩])=true then [a++[⟨e.id,alt,0⟩]] else [])++kJ f (a++[⟨e.id,alt,0⟩])) else []
def vu(base:List Int):Bool:=decide (xk g.inv g.rules base≠[])&&decide (xk g.inv g.rules base=w)
def walkT:Nat->List Prt->Nat->List Int->List (List Prt×List Int)
 |0,_,_,_=>[]
 |f+1,a,s,base=>g.lex.flatMap λe=>if yv g.net.steps s e.cls≠0 then ((List.range e.forms.length).flatMap λ(alt:Nat)=>
   if wW g w<(base++e.forms[alt]?.getD []).length then [] else
   (if yv g.net.steps s e.cls &&& yk g.net.final≠0/\w.length<=(base++e.forms[alt]?.getD []).length/\vu g w (base++e.forms[alt]?.getD [])=true then [(a++[⟨e.id,alt,0⟩],base++e.forms[alt]?.getD [])] else []) ++
    walkT f (a++[⟨e.id,alt,0⟩]) (yv g.net.steps s e.cls) (base++e.forms[alt]?.getD [])) else []
end
theorem QL{α β:Type}{f h:α->List β}:∀ {l:List α},(∀ x∈l,f x=h x)->l.flatMap f=l.flatMap h
 | [],_=>rfl
 |a::l,e=>by
  rw[List.flatMap_cons,List.flatMap_cons,e a (List.mem_cons_self ..),QL λx H=>e x (List.mem_cons_of_mem _ H)]
theorem UV{α β:Type}{l:List α}{f:α->List β}(h:∀ x∈l,f x=[]):l.flatMap f=[]:=by
 rw[List.flatMap_eq_nil_iff];exact h
theorem Ei{g:Lang}{w:List Int}(G:LightF g):∀ (f:Nat) (a:List Prt) (s:Nat) (base:List Int),s<2^g.net.states.toNat->Dead g.net s->walkT g w f a s base=[]
 |0,_,_,_,_,_=>rfl
 |f+1,a,s,base,hs,F=>by
  unfold walkT;refine UV λe E=>?_
  split
  .refine UV λalt _=>?_
   have K:=(G.lex.each e E).cls;have J:=TU G.vJ hs F K.1;have H:=KW G.vJ s e.cls;have L:=E8 G.vJ H J;split
   .rfl
   .rw[if_neg (λh=>h.1 L),Ei G f _ _ _ H J];rfl
  .rfl
theorem Ae(n:Nett):Dead n 0:=by
 rw[UQ];intro q _ h;rw[Nat.zero_testBit] at h;cases h
theorem Ej{g:Lang}(H:LightF g)(cs:List Int){c:Int}(G:1<=c)(F:c<=20):c∈UM g.net cs 20↔¬Dead g.net (yv g.net.steps (yB g.net.steps cs) c):=by
 unfold UM Dead
 rw[List.mem_filter,List.mem_map]
 constructor
 .rintro⟨_,h⟩ h';rw[h'] at h;cases h
 .intro h
  refine⟨⟨(c-1).toNat,List.mem_range.2 (by omega),by omega⟩,?_⟩
  cases E:jO g.net.states.toNat (yv g.net.steps (yB g.net.steps cs) c) (QG g.net) with
  |true=>rfl
  |false=>exact absurd E h
theorem QM{g:Lang}(H:LightF g){e:Ent}(G:e∈g.lex){alt:Nat}(F:alt<e.forms.length):qd g.lex ⟨e.id,alt,0⟩=(e,e.forms[alt]?.getD [],true):=by
 have h:=JB H.lex.up G
 unfold qd
 simp only
 rw[if_pos ⟨by rw[h],by omega,by rw[h];show(alt:Int)<e.forms.length;omega⟩,h]
 rfl
theorem Ek{g:Lang}(H:LightF g){e:Ent}(G:e∈g.lex){alt:Nat}(F:alt<e.forms.length):qH g.lex ⟨e.id,alt,0⟩=0:=by
 have hs:0<(xM g.lex e.id).length:=List.length_pos_iff.2 (H.senses G)
 unfold qH
 rw[QM H G F,JB H.lex.up G]
 simp only[Bool.true_eq_false,if_false]
 rw[if_neg]
 rintro(h | h) <;> omega
theorem Af{g:Lang}(H:LightF g){e:Ent}(G:e∈g.lex){alt:Nat}(F:alt<e.forms.length)(a:List Prt):yG g.lex (a++[⟨e.id,alt,0⟩])=yG g.lex a++[e.cls]:=by
 unfold yG
 rw[List.flatMap_append,List.flatMap_singleton,QM H G F]
 rfl
theorem Ah{g:Lang}(H:LightF g){e:Ent}(G:e∈g.lex){alt:Nat}(F:alt<e.forms.length)(a:List Prt):zP g.lex (a++[⟨e.id,alt,0⟩])=zP g.lex a++e.forms[alt]?.getD []:=by
 unfold zP
 rw[List.flatMap_append,List.flatMap_singleton,QM H G F]
 rfl
theorem JC{l:List Ent}:∀ {ps:List Prt},(∀ p∈ps,qH l p=0)->vF l ps=0
 | [],_=>rfl
 |p::ps,h=>by
  unfold vF;rw[if_pos (h p (List.mem_cons_self ..))];exact JC λx H=>h x (List.mem_cons_of_mem _ H)
theorem Ai{g:Lang}{w:List Int}{b:List Prt}(F:∀ p∈b,qH g.lex p=0)(E:1<=b.length)(K:b.length<=4)(J:(zP g.lex b).length<=24):
  jq g w b=(decide (yB g.net.steps (yG g.lex b) &&& yk g.net.final≠0)&&vu g w (zP g.lex b)):=by
 have L:ql g b=if kz g.net (yG g.lex b)=false then 21 else 0:=by
  unfold ql;rw[if_neg (by omega),if_neg (by omega),if_neg (by rw[JC F];simp),if_neg (show ¬24<(zP g.lex b).length by omega)]
 unfold jq xN vu
 rw[L]
 have H:kz g.net (yG g.lex b)=decide (yB g.net.steps (yG g.lex b) &&& yk g.net.final≠0):=rfl
 rw[<-H]
 cases kz g.net (yG g.lex b) with
 |false=>simp
 |true=>
  simp only[Bool.true_eq_false,if_false,ne_eq,not_true_eq_false,Bool.true_and];by_cases M:xk g.inv g.rules (zP g.lex b)=[]
  .simp[M]
  .have G:¬(xk g.inv g.rules (zP g.lex b)).length=0:=λh=>M (List.length_eq_zero_iff.mp h)
   simp[M,G]
theorem Aj(n:Nett)(cs:List Int)(c:Int):yB n.steps (cs++[c])=yv n.steps (yB n.steps cs) c:=by unfold yB;rw[List.foldl_append];rfl
theorem El{g:Lang}{w:List Int}(K:LightF g)(J:w.length<=24):∀ (f:Nat) (a:List Prt),a.length+f=4->(∀ p∈a,qH g.lex p=0) ->
  walkT g w f a (yB g.net.steps (yG g.lex a)) (zP g.lex a)=(kJ g w f a).map λb=>(b,zP g.lex b)
 |0,_,_,_=>rfl
 |f+1,a,L,M=>by
  have O:wW g w<=24:=by unfold wW;split <;> omega
  unfold walkT kJ;rw[List.map_flatMap];refine QL λe Q=>?_
  have T:=(K.lex.each e Q).cls;have G:=KW K.vJ (yB g.net.steps (yG g.lex a)) e.cls;by_cases V:Dead g.net (yv g.net.steps (yB g.net.steps (yG g.lex a)) e.cls)
  .rw[if_neg (λh=>(Ej K _ T.1 T.2).1 h V)]
   have X:=E8 K.vJ G V;rw[List.map_nil];split
   .refine UV λalt _=>?_
    split
    .rfl
    .rw[if_neg (λh=>h.1 X),Ei K f _ _ _ G V];rfl
   .rfl
  .rw[if_pos ((Ej K _ T.1 T.2).2 V),if_pos (λh=>V (by rw[h];exact Ae _)),List.map_flatMap]
   refine QL λalt Y=>?_
   have Y:=List.mem_range.1 Y;rw[<-Ah K Q Y a];by_cases H:wW g w<(zP g.lex (a++[⟨e.id,(alt:Int),0⟩])).length
   .rw[if_pos H,if_pos H];rfl
   .rw[if_neg H,if_neg H,List.map_append]
    have F:∀ p∈a++[⟨e.id,(alt:Int),0⟩],qH g.lex p=0:=by
     intro p Z;rcases List.mem_append.1 Z with h | h
     .exact M p h
     .rw[List.mem_singleton] at h;rw[h];exact Ek K Q Y
    have A:yv g.net.steps (yB g.net.steps (yG g.lex a)) e.cls=yB g.net.steps (yG g.lex (a++[⟨e.id,(alt:Int),0⟩])):=by rw[Af K Q Y,Aj]
    have E:=Ai (w:=w) F (by simp) (by simp;omega) (by omega)
    rw[A,El K J f _ (by simp;omega) F]
    congr 1
    unfold QK;rw[E];by_cases B:yB g.net.steps (yG g.lex (a++[⟨e.id,(alt:Int),0⟩])) &&& yk g.net.final≠0
    .by_cases X:w.length<=(zP g.lex (a++[⟨e.id,(alt:Int),0⟩])).length
     .cases C:vu g w (zP g.lex (a++[⟨e.id,(alt:Int),0⟩])) with
      |true=>rw[if_pos ⟨B,X,rfl⟩,if_pos (by simp[B,X])];rfl
      |false=>rw[if_neg (λh=>by cases h.2.2),if_neg (by simp)];rfl
     .rw[if_neg (λh=>X h.2.1),if_neg (by simp[X])];rfl
    .rw[if_neg (λh=>B h.1),if_neg (by simp only[ne_eq,Decidable.not_not] at B;simp[B])];rfl
end Go.V
namespace Go.V
open Go Go.Proofs
def YR(base:List Int):List (List D):=base.map λx=>[.int .u8 (IntKind.u8.wrap x)]
def keyS(base:List Int):ByteArray:=⟨(base.map λx=>UInt8.ofNat (IntKind.u8.wrap x).toNat).toArray⟩
theorem Em:∀ base:List Int,bytesOf (base.map λx=>[D.int .u8 (IntKind.u8.wrap x)])=some (base.map λx=>UInt8.ofNat (IntKind.u8.wrap x).toNat)
 | []=>rfl
 |x::r=>by
  have:=Em r
  simp[bytesOf,this]
theorem key_ok(base:List Int)(E:base.length<=1048576):zj Tryz.prog 298 [ints base] (.str (keyS base)):=by
 refine zn mixed Tryz.func298 rfl c_298 ?_
 simp+decide[Tryz.f298,int,ints]
 refine⟨by omega,by unfold maxLen;omega,?_⟩
 refine zr mixed (λk:Nat=>{n:=23,next:=1,slots:=[(3,.ar 0),(9,.d (ints base)),(10,.d (int base.length)),(11,.d (int k))],own:=[(0,.arr 5 1 (YR (base.take k)))],moved:=[0]})
  (λk=>k<=base.length) (λk=>base.length-k) 0 (by simp) (by simp+decide[int,ints,YR]) ?_
 intro k K
 by_cases H:k<base.length
 .have G:(k:Int)<base.length:=by omega
  have hsn:=yu H;obtain⟨x,ex⟩:∃ x,base[k]=x:=⟨_,rfl⟩;have e1:base[k]?=some x:=by rw[List.getElem?_eq_getElem H,ex]
  rw[ex] at hsn;have F:(YR (base.take k)).length=k:=by simp[YR];omega
  simp+decide[int,ints,H,G,e1,ex,I64,F];exact .inl ⟨by omega,by unfold maxLen;omega,⟨by omega,by omega⟩,k+1,H,by omega,by omega,by rw[hsn];simp[YR]⟩
 .have:k=base.length:=by omega
  subst this;rw[List.take_length];simp+decide[int,ints,YR,bytesOf,keyS,jD];rw[Em]
def yi(b:List Int):Prop:=∀ x∈b,0<=x/\x<256
theorem key_inj:∀ {a b:List Int},yi a->yi b->keyS a=keyS b->a=b:=by
 intro a b G F h
 have E:(a.map λx=>UInt8.ofNat (IntKind.u8.wrap x).toNat)=(b.map λx=>UInt8.ofNat (IntKind.u8.wrap x).toNat):=by
  unfold keyS at h;have:=congrArg (λs:ByteArray=>s.data.toList) h
  simpa using this
 have K:∀ x:Int,0<=x/\x<256->(UInt8.ofNat (IntKind.u8.wrap x).toNat).toNat=x.toNat:=by
  intro x K;rw[wrap_u8];simp only[UInt8.toNat_ofNat'];omega
 induction a generalizing b with
 |nil=>
  cases b with
  |nil=>rfl
  |cons y b=>simp at E
 |cons x a ih=>
  cases b with
  |nil=>simp at E
  |cons y b=>
   simp only[List.map_cons,List.cons.injEq] at E;have e1:=K x (G x (List.mem_cons_self ..));have e2:=K y (F y (List.mem_cons_self ..));rw[E.1,e2] at e1;have b1:=G x (List.mem_cons_self ..);have b2:=F y (List.mem_cons_self ..);have H:x=y:=by omega
   rw[H];congr 1
   refine ih (λz J=>G z (List.mem_cons_of_mem _ J)) (λz J=>F z (List.mem_cons_of_mem _ J)) ?_ E.2
   unfold keyS;rw[E.2]
def Za(g:Lang)(w:List Int)(tr:List (List Int)):List (List D):=tr.map λb=>[.str (keyS b),.bool (vu g w b)]
theorem En(g:Lang)(w:List Int){base:List Int}(G:yi base):∀ tr:List (List Int),(∀ b∈tr,yi b)->wH (.str (keyS base)) (Za g w tr)=some (if base∈tr then some (.bool (vu g w base)) else none)
 | [],_=>rfl
 |m::r,h=>by
  simp only[Za,List.map_cons,wH,uu];by_cases e:base=m
  .subst e;simp
  .have:¬keyS base=keyS m:=λF=>e (key_inj G (h m (List.mem_cons_self ..)) F)
   have ih:=En g w G r λb H=>h b (List.mem_cons_of_mem _ H)
   simp only[Za] at ih;have this':¬keyS m=keyS base:=λF=>this F.symm
   simp[this,this',e,ih]
theorem Eo(g:Lang)(w:List Int){base:List Int}(G:yi base):∀ tr:List (List Int),(∀ b∈tr,yi b)->base∉tr->kU (.str (keyS base)) (.bool (vu g w base)) (Za g w tr)=some (Za g w (tr++[base]))
 | [],_,_=>rfl
 |m::r,h,F=>by
  simp only[List.mem_cons,not_or] at F;have:¬keyS base=keyS m:=λE=>F.1 (key_inj G (h m (List.mem_cons_self ..)) E)
  have this':¬keyS m=keyS base:=λE=>this E.symm
  have ih:=Eo g w G r (λb H=>h b (List.mem_cons_of_mem _ H)) F.2
  simp only[Za] at ih ⊢;simp[kU,uu,this,this',ih]
def zC(g:Lang)(w:List Int)(tr:List (List Int))(fn:Sym)(rest:List (Nat×Obj')):List (Nat×Obj'):=
 (0,.box 327 (zq g.d++[.d (ints w),.d (.bool (Zz g.rules)),.d (u32 (yk g.net.final)),.mp 1,fn]))::(1,.map 325 (Za g w tr))::rest
structure RestOk(n:Nat)(fn:Sym)(rest:List (Nat×Obj')):Prop where
 two:2<=n
 keys:(rest.map (·.1)).Nodup
 ids:∀ id o,(id,o)∈rest->2<=id/\id<n/\o.lo n
 range:0::1::rest.map (·.1)=List.range n
 thawed:∀ k x,n<=k->xZ k x rest=rest
 thawC:∀ k x,n<=k->thaw k x fn=fn
 fn:Sym.lo n fn
theorem Z7{α:Type}:∀ {l:List (Nat×α)} {id:Nat} {o:α},(l.map (·.1)).Nodup->(id,o)∈l->zc l id=some o
 |(k,u)::l,id,o,H,G=>by
  simp only[List.map_cons,List.nodup_cons] at H;simp only[zc];rcases List.mem_cons.1 G with e | e
  .cases e;rw[if_pos rfl]
  .have:¬k=id:=by
    intro h;subst h;exact H.1 (List.mem_map.2 ⟨_,e,rfl⟩)
   rw[if_neg this];exact Z7 H.2 e
theorem YS{n:Nat}{fn:Sym}{rest:List (Nat×Obj')}(h:RestOk n fn rest){st:St}(G:∀ id,2<=id->id<n->zc st.own id=zc rest id){m:Nat}(F:n<=m)(H:∀ o:Obj',o.lo n->o.lo m):vV st m rest:=by
 have key:∀ l:List (Nat×Obj'),(∀ x∈l,x∈rest)->vV st m l:=by
  intro l;induction l with
  |nil=>intro _;simp[vV]
  |cons x l ih=>
   intro E;obtain⟨id,o⟩:=x;have K:=E (id,o) (List.mem_cons_self ..);have hi:=h.ids id o K;simp only[vV];refine⟨?_,by omega,H o hi.2.2,ih λy J=>E y (List.mem_cons_of_mem _ J)⟩
   rw[G id hi.1 hi.2.1,Z7 h.keys K]
 exact key rest λ_ K=>K
theorem vg{n:Nat}{fn:Sym}{rest:List (Nat×Obj')}(h:RestOk n fn rest){st:St}{a b:Obj'}(H:st.own=(0,a)::(1,b)::rest):vV st n rest:=by
 refine YS h (λid G h2=>?_) (Nat.le_refl _) (λ_ h=>h)
 rw[H]
 simp only[zc]
 rw[if_neg (by omega),if_neg (by omega)]
theorem JD{n:Nat}{fn:Sym}{rest:List (Nat×Obj')}(h:RestOk n fn rest){st:St}{a b c:Obj'}{k:Nat}(H:n<=k)(G:st.own=(k,c)::(0,a)::(1,b)::rest):vV st n rest:=by
 refine YS h (λid F h2=>?_) (Nat.le_refl _) (λ_ h=>h)
 rw[G]
 simp only[zc]
 rw[if_neg (by omega),if_neg (by omega),if_neg (by omega)]
theorem RestOk.qC{n:Nat}{fn:Sym}{rest:List (Nat×Obj')}(h:RestOk n fn rest):(∀ (x:Obj'),¬(0,x)∈rest)/\(∀ (x:Obj'),¬(1,x)∈rest)/\(List.map (λx=>x.fst) rest).Nodup:=
 ⟨λx H=>by have:=(h.ids 0 x H).1;omega,λx H=>by have:=(h.ids 1 x H).1;omega,h.keys⟩
theorem Ak(g:Lang)(w:List Int)(tr:List (List Int))(n:Nat)(fn:Sym)(rest:List (Nat×Obj'))(Z:RestOk n fn rest)(A:LightF g)(s:Nat)(hs:s<8)(c:Int):
  zJ Tryz.prog 295 [.bp 0 0,.d (u32 s),.d (int c)] (zC g w tr fn rest) n (.d (u32 (yv g.net.steps s c))) n (zC g w tr fn rest) []:=by
 have B:=Z.two
 have O:0<n:=by omega
 refine xW mixed Tryz.func295 rfl c_295 (by simp[Sym.los,Sym.lo,O]) ?_
 have J:¬n=0:=by omega
 have L:¬n=1:=by omega
 have Q:=A.vJ.few
 have G:=Z.qC
 have F:=Z.fn
 have C:∀ k,(g.net.steps.take k).foldl (xj s c) 0<8:=λk=>J5 (λx I=>A.vJ.ok.1 x (List.mem_of_mem_take I)) (by omega)
 simp+decide[Tryz.f295,zC,zq,Lang.d,int,ints,stepsD,u32]
 refine zr mixed (λk:Nat=>{n:=40,next:=n,slots:=[(1,.d (u32 s)),(2,.d (int c)),(7,.d (u32 ((g.net.steps.take k).foldl (xj s c) 0))),(15,.d (stepsD g.net.steps)),(16,.d (int g.net.steps.length)),(17,.d (int k))],own:=zC g w tr fn rest,base:=n})
  (λk=>k<=g.net.steps.length) (λk=>g.net.steps.length-k) 0 (by simp) ?_ ?_
 .simp+decide[zC,zq,Lang.d,int,ints,stepsD,u32]
  exact⟨G,by omega,⟨by omega,F⟩,by omega,vg Z rfl⟩
 intro k N
 by_cases H:k<g.net.steps.length
 case neg=>
  have:k=g.net.steps.length:=by omega
  subst this;rw[List.take_length];simp+decide[zC,zq,Lang.d,int,ints,stepsD,u32,yv];exact⟨G,by omega,⟨by omega,F⟩,by omega,vg Z rfl⟩
 have E:(k:Int)<g.net.steps.length:=by omega
 have P:=A.vJ.steps g.net.steps[k] (List.getElem_mem H)
 have Y:=A.vJ.hi
 have hsn:(g.net.steps.take (k+1)).foldl (xj s c) 0=xj s c ((g.net.steps.take k).foldl (xj s c) 0) g.net.steps[k]:=by rw[yu H,List.foldl_append];rfl
 obtain⟨x,ex⟩:∃ x,g.net.steps[k]=x:=⟨_,rfl⟩
 have e1:g.net.steps[k]?=some x:=by rw[List.getElem?_eq_getElem H,ex]
 rw[ex] at P hsn
 have M:=C k
 generalize (g.net.steps.take k).foldl (xj s c) 0=m at hsn M
 have T:xj s c m x=if ku s x.src=true/\x.cls=c then qk m x.dst else m:=rfl
 rw[T] at hsn
 by_cases S:x.cls=c
 case neg=>
  rw[if_neg (λh=>S h.2)] at hsn
  simp+decide[zC,zq,Lang.d,int,ints,stepsD,u32,H,E,ex,e1,Stp.row,J,L,S,I64];exact⟨⟨by omega,by omega⟩,k+1,H,by omega,G,⟨by rw[hsn],by omega⟩,by omega,⟨by omega,F⟩,by omega,JD Z (Nat.le_refl _) rfl⟩
 have W:=Dw hs P.1.1 (show x.src<3 by omega)
 have V:=KD M P.2.1.1 (show x.dst<3 by omega)
 simp+decide[zC,zq,Lang.d,int,ints,stepsD,u32,H,E,ex,e1,Stp.row,J,L,S,I64]
 refine⟨P.1.1,λhb1=>?_,λhb1=>?_⟩
 .have K:ku s x.src=true:=by rw[<-W];simpa using hb1
  rw[if_pos ⟨K,S⟩] at hsn;exact⟨P.2.1.1,⟨by omega,by omega⟩,k+1,H,by omega,G,⟨by rw[hsn];exact V,by omega⟩,by omega,⟨by omega,F⟩,by omega,JD Z (Nat.le_refl _) rfl⟩
 .have X:¬ku s x.src=true:=by rw[<-W];simpa using hb1
  rw[if_neg (λh=>X h.1)] at hsn
  exact⟨⟨by omega,by omega⟩,k+1,H,by omega,G,⟨by rw[hsn],by omega⟩,by omega,⟨by omega,F⟩,by omega,JD Z (Nat.le_refl _) rfl⟩
def vK(tr:List (List Int))(base:List Int):List (List Int):=if base∈tr then tr else tr++[base]
theorem Ep(g:Lang)(w:List Int)(tr:List (List Int))(n:Nat)(fn:Sym)(rest:List (Nat×Obj'))(V:RestOk n fn rest)(X:LightF g)(Y:LangC g)(base:List Int)(Z:base.length<=24)(A:w.length<=24)(B:yi base)(C:∀ b∈tr,yi b):
  zJ Tryz.prog 294 [.bp 0 0,.d (ints base)] (zC g w tr fn rest) n (.d (.bool (vu g w base))) n (zC g w (vK tr base) fn rest) []:=by
 have I:=V.two
 have J:0<n:=by omega
 have Q:¬n=0:=by omega
 have T:¬n=1:=by omega
 have G:=V.qC
 have F:=V.fn
 have N:=X.Z9 Y
 have P:=key_ok base (by omega)
 have S:=En g w B tr C
 have W:=DJ g.inv (by have:=N.inv;omega) g.rules N.rules.1 N.rules.2 base (by omega)
 have L:=ZC g.inv g.rules base
 refine xW mixed Tryz.func294 rfl c_294 (by simp[Sym.los,Sym.lo,J]) ?_
 simp+decide[Tryz.f294,zC,zq,Lang.d,int,ints,u32]
 refine zg P ?_
 unfold vK
 by_cases hm:base∈tr
 .rw[if_pos hm] at S ⊢
  simp+decide[S,int];exact⟨G,by omega,⟨by omega,F⟩,by omega,vg V rfl⟩
 rw[if_neg hm] at S ⊢
 have hP:=Eo g w B tr C hm
 simp+decide[S,int]
 have E:vu g w base=(decide (xk g.inv g.rules base≠[])&&decide (xk g.inv g.rules base=w)):=rfl
 refine scp W ?_
 have hE:=Dq (xk g.inv g.rules base) w (by omega)
 generalize xk g.inv g.rules base=v at W hE L E
 by_cases hv:v.length=0
 .have H:v=[]:=List.length_eq_zero_iff.mp hv
  have K:vu g w base=false:=by rw[E,H];rfl
  rw[K] at hP ⊢;simp+decide[int,ints,hv,H,hP];exact⟨G,by omega,⟨by omega,F⟩,by omega,vg V rfl⟩
 .have H:v≠[]:=λh=>hv (by rw[h];rfl)
  have M:(0:Int)<v.length:=by omega
  have K:vu g w base=decide (v=w):=by rw[E];simp[H]
  rw[K] at hP ⊢;have O:0<v.length:=by omega
  simp+decide[int,ints,hv,M,H,O];refine zg hE ?_
  simp+decide[int,ints,hP];exact⟨G,by omega,⟨by omega,F⟩,by omega,vg V rfl⟩
end Go.V
namespace Go.V
open Go Go.Proofs
section
variable {ρ:Nat->Nat} {m:Nat}
mutual
theorem UW(h:∀ i,i<m->ρ i=i):∀ {s:Sym},Sym.lo m s->ren ρ s=s
 |.bp i o,hl=>by simp only[Sym.lo] at hl;simp only[ren,h i hl]
 |.ar i,hl=>by simp only[Sym.lo] at hl;simp only[ren,h i hl]
 |.ap i s j o,hl=>by simp only[Sym.lo] at hl;simp only[ren,h i hl]
 |.aS i s j o,hl=>by simp only[Sym.lo] at hl;simp only[ren,h i hl]
 |.av i s j o,hl=>by simp only[Sym.lo] at hl;simp only[ren,h i hl]
 |.yd i,hl=>by simp only[Sym.lo] at hl;simp only[ren,h i hl]
 |.mp i,hl=>by simp only[Sym.lo] at hl;simp only[ren,h i hl]
 |.tup l,hl=>by simp only[Sym.lo] at hl;simp only[ren,Zb h hl]
 |.agg l,hl=>by simp only[Sym.lo] at hl;simp only[ren,Zb h hl]
 |.fn f l,hl=>by simp only[Sym.lo] at hl;simp only[ren,Zb h hl]
 |.d x,_=>rfl
 |.nils,_=>rfl
 |.junk,_=>rfl
theorem Zb(h:∀ i,i<m->ρ i=i):∀ {l:List Sym},Sym.los m l->yp ρ l=l
 | [],_=>rfl
 |s::l,hl=>by
  simp only[Sym.los] at hl;simp only[yp,UW h hl.1,Zb h hl.2]
end
theorem Er(h:∀ i,i<m->ρ i=i):∀ {o:Obj'},o.lo m->vS ρ o=o
 |.box T l,hl=>by simp only[Obj'.lo] at hl;simp only[vS,Zb h hl]
 |.arr _ _ _,_=>rfl
 |.map _ _,_=>rfl
 |.raw k l,hl=>by simp only[Obj'.lo] at hl;simp only[vS,Zb h hl]
theorem UX(h:∀ i,i<m->ρ i=i):∀ {l:List (Nat×Obj')},(∀ i o,(i,o)∈l->i<m/\o.lo m)->wM ρ l=l
 | [],_=>rfl
 |(i,o)::l,H=>by
  have G:=H i o (List.mem_cons_self ..);simp only[wM,h i G.1,Er h G.2,UX h λj p hj=>H j p (List.mem_cons_of_mem _ hj)]
mutual
theorem Es:∀ (s:Sym),zS [] s=s
 |.bp _ _=>by simp[zS]
 |.ar _=>by simp[zS]
 |.ap _ _ _ _=>by simp[zS]
 |.aS _ _ _ _=>by simp[zS]
 |.av _ _ _ _=>by simp[zS]
 |.yd _=>by simp[zS]
 |.mp _=>by simp[zS]
 |.tup l=>by simp[zS,YT l]
 |.agg l=>by simp[zS,YT l]
 |.fn f l=>by simp[zS,YT l]
 |.d _=>by simp[zS]
 |.nils=>by simp[zS]
 |.junk=>by simp[zS]
theorem YT:∀ (l:List Sym),qt [] l=l
 | []=>by simp[qt]
 |s::l=>by simp[qt,Es s,YT l]
end
theorem Et:∀ (l:List (Nat×Sym)),wL [] l=l
 | []=>rfl
 |(t,s)::l=>by simp[wL,Es s,Et l]
theorem Al:∀ (o:Obj'),jE [] o=o
 |.box T l=>by simp[jE,YT l]
 |.arr _ _ _=>by simp[jE]
 |.map _ _=>by simp[jE]
 |.raw k l=>by simp[jE,YT l]
def x7(n:Nat):List (Nat×Obj')->List (Nat×Obj')
 | []=>[]
 |(i,o)::r=>if i<n then x7 n r else (i,o)::x7 n r
theorem Eu(n:Nat):∀ l:List (Nat×Obj'),vT (List.range n) [] l=x7 n l
 | []=>rfl
 |(i,o)::r=>by
  simp only[vT,x7,List.mem_range,Al,Eu n r]
theorem UY{st:St}{n:Nat}:∀ {l:List (Nat×Obj')},(∀ i o,(i,o)∈l->i<n/\o.lo n/\zc st.own i=some o)->kh st (List.range n) l
 | [],_=>trivial
 |(i,o)::r,h=>by
  obtain⟨H,G,F⟩:=h i o (List.mem_cons_self ..);have E:∀ j,j<n->rho (List.range n) j=j:=λj hj=>by unfold rho;simp[List.getD,hj]
  simp only[kh,List.length_range];refine⟨?_,G,UY λj p hj=>h j p (List.mem_cons_of_mem _ hj)⟩
  rw[E i H];unfold St.look;rw[F,Er E G]
end
theorem UZ{P:Program}{st:St}{f:Operand}{xs:List Operand}{dst:Option Tmp}{K:St->Prop}{g:Nat}{caps:List Sym}{n:Nat}{own0 own':List (Nat×Obj')}{s:Sym}
  (J:xh (st.val f)=some (g,caps)) (L:Sym.los n (xs.map st.val++caps)) (M:n<=st.next) (H:own0.map (·.1)=List.range n) (G:∀ i o,(i,o)∈own0->i<n/\o.lo n/\zc st.own i=some o)
  (E:∀ i o,(i,o)∈own'->i<n/\o.lo n) (hs:Sym.lo n s) (O:zJ P g (xs.map st.val++caps) own0 n s n own' []) (Q:K (({st with own:=own'++x7 n st.own}).put dst s)):zF P st f xs dst K:=by
 have T:∀ j,j<n->rho (List.range n) j=j:=λj hj=>by unfold rho;simp[List.getD,hj]
 have F:∀ j,j<n->yA (List.range n) st.next j=j:=λj hj=>by unfold yA;simp[List.getD,hj]
 refine zF.mut (List.range n) (xs.map st.val++caps) own0 J (Zb T L) (by rw[List.length_range];exact L) ⟨List.nodup_range,λid hid=>by have:=List.mem_range.1 hid;omega,by rw[List.length_range];exact H,UY G⟩ (by rw[List.length_range];exact O) ?_
 have e1:st.after (List.range n) n own' [] = {st with own:=own'++x7 n st.own}:=by
  unfold St.after;simp only[List.map_nil,Et,List.length_range,Nat.sub_self,Nat.add_zero,List.nil_append,UX F E,Eu]
 rw[e1,UW F hs]
 exact Q
def xC(n:Nat)(mv:List Nat)(l:List (Nat×Obj')):Prop:=∀ i o,(i,o)∈l->n<=i->jE mv o=o
theorem xC.nil{n:Nat}{mv:List Nat}:xC n mv []:=λ_ _ h=>by cases h
theorem xC.cons{n:Nat}{mv:List Nat}{i:Nat}{o:Obj'}{l:List (Nat×Obj')}(h:jE mv o=o)(H:xC n mv l):xC n mv ((i,o)::l):=by
 intro j p G F
 rcases List.mem_cons.1 G with e | e
 .cases e;exact h
 .exact H j p e F
theorem xC.under{n:Nat}{mv:List Nat}{i:Nat}{o:Obj'}{l:List (Nat×Obj')}(h:i<n)(H:xC n mv l):xC n mv ((i,o)::l):=by
 intro j p G F
 rcases List.mem_cons.1 G with e | e
 .cases e;omega
 .exact H j p e F
theorem xC.app{n:Nat}{mv:List Nat}{l r:List (Nat×Obj')}(h:xC n mv l)(H:xC n mv r):xC n mv (l++r):=by
 intro j p G F
 rcases List.mem_append.1 G with e | e
 .exact h j p e F
 .exact H j p e F
theorem xC.rest{n:Nat}{mv:List Nat}{fn:Sym}{rest:List (Nat×Obj')}(h:RestOk n fn rest):xC n mv rest:=by
 intro j p H G
 have:=(h.ids j p H).2.1
 omega
theorem xC.two{n:Nat}{mv:List Nat}{fn:Sym}{rest:List (Nat×Obj')}(h:RestOk n fn rest){a b:Obj'}:xC n mv ((0,a)::(1,b)::rest):=
 .under (by have:=h.two;omega) (.under (by have:=h.two;omega) (.rest h))
theorem Ev{n:Nat}{mv:List Nat}:∀ {l:List (Nat×Obj')},xC n mv l->vT (List.range n) mv l=x7 n l
 | [],_=>rfl
 |(i,o)::r,h=>by
  have ih:=Ev (l:=r) λj p H G=>h j p (List.mem_cons_of_mem _ H) G
  simp only[vT,x7,List.mem_range,ih];by_cases c:i<n
  .rw[if_pos c,if_pos c]
  .rw[if_neg c,if_neg c,h i o (List.mem_cons_self ..) (by omega)]
theorem JE{P:Program}{st:St}{f:Operand}{xs:List Operand}{dst:Option Tmp}{K:St->Prop}{g:Nat}{caps:List Sym}{n:Nat}{own0 own':List (Nat×Obj')}{s:Sym}{mv:List Nat}
  (E:∀ i∈mv,2<=i/\i<n)
  (O:xh (st.val f)=some (g,caps)) (Q:Sym.los n (xs.map st.val++caps)) (T:n<=st.next) (H:own0.map (·.1)=List.range n) (G:∀ i o,(i,o)∈own0->i<n/\o.lo n/\zc st.own i=some o)
  (J:∀ i o,(i,o)∈own'->i<n/\o.lo n) (hs:Sym.lo n s) (V:zJ P g (xs.map st.val++caps) own0 n s n own' mv) (L:wL mv st.slots=st.slots) (M:xC n mv st.own)
  (X:K (({st with own:=own'++x7 n st.own,moved:=mv++st.moved}).put dst s)):zF P st f xs dst K:=by
 have Y:∀ j,j<n->rho (List.range n) j=j:=λj hj=>by unfold rho;simp[List.getD,hj]
 have F:∀ j,j<n->yA (List.range n) st.next j=j:=λj hj=>by unfold yA;simp[List.getD,hj]
 refine zF.mut (List.range n) (xs.map st.val++caps) own0 O (Zb Y Q) (by rw[List.length_range];exact Q) ⟨List.nodup_range,λid hid=>by have:=List.mem_range.1 hid;omega,by rw[List.length_range];exact H,UY G⟩ (by rw[List.length_range];exact V) ?_
 have em:mv.map (yA (List.range n) st.next)=mv:=by
  have:∀ l:List Nat,(∀ i∈l,i∈mv)->l.map (yA (List.range n) st.next)=l:=by
   intro l;induction l with
   |nil=>intro _;rfl
   |cons i l ih=>
    intro h;rw[List.map_cons,F i (E i (h i (List.mem_cons_self ..))).2,ih λj hj=>h j (List.mem_cons_of_mem _ hj)]
  exact this mv λ_ h=>h
 have e1:st.after (List.range n) n own' mv = {st with own:=own'++x7 n st.own,moved:=mv++st.moved}:=by
  unfold St.after;rw[em,L,Ev M,UX F J];simp only[List.length_range,Nat.sub_self,Nat.add_zero]
 rw[e1,UW F hs]
 exact X
theorem jS{n:Nat}{fn:Sym}{rest:List (Nat×Obj')}(h:RestOk n fn rest):x7 n rest=[]:=by
 have key:∀ l:List (Nat×Obj'),(∀ x∈l,x∈rest)->x7 n l=[]:=by
  intro l;induction l with
  |nil=>intro _;rfl
  |cons x l ih=>
   intro H;obtain⟨i,o⟩:=x;have:=(h.ids i o (H _ (List.mem_cons_self ..))).2.1
   simp only[x7];rw[if_pos this];exact ih λy G=>H y (List.mem_cons_of_mem _ G)
 exact key rest λ_ hx=>hx
theorem QN{n:Nat}{fn:Sym}{rest:List (Nat×Obj')}(h:RestOk n fn rest){st:St}{a b c:Obj'}{k m:Nat}(H:n<=k)(G:n<=m)(F:st.own=(k,c)::(0,a)::(1,b)::rest):vV st m rest:=by
 refine YS h (λid E h2=>?_) G (λ_ h=>Obj'.vR G h)
 rw[F]
 simp only[zc]
 rw[if_neg (by omega),if_neg (by omega),if_neg (by omega)]
theorem RestOk.Zc{n:Nat}{fn:Sym}{rest:List (Nat×Obj')}(h:RestOk n fn rest):(∀ (x:Obj'),¬(n,x)∈rest)/\(∀ (x:Obj'),¬(0,x)∈rest)/\(∀ (x:Obj'),¬(1,x)∈rest)/\(List.map (λx=>x.fst) rest).Nodup:=
 ⟨λx H=>by have:=(h.ids n x H).2.1;omega,h.qC⟩
theorem RestOk.caps{n f:Nat}{l:List Sym}{rest:List (Nat×Obj')}(h:RestOk n (.fn f l) rest){m:Nat}(H:n<=m):Sym.los m l:=by
 have:=h.fn
 simp only[Sym.lo] at this
 exact Sym.Yb H this
theorem Am{P:Program}{c:Code}{Q:DE->St->Prop}{st:St}(keep:List Nat)(h:∀ id∈st.moved,st.base<=id\/id∈keep)(G:Triple P c Q {st with moved:=keep}):Triple P c Q st:=λX w0 β a w F=>
 G X w0 β a w {F with still:=⟨F.still.1,λid hid E=>F.still.2 id hid (λH=>(h id H).elim (λK=>absurd K (Nat.not_le_of_lt hid)) E)⟩}
theorem Ew{α:Type}{id:Nat}:∀ {l pre:List (Nat×α)},(∀ x∈pre,x.1≠id)->zc (l++pre) id=zc l id
 | [],pre,h=>by
  induction pre with
  |nil=>rfl
  |cons x pre ih=>
   obtain⟨k,o⟩:=x;simp only[List.nil_append,zc] at ih ⊢;rw[if_neg (h (k,o) (List.mem_cons_self ..))];have:=ih λy H=>h y (List.mem_cons_of_mem _ H)
   simpa using this
 |(k,o)::l,pre,h=>by
  simp only[List.cons_append,zc];rw[Ew (l:=l) h]
theorem G0{n:Nat}{fn:Sym}{rest:List (Nat×Obj')}(h:RestOk n fn rest){pre:List (Nat×Obj')}{id:Nat}(hid:n<=id):zc (rest++pre) id=zc pre id:=by
 have key:∀ l:List (Nat×Obj'),(∀ x∈l,x∈rest)->zc (l++pre) id=zc pre id:=by
  intro l;induction l with
  |nil=>intro _;rfl
  |cons x l ih=>
   intro H;obtain⟨k,o⟩:=x;have G:=(h.ids k o (H _ (List.mem_cons_self ..))).2.1;simp only[List.cons_append,zc];rw[if_neg (by omega)]
   exact ih λy F=>H y (List.mem_cons_of_mem _ F)
 exact key rest λ_ hx=>hx
theorem QO{n:Nat}{fn:Sym}{rest:List (Nat×Obj')}(h:RestOk n fn rest){st:St}{a b c:Obj'}{k m:Nat}(H:n<=k)(G:n<=m)(F:st.own=(0,a)::(1,b)::(rest++[(k,c)])):vV st m rest:=by
 refine YS h (λid E h2=>?_) G (λ_ h=>Obj'.vR G h)
 rw[F]
 simp only[zc]
 rw[if_neg (by omega),if_neg (by omega)]
 exact Ew λx hx=>by rw[List.mem_singleton] at hx;rw[hx];show k≠id;omega
mutual
theorem An{k m:Nat}(h:m<=k):∀ {s:Sym},Sym.lo m s->zA k s=s
 |.bp i o,hl=>by simp only[Sym.lo] at hl;simp only[zA];rw[if_neg (by omega)]
 |.ar i,hl=>by simp only[Sym.lo] at hl;simp only[zA];rw[if_neg (by omega)]
 |.ap i s j o,hl=>by simp only[Sym.lo] at hl;simp only[zA];rw[if_neg (by omega)]
 |.aS i s j o,hl=>by simp only[Sym.lo] at hl;simp only[zA];rw[if_neg (by omega)]
 |.av i s j o,hl=>by simp only[Sym.lo] at hl;simp only[zA];rw[if_neg (by omega)]
 |.yd i,hl=>by simp only[Sym.lo] at hl;simp only[zA];rw[if_neg (by omega)]
 |.mp i,hl=>by simp only[Sym.lo] at hl;simp only[zA];rw[if_neg (by omega)]
 |.tup l,hl=>by simp only[Sym.lo] at hl;simp only[zA,ZY h hl]
 |.agg l,hl=>by simp only[Sym.lo] at hl;simp only[zA,ZY h hl]
 |.fn f l,hl=>by simp only[Sym.lo] at hl;simp only[zA,ZY h hl]
 |.d x,_=>rfl
 |.nils,_=>rfl
 |.junk,_=>rfl
theorem ZY{k m:Nat}(h:m<=k):∀ {l:List Sym},Sym.los m l->yD k l=l
 | [],_=>rfl
 |s::l,hl=>by
  simp only[Sym.los] at hl;simp only[yD,An h hl.1,ZY h hl.2]
end
theorem Ao{k m:Nat}(h:m<=k):∀ {o:Obj'},o.lo m->qa k o=o
 |.box T l,hl=>by simp only[Obj'.lo] at hl;simp only[qa,ZY h hl]
 |.arr _ _ _,_=>rfl
 |.map _ _,_=>rfl
 |.raw k l,hl=>by simp only[Obj'.lo] at hl;simp only[qa,ZY h hl]
theorem Ap{n k:Nat}{fn:Sym}{rest:List (Nat×Obj')}(h:RestOk n fn rest)(H:n<=k)(o':Obj'):xI k o' rest=rest:=by
 have key:∀ l:List (Nat×Obj'),(∀ x∈l,x∈rest)->xI k o' l=l:=by
  intro l;induction l with
  |nil=>intro _;rfl
  |cons x l ih=>
   intro G;obtain⟨i,o⟩:=x;have F:=h.ids i o (G _ (List.mem_cons_self ..));simp only[xI];rw[if_neg (by omega),Ao H F.2.2,ih λy E=>G y (List.mem_cons_of_mem _ E)]
 exact key rest λ_ hx=>hx
theorem Ey{n:Nat}{fn:Sym}{rest:List (Nat×Obj')}(h:RestOk n fn rest){st:St}{a b c d:Obj'}{k j m:Nat}(hj:n<=j)(H:n<=k)(G:n<=m)(F:st.own=(j,d)::(k,c)::(0,a)::(1,b)::rest):vV st m rest:=by
 refine YS h (λid E h2=>?_) G (λ_ h=>Obj'.vR G h)
 rw[F]
 simp only[zc]
 rw[if_neg (by omega),if_neg (by omega),if_neg (by omega),if_neg (by omega)]
theorem Aq{n:Nat}{fn:Sym}{rest:List (Nat×Obj')}(h:RestOk n fn rest){st:St}{a b c d e:Obj'}{i j k m:Nat}(hi:n<=i)(hj:n<=j)(H:n<=k)(G:n<=m)(F:st.own=(i,e)::(j,d)::(k,c)::(0,a)::(1,b)::rest):vV st m rest:=by
 refine YS h (λid E h2=>?_) G (λ_ h=>Obj'.vR G h)
 rw[F]
 simp only[zc]
 rw[if_neg (by omega),if_neg (by omega),if_neg (by omega),if_neg (by omega),if_neg (by omega)]
theorem RestOk.keys6{n:Nat}{fn:Sym}{rest:List (Nat×Obj')}(h:RestOk n fn rest):(∀ (x:Obj'),¬(n+2,x)∈rest)/\(∀ (x:Obj'),¬(n+1,x)∈rest)/\(∀ (x:Obj'),¬(n,x)∈rest)/\(∀ (x:Obj'),¬(0,x)∈rest)/\(∀ (x:Obj'),¬(1,x)∈rest)/\(List.map (λx=>x.fst) rest).Nodup:=
 ⟨λx H=>by have:=(h.ids _ x H).2.1;omega,λx H=>by have:=(h.ids _ x H).2.1;omega,h.Zc⟩
theorem RestOk.keys5{n:Nat}{fn:Sym}{rest:List (Nat×Obj')}(h:RestOk n fn rest):(∀ (x:Obj'),¬(n+1,x)∈rest)/\(∀ (x:Obj'),¬(n,x)∈rest)/\(∀ (x:Obj'),¬(0,x)∈rest)/\(∀ (x:Obj'),¬(1,x)∈rest)/\(List.map (λx=>x.fst) rest).Nodup:=
 ⟨λx H=>by have:=(h.ids _ x H).2.1;omega,h.Zc⟩
theorem Zd{g:Lang}{w:List Int}{tr:List (List Int)}{n:Nat}{fn:Sym}{rest:List (Nat×Obj')}(h:RestOk n fn rest):(zC g w tr fn rest).map (·.1)=List.range n:=by
 rw[<-h.range];rfl
theorem jT{g:Lang}{w:List Int}{tr:List (List Int)}{n:Nat}{fn:Sym}{rest:List (Nat×Obj')}(h:RestOk n fn rest):∀ i o,(i,o)∈zC g w tr fn rest->i<n/\o.lo n:=by
 intro i o H
 have G:=h.two
 unfold zC at H
 rcases List.mem_cons.1 H with e | e
 .cases e
  refine⟨by omega,?_⟩
  simp[Obj'.lo,Sym.los,Sym.lo,zq,Lang.d,h.fn];omega
 .rcases List.mem_cons.1 e with e | e
  .cases e;exact⟨by omega,trivial⟩
  .have:=h.ids i o e;exact⟨by omega,this.2.2⟩
theorem ZZ{g:Lang}{w:List Int}{tr:List (List Int)}{n:Nat}{fn:Sym}{rest:List (Nat×Obj')}(h:RestOk n fn rest):∀ i o,(i,o)∈zC g w tr fn rest->zc (zC g w tr fn rest) i=some o:=by
 intro i o H
 exact Z7 (by rw[Zd h];exact List.nodup_range) H
end Go.V
namespace Go.V
open Go Go.Proofs
section
variable {σ:Type}
structure Clo(P:Program)(g:Lang)(w:List Int)(σ:Type) where
 F:σ->List Prt->List Int->σ×Bool
 rest:σ->List (Nat×Obj')
 fid:Nat
 caps:List Sym
 n:Nat
 mv:List Nat
 mvOk:∀ i∈mv,2<=i/\i<n
 mvCaps:qt mv caps=caps
 Inv:Nat->σ->Prop
 ok:∀ x,RestOk n (.fn fid caps) (rest x)
 mono:∀ k x,Inv k x->Inv (k+1) x
 call:∀ k x tr a base,Inv k x->k<2^20->a.length<=4->base.length<=24 ->
  zJ P fid (.d (zl a) :: .d (ints base)::caps) (zC g w tr (.fn fid caps) (rest x)) n (.d (.bool (F x a base).2)) n (zC g w tr (.fn fid caps) (rest (F x a base).1)) mv/\Inv (k+1) (F x a base).1
abbrev v6(σ:Type):=(σ×List (List Int))×Bool
variable {P:Program} (g:Lang) (w:List Int) (C:Clo P g w σ)
def qP(x:σ×List (List Int))(a:List Prt)(s:Nat)(base:List Int):v6 σ:=
 if a≠[]/\s &&& yk g.net.final≠0/\w.length<=base.length then
  (if vu g w base=true then (((C.F x.1 a base).1,vK x.2 base),(C.F x.1 a base).2) else ((x.1,vK x.2 base),true)) else (x,true)
def Ze(wk:σ×List (List Int)->List Prt->Nat->List Int->v6 σ)(e:Ent)(a:List Prt)(s:Nat)(base:List Int)(z:v6 σ)(alt:Nat):v6 σ:=
 if z.2=false then z else if wW g w<(base++e.forms[alt]?.getD []).length then z else wk z.1 (a++[⟨e.id,alt,0⟩]) s (base++e.forms[alt]?.getD [])
def stepS(wk:σ×List (List Int)->List Prt->Nat->List Int->v6 σ)(e:Ent)(a:List Prt)(s:Nat)(base:List Int)(x:σ×List (List Int))(k:Nat):v6 σ:=
 (List.range k).foldl (Ze g w wk e a s base) (x,true)
def qf(wk:σ×List (List Int)->List Prt->Nat->List Int->v6 σ)(a:List Prt)(s:Nat)(base:List Int)(y:v6 σ)(e:Ent):v6 σ:=
 if y.2=false then y else if yv g.net.steps s e.cls=0 then y else stepS g w wk e a (yv g.net.steps s e.cls) base y.1 e.forms.length
def zY:Nat->σ×List (List Int)->List Prt->Nat->List Int->v6 σ
 |0,x,a,s,base=>qP g w C x a s base
 |f+1,x,a,s,base=>if (qP g w C x a s base).2=false then qP g w C x a s base else
   g.lex.foldl (qf g w (λx a s base=>zY f x a s base) a s base) ((qP g w C x a s base).1,true)
theorem EA(wk:σ×List (List Int)->List Prt->Nat->List Int->v6 σ)(e:Ent)(a:List Prt)(s:Nat)(base:List Int)(x:σ×List (List Int))(k:Nat)(h:(stepS g w wk e a s base x k).2=false):∀ d,stepS g w wk e a s base x (k+d)=stepS g w wk e a s base x k
 |0=>rfl
 |d+1=>by
  have ih:=EA wk e a s base x k h d;have:stepS g w wk e a s base x (k+d+1)=Ze g w wk e a s base (stepS g w wk e a s base x (k+d)) (k+d):=by
   unfold stepS;rw[List.range_succ,List.foldl_append];rfl
  rw[<-Nat.add_assoc,this,ih];unfold Ze;rw[if_pos h]
def zU:Nat->Nat
 |0=>1
 |f+1=>1+10*zU f
end
structure WalkC(g:Lang)(w:List Int){σ:Type}(C:Clo Tryz.prog g w σ)(f:Nat):Prop where
 call:∀ k x tr a s base,C.Inv k x->k+zU f<=2^20->(∀ b∈tr,yi b)->a.length+f=4->s<8->base.length<=24->yi base ->
  zJ Tryz.prog 288 [.bp 0 0,.d (zl a),.d (u32 s),.d (ints base)] (zC g w tr (.fn C.fid C.caps) (C.rest x)) C.n
   (.d (.bool (zY g w C f (x,tr) a s base).2)) C.n (zC g w (zY g w C f (x,tr) a s base).1.2 (.fn C.fid C.caps) (C.rest (zY g w C f (x,tr) a s base).1.1)) C.mv
 inv:∀ k x tr a s base,C.Inv k x->k+zU f<=2^20->(∀ b∈tr,yi b)->a.length+f=4->s<8->base.length<=24->yi base ->
  C.Inv (k+zU f) (zY g w C f (x,tr) a s base).1.1/\∀ b∈(zY g w C f (x,tr) a s base).1.2,yi b
theorem uW{P:Program}{g:Lang}{w:List Int}{σ:Type}(C:Clo P g w σ){k x}(h:C.Inv k x):∀ d,C.Inv (k+d) x
 |0=>h
 |d+1=>C.mono _ _ (uW C h d)
def kK(g:Lang)(w:List Int){σ:Type}(C:Clo Tryz.prog g w σ)(e:Ent)(a:List Prt)(s:Nat)(base:List Int)(z:v6 σ)(k:Nat):St:=
 {n:=78,next:=C.n+1,slots:=[(0,.bp 0 0),(2,.d (zl a)),(3,.d (u32 s)),(4,.d (ints base)),(6,.bp C.n 0),(27,.d (yl e.forms)),(28,.d (int e.forms.length)),(29,.d (int k))],own:=(C.n,.box 102 (e.row.map .d))::zC g w z.1.2 (.fn C.fid C.caps) (C.rest z.1.1),base:=C.n,moved:=C.mv}
theorem Ar(g:Lang)(hg:LightF g)(hc:LangC g)(w:List Int)(hw:w.length<=24){σ:Type}(C:Clo Tryz.prog g w σ)(f:Nat)(hW:WalkC g w C f)(e:Ent)(he:e∈g.lex)
  (k0:Nat) (x:σ) (tr:List (List Int)) (a:List Prt) (s:Nat) (base:List Int) (hI:C.Inv k0 x) (hk:k0+2*zU f<=2^20) (ht:∀ b∈tr,yi b) (hl:a.length+(f+1)=4) (hs:s<8) (hb:base.length<=24) (Fd:yi base) :
  zJ Tryz.prog 296 [.bp 0 0,.d (.agg e.row),.d (zl a),.d (u32 s),.d (ints base)] (zC g w tr (.fn C.fid C.caps) (C.rest x)) C.n
   (.d (.bool (stepS g w (λx a s base=>zY g w C f x a s base) e a s base (x,tr) e.forms.length).2)) C.n
   (zC g w (stepS g w (λx a s base=>zY g w C f x a s base) e a s base (x,tr) e.forms.length).1.2 (.fn C.fid C.caps) (C.rest (stepS g w (λx a s base=>zY g w C f x a s base) e a s base (x,tr) e.forms.length).1.1)) C.mv:=by
 have hr:=C.ok x
 have h2:=hr.two
 have F:0<C.n:=by omega
 have J:¬C.n=0:=by omega
 have L:¬C.n=1:=by omega
 have N:0∉C.mv:=λh=>by have:=(C.mvOk 0 h).1;omega
 have P:C.n∉C.mv:=λh=>by have:=(C.mvOk _ h).2;omega
 have hR:=hg.Z9 hc
 have hS:=J7 g.lex e.id hR.lex.len hR.lex.senses
 have hL:=KJ e (by have:=hR.lex.alts e he;omega)
 have Fs:e.forms.length<=2:=by have:=(hg.small.forms e he).2.1;simp[Ent.forms];omega
 have hsn:¬(xM g.lex e.id).length=0:=λh=>hg.senses he (List.length_eq_zero_iff.mp h)
 have S:¬((xM g.lex e.id).length:Int)=0:=by omega
 refine xW mixed Tryz.func296 rfl c_296 (by simp[Sym.los,Sym.lo,F]) ?_
 simp+decide[Tryz.f296,zC,zq,Lang.d,int,u32,Ent.row,J,L]
 refine scp hS ?_
 simp+decide[int,zZ,hsn,S]
 refine zg hL ?_
 simp+decide[int,yl]
 refine yU mixed (λk:Nat=>kK g w C e a s base (stepS g w (λx a s base=>zY g w C f x a s base) e a s base (x,tr) k) k)
  (λk=>k<=e.forms.length/\(stepS g w (λx a s base=>zY g w C f x a s base) e a s base (x,tr) k).2=true/\C.Inv (k0+k*zU f) (stepS g w (λx a s base=>zY g w C f x a s base) e a s base (x,tr) k).1.1/\∀ b∈(stepS g w (λx a s base=>zY g w C f x a s base) e a s base (x,tr) k).1.2,yi b)
  (λk=>e.forms.length-k) 0 ⟨by simp,rfl,by simpa[stepS] using hI,ht⟩ ?_ ?_
 .simp+decide[kK,stepS,zC,int,ints,u32,zq,Lang.d,Ent.row,yl,J,L]
  exact⟨hr.Zc,rfl,⟨F,hr.caps (by omega)⟩,F,QN hr (Nat.le_refl _) (by omega) rfl⟩
 intro k ⟨Eq,I,A,X⟩
 have G:=C.ok (stepS g w (λx a s base=>zY g w C f x a s base) e a s base (x,tr) k).1.1
 have H:stepS g w (λx a s base=>zY g w C f x a s base) e a s base (x,tr) (k+1)=Ze g w (λx a s base=>zY g w C f x a s base) e a s base (stepS g w (λx a s base=>zY g w C f x a s base) e a s base (x,tr) k) k:=by
  unfold stepS;rw[List.range_succ,List.foldl_append];rfl
 by_cases E:k<e.forms.length
 case neg=>
  have:k=e.forms.length:=by omega
  subst this;refine zL mixed ?_
  simp+decide[kK,zC,int,ints,u32,zq,Lang.d,Ent.row,yl,J,L];exact⟨I,G.qC,F,⟨by omega,G.caps (Nat.le_refl _)⟩,by omega,JD G (Nat.le_refl _) rfl⟩
 have K:(k:Int)<e.forms.length:=by omega
 generalize stepS g w (λx a s base=>zY g w C f x a s base) e a s base (x,tr) k=z at I A X G H
 obtain⟨⟨zx,ztr⟩,zb⟩:=z
 simp only at I A X G
 subst I
 obtain⟨fm,ef⟩:∃ fm,e.forms[k]=fm:=⟨_,rfl⟩
 have ef1:e.forms[k]?=some fm:=by rw[List.getElem?_eq_getElem E,ef]
 unfold Ze at H
 simp only[ef1,Option.getD_some,Bool.true_eq_false,if_false] at H
 refine jI mixed 2 (kK g w C e a s base ((zx,ztr),true) k) rfl ?_ ?_
 .simp+decide[kK,yn,qW,zC,int,ints,u32,zq,Lang.d,Ent.row,yl,J,L,K]
  exact⟨G.Zc,⟨F,G.caps (by omega)⟩,F,QN G (Nat.le_refl _) (by omega) rfl⟩
 simp only[yL]
 refine VH (Yo ?_) mixed
 have Y:C.Inv (k0+(k+1)*zU f) zx:=by
  have:=uW C A (zU f)
  rwa [Nat.add_mul,Nat.one_mul,<-Nat.add_assoc]
 by_cases M:wW g w<(base++fm).length
 .rw[if_pos M] at H
  refine zL mixed ?_
  unfold wW at M;have D0:((base.length:Int)+fm.length)=((base++fm).length:Int):=by simp
  have Fk:fm.length<2^20:=hR.lex.form e he fm (by rw[<-ef];exact List.getElem_mem E)
  rw[List.length_append] at M;cases Q:Zz g.rules with
  |true=>
   rw[if_pos Q] at M;have Z:(24:Int)<(base.length:Int)+fm.length:=by omega
   simp+decide[kK,zC,int,ints,u32,zq,Lang.d,Ent.row,yl,J,L,E,K,ef,ef1,Z,Q,I64];refine⟨⟨by omega,by omega⟩,⟨by omega,by omega⟩,k+1,⟨E,by rw[H],by rw[H];exact Y,by rw[H];exact X⟩,by omega,?_⟩
   rw[H];exact⟨G.Zc,by omega,⟨F,G.caps (by omega)⟩,rfl,F,QN G (Nat.le_refl _) (by omega) rfl⟩
  |false=>
   rw[if_neg (by rw[Q];decide)] at M
   have W:(w.length:Int)<(base.length:Int)+fm.length:=by omega
   by_cases Z:(24:Int)<(base.length:Int)+fm.length
   .simp+decide[kK,zC,int,ints,u32,zq,Lang.d,Ent.row,yl,J,L,E,K,ef,ef1,Z,Q,I64]
    refine⟨⟨by omega,by omega⟩,⟨by omega,by omega⟩,k+1,⟨E,by rw[H],by rw[H];exact Y,by rw[H];exact X⟩,by omega,?_⟩
    rw[H];exact⟨G.Zc,by omega,⟨F,G.caps (by omega)⟩,rfl,F,QN G (Nat.le_refl _) (by omega) rfl⟩
   .simp+decide[kK,zC,int,ints,u32,zq,Lang.d,Ent.row,yl,J,L,E,K,ef,ef1,Z,W,Q,I64]
    refine⟨⟨by omega,by omega⟩,⟨by omega,by omega⟩,k+1,⟨E,by rw[H],by rw[H];exact Y,by rw[H];exact X⟩,by omega,?_⟩
    rw[H];exact⟨G.Zc,by omega,⟨F,G.caps (by omega)⟩,rfl,F,QN G (Nat.le_refl _) (by omega) rfl⟩
 rw[if_neg M] at H
 have H0:(base++fm).length<=24:=by
  unfold wW at M;split at M <;> omega
 have Hs:yD (C.n+1) C.caps=C.caps:=ZY (by omega) (G.caps (Nat.le_refl _))
 have Go:∀ o',xI (C.n+1) o' (C.rest zx)=C.rest zx:=λo'=>Ap G (by omega) o'
 let S2:St:={n:=78,next:=C.n+2,slots:=[(0,.bp 0 0),(2,.d (zl a)),(3,.d (u32 s)),(4,.d (ints base)),(6,.bp C.n 0),(11,.d (int k)),(14,.ar (C.n+1)),(27,.d (yl e.forms)),(28,.d (int e.forms.length)),(29,.d (int k))],own:=(C.n+1,.arr 3 1 ((base++fm).map λn=>[int n]))::(C.n,.box 102 (e.row.map .d))::zC g w ztr (.fn C.fid C.caps) (C.rest zx),base:=C.n,moved:=(C.n+1)::C.mv}
 refine jI mixed 4 S2 rfl ?_ ?_
 .have Z:¬(24:Int)<(base.length:Int)+fm.length:=by rw[List.length_append] at H0;omega
  have Fk:fm.length<2^20:=hR.lex.form e he fm (by rw[<-ef];exact List.getElem_mem E)
  unfold wW at M;rw[List.length_append] at M;cases Q:Zz g.rules with
  |true=>
   simp+decide[kK,yn,qW,zC,int,ints,u32,zq,Lang.d,Ent.row,yl,J,L,E,K,ef,ef1,Z,Q,I64,S2,Hs,Go];exact⟨⟨by omega,by omega⟩,by omega,by unfold maxLen;omega,by omega,by unfold maxLen;omega,G.keys5,G.caps (by omega),Ey G (by omega) (Nat.le_refl _) (by omega) rfl⟩
  |false=>
   rw[if_neg (by rw[Q];decide)] at M
   have W:¬(w.length:Int)<(base.length:Int)+fm.length:=by omega
   simp+decide[kK,yn,qW,zC,int,ints,u32,zq,Lang.d,Ent.row,yl,J,L,E,K,ef,ef1,Z,W,Q,I64,S2,Hs,Go];exact⟨⟨by omega,by omega⟩,by omega,by unfold maxLen;omega,by omega,by unfold maxLen;omega,G.keys5,G.caps (by omega),Ey G (by omega) (Nat.le_refl _) (by omega) rfl⟩
 simp only[yL]
 let S3:St:={n:=78,next:=C.n+3,slots:=[(0,.bp 0 0),(2,.d (zl a)),(3,.d (u32 s)),(4,.d (ints base)),(6,.bp C.n 0),(14,.ar (C.n+1)),(15,.ar (C.n+2)),(27,.d (yl e.forms)),(28,.d (int e.forms.length)),(29,.d (int k))],own:=(C.n+2,.arr 96 3 ((a++[(⟨e.id,(k:Int),0⟩:Prt)]).map Prt.row))::(C.n+1,.arr 3 1 ((base++fm).map λn=>[int n]))::(C.n,.box 102 (e.row.map .d))::zC g w ztr (.fn C.fid C.caps) (C.rest zx),base:=C.n,moved:=(C.n+1)::C.mv}
 refine Ka S3 ?_ ?_
 .refine VK mixed 9 [] (by rfl) (by rfl) (by rfl) (by rfl) ?_
  simp+decide[S2,S3,qW,zC,int,ints,u32,zq,Lang.d,Ent.row,Prt.row,yl,zl,J,L,I64];refine⟨⟨by omega,by unfold maxLen;omega⟩,⟨by omega,by unfold maxLen;omega⟩,by rfl,?_⟩
  exact⟨G.keys6,G.caps (by omega),Aq G (by omega) (by omega) (Nat.le_refl _) (by omega) rfl⟩
 have Fm:=G.thawed
 refine Am C.mv (by intro id hid;simp only[S3,List.mem_cons] at hid ⊢;exact hid.elim (λh=>.inl (by omega)) .inr) ?_
 refine VL [C.n+2,C.n+1] ?_
 refine zL mixed ?_
 simp+decide[S3,zC,int,ints,u32,zq,Lang.d,Ent.row,yl,zl,J,L,I64,Fm]
 have F0:yi (base++fm):=by
  intro y hy;rcases List.mem_append.1 hy with h | h
  .exact Fd y h
  .have hE:=hg.lex.each e he
   have Fn:WordF g.inv fm:=by
    have hm:fm∈e.forms:=by rw[<-ef];exact List.getElem_mem E
    rcases List.mem_cons.1 hm with h1 | h1
    .rw[h1];exact hE.form
    .exact hE.alts fm h1
   have:=Fn.segs y h
   have D4:=hg.segs;simp only[yS,Bool.and_eq_true,decide_eq_true_eq] at this;omega
 have B1:k*zU f<=1*zU f:=Nat.mul_le_mul_right _ (by omega)
 have O:=hW.call (k0+k*zU f) zx ztr (a++[⟨e.id,(k:Int),0⟩]) s (base++fm) A (by omega) X (by simp;omega) hs H0 F0
 have T:=hW.inv (k0+k*zU f) zx ztr (a++[⟨e.id,(k:Int),0⟩]) s (base++fm) A (by omega) X (by simp;omega) hs H0 F0
 generalize zY g w C f (zx,ztr) (a++[⟨e.id,(k:Int),0⟩]) s (base++fm)=z2 at O T H
 obtain⟨⟨z2x,z2t⟩,z2b⟩:=z2
 simp only at O T
 have V:=C.ok z2x
 refine JE C.mvOk (n:=C.n) (s:=.d (.bool z2b)) (caps:=[]) (own0:=zC g w ztr (.fn C.fid C.caps) (C.rest zx)) (own':=zC g w z2t (.fn C.fid C.caps) (C.rest z2x)) (by rfl) (by simp[Sym.los,Sym.lo,F]) (by simp) (Zd G) ?_ (jT V) trivial ?_ (by simp[wL,zS,N,P]) (xC.cons (by simp[jE,qt,zS]) (xC.two G)) ?_
 .intro i o hm
  obtain⟨l1,l2⟩:=jT G i o hm;refine⟨l1,l2,?_⟩
  change zc ((C.n,_)::zC g w ztr (.fn C.fid C.caps) (C.rest zx)) i=some o
  simp only[zc];rw[if_neg (by omega)]
  exact ZZ G i o hm
 .simpa[zl,ints,int,u32] using O
 have Fr:∀ pre:List (Nat×Obj'),zc (C.rest z2x++pre) C.n=zc pre C.n:=λpre=>G0 V (Nat.le_refl _)
 have F1:1<C.n:=by omega
 cases z2b with
 |false=>
  have B:=EA g w (λx a s base=>zY g w C f x a s base) e a s base (x,tr) (k+1) (by rw[H]) (e.forms.length-(k+1))
  rw[show k+1+(e.forms.length-(k+1))=e.forms.length by omega,H] at B
  simp+decide[x7,jS G,F,F1,zC,zq,Lang.d,int,ints,u32,B];exact⟨V.qC,V.caps (Nat.le_refl _),QO V (Nat.le_refl _) (Nat.le_refl _) rfl⟩
 |true=>
  have H1:¬0=C.n:=by omega
  have Hc:¬1=C.n:=by omega
  simp+decide[x7,jS G,F,F1,zC,kK,J,L,H1,Hc,Fr,zq,Lang.d,int,ints,u32,zl,yl,Ent.row,I64];have Hi:C.Inv (k0+(k+1)*zU f) z2x:=by
   have:=T.1
   rwa [Nat.add_mul,Nat.one_mul,<-Nat.add_assoc]
  refine⟨⟨by omega,by omega⟩,k+1,⟨E,by rw[H],by rw[H];exact Hi,by rw[H];exact T.2⟩,by omega,?_⟩
  rw[H];exact⟨V.Zc,by omega,V.caps (by omega),rfl,QO V (Nat.le_refl _) (by omega) rfl⟩
end Go.V
namespace Go.V
open Go Go.Proofs
theorem EB{g:Lang}(F:LightF g){e:Ent}(E:e∈g.lex){fm:List Int}(K:fm∈e.forms):yi fm:=by
 intro y h
 have J:=F.lex.each e E
 have H:WordF g.inv fm:=by
  rcases List.mem_cons.1 K with L | L
  .rw[L];exact J.form
  .exact J.alts fm L
 have:=H.segs y h
 have G:=F.segs
 simp only[yS,Bool.and_eq_true,decide_eq_true_eq] at this
 omega
theorem yi.app{a b:List Int}(H:yi a)(G:yi b):yi (a++b):=by
 intro y F
 rcases List.mem_append.1 F with h | h
 .exact H y h
 .exact G y h
theorem EC{g:Lang}(O:LightF g){w:List Int}(Q:w.length<=24){σ:Type}{C:Clo Tryz.prog g w σ}{f:Nat}(T:WalkC g w C f){e:Ent}(V:e∈g.lex)
  {k0:Nat} {x:σ} {tr:List (List Int)} {a:List Prt} {s:Nat} {base:List Int} (X:C.Inv k0 x) (Y:k0+2*zU f<=2^20) (Z:∀ b∈tr,yi b) (A:a.length+(f+1)=4) (hs:s<8) (G:yi base) :
  ∀ k,k<=e.forms.length->C.Inv (k0+k*zU f) (stepS g w (λx a s base=>zY g w C f x a s base) e a s base (x,tr) k).1.1/\∀ b∈(stepS g w (λx a s base=>zY g w C f x a s base) e a s base (x,tr) k).1.2,yi b
 |0,_=>by simpa[stepS] using⟨X,Z⟩
 |k+1,hle=>by
  have ih:=EC O Q T V X Y Z A hs G k (by omega)
  have L:e.forms.length<=2:=by have:=(O.small.forms e V).2.1;simp[Ent.forms];omega
  have H:stepS g w (λx a s base=>zY g w C f x a s base) e a s base (x,tr) (k+1)=Ze g w (λx a s base=>zY g w C f x a s base) e a s base (stepS g w (λx a s base=>zY g w C f x a s base) e a s base (x,tr) k) k:=by
   unfold stepS;rw[List.range_succ,List.foldl_append];rfl
  rw[H];generalize stepS g w (λx a s base=>zY g w C f x a s base) e a s base (x,tr) k=z at ih
  obtain⟨⟨zx,zt⟩,zb⟩:=z;simp only at ih
  have F:C.Inv (k0+(k+1)*zU f) zx:=by
   have:=uW C ih.1 (zU f)
   rwa [Nat.add_mul,Nat.one_mul,<-Nat.add_assoc]
  have E:k<e.forms.length:=by omega
  have J:e.forms[k]?.getD []=e.forms[k]:=by rw[List.getElem?_eq_getElem E];rfl
  have M:k*zU f<=1*zU f:=Nat.mul_le_mul_right _ (by omega)
  unfold Ze;split
  .exact⟨F,ih.2⟩
  .split
   .exact⟨F,ih.2⟩
   .rename_i K
    have B:(base++e.forms[k]?.getD []).length<=24:=by
     unfold wW at K;split at K <;> omega
    have:=T.inv (k0+k*zU f) zx zt (a++[⟨e.id,(k:Int),0⟩]) s (base++e.forms[k]?.getD []) ih.1 (by omega) ih.2 (by simp;omega) hs B (G.app (by rw[J];exact EB O V (List.getElem_mem E)))
    refine⟨?_,this.2⟩
    have I:=this.1;rwa [Nat.add_mul,Nat.one_mul,<-Nat.add_assoc]
theorem ED:∀ (a b:Fin 8),(jC .and .u32 (a.val:Int) (b.val:Int))=((a.val &&& b.val:Nat):Int):=by decide +kernel
theorem As(g:Lang)(A:LightF g)(B:LangC g)(w:List Int)(I:w.length<=24){σ:Type}(C:Clo Tryz.prog g w σ)
  (k0:Nat) (x:σ) (tr:List (List Int)) (a:List Prt) (s:Nat) (base:List Int) (N:C.Inv k0 x) (P:k0+zU 0<=2^20) (S:∀ b∈tr,yi b) (W:a.length+0=4) (hs:s<8) (hb:base.length<=24) (V:yi base) :
  zJ Tryz.prog 288 [.bp 0 0,.d (zl a),.d (u32 s),.d (ints base)] (zC g w tr (.fn C.fid C.caps) (C.rest x)) C.n
   (.d (.bool (zY g w C 0 (x,tr) a s base).2)) C.n (zC g w (zY g w C 0 (x,tr) a s base).1.2 (.fn C.fid C.caps) (C.rest (zY g w C 0 (x,tr) a s base).1.1)) C.mv:=by
 have hr:=C.ok x
 have h2:=hr.two
 have L:0<C.n:=by omega
 have M:1<C.n:=by omega
 have Q:0∉C.mv:=λh=>by have:=(C.mvOk 0 h).1;omega
 have X:=C.mvCaps
 have E:¬C.n=0:=by omega
 have K:¬C.n=1:=by omega
 have H:a.length=4:=by omega
 have Y:=ZB g.net.final 0 (λq hq=>A.vJ.ok.2.1 q hq) (by omega)
 have G:=ED ⟨s,hs⟩ ⟨yk g.net.final,Y⟩
 simp only at G
 have Z:a≠[]:=by intro h;rw[h] at H;cases H
 unfold zY qP
 refine xW mixed Tryz.func288 rfl c_288 (by simp[Sym.los,Sym.lo,L]) ?_
 by_cases c1:s &&& yk g.net.final=0
 .rw[if_neg (λh=>h.2.1 c1)]
  simp+decide[Tryz.f288,zC,zq,Lang.d,int,ints,u32,zl,E,K,H,G,c1];exact⟨hr.qC,by omega,⟨by omega,hr.caps (Nat.le_refl _)⟩,by omega,vg hr rfl⟩
 by_cases c2:w.length<=base.length
 case neg=>
  rw[if_neg (λh=>c2 h.2.2)]
  simp+decide[Tryz.f288,zC,zq,Lang.d,int,ints,u32,zl,E,K,H,G,c1,c2];exact⟨hr.qC,by omega,⟨by omega,hr.caps (Nat.le_refl _)⟩,by omega,vg hr rfl⟩
 rw[if_pos ⟨Z,c1,c2⟩]
 have hF:=Ep g w tr C.n (.fn C.fid C.caps) (C.rest x) hr A B base hb I V S
 simp+decide[Tryz.f288,zC,zq,Lang.d,int,ints,u32,zl,E,K,H,G,c1,c2]
 refine UZ (n:=C.n) (s:=.d (.bool (vu g w base))) (caps:=[]) (own0:=zC g w tr (.fn C.fid C.caps) (C.rest x)) (own':=zC g w (vK tr base) (.fn C.fid C.caps) (C.rest x)) (by rfl) (by simp[Sym.los,Sym.lo,L]) (by simp) (Zd hr) ?_ (jT hr) trivial ?_ ?_
 .intro i o hm
  obtain⟨l1,l2⟩:=jT hr i o hm;refine⟨l1,l2,?_⟩
  change zc (zC g w tr (.fn C.fid C.caps) (C.rest x)) i=some o
  exact ZZ hr i o hm
 .simpa[zl,ints,int,u32] using hF
 cases O:vu g w base with
 |false=>
  simp+decide[x7,jS hr,L,M,zC,zq,Lang.d,int,ints,u32,zl,E,K,H,O];exact⟨hr.qC,hr.caps (Nat.le_refl _),vg hr rfl⟩
 |true=>
  simp+decide[x7,jS hr,L,M,zC,zq,Lang.d,int,ints,u32,zl,E,K,H,O];have J:=C.ok (C.F x a base).1;have T:=(C.call k0 x (vK tr base) a base N (by unfold zU at P;omega) (by omega) hb).1
  generalize C.F x a base=z at T J;obtain⟨zx,zb⟩:=z;simp only at T J
  refine JE C.mvOk (n:=C.n) (s:=.d (.bool zb)) (caps:=C.caps) (own0:=zC g w (vK tr base) (.fn C.fid C.caps) (C.rest x)) (own':=zC g w (vK tr base) (.fn C.fid C.caps) (C.rest zx)) (by rfl) (by simp[Sym.los,Sym.lo,hr.caps (Nat.le_refl _)]) (by simp) (Zd hr) ?_ (jT J) trivial ?_ (by simp[wL,zS,Q,X]) (xC.two hr) ?_
  .intro i o hm
   obtain⟨l1,l2⟩:=jT hr i o hm;refine⟨l1,l2,?_⟩
   change zc (zC g w (vK tr base) (.fn C.fid C.caps) (C.rest x)) i=some o
   exact ZZ hr i o hm
  .simpa[zl,ints,int,u32] using T
  cases zb with
  |false=>
   simp+decide[x7,jS hr,L,M,zC,zq,Lang.d,int,ints,u32,zl,E,K,H,O];exact⟨J.qC,hr.caps (Nat.le_refl _),vg J rfl⟩
  |true=>
   simp+decide[x7,jS hr,L,M,zC,zq,Lang.d,int,ints,u32,zl,E,K,H,O];exact⟨J.qC,hr.caps (Nat.le_refl _),vg J rfl⟩
theorem JF{tr:List (List Int)}{base:List Int}(H:∀ b∈tr,yi b)(G:yi base):∀ b∈vK tr base,yi b:=by
 intro b h
 unfold vK at h
 split at h
 .exact H b h
 .rcases List.mem_append.1 h with h | h
  .exact H b h
  .rw[List.mem_singleton.1 h];exact G
theorem EE{g:Lang}{w:List Int}{σ:Type}{C:Clo Tryz.prog g w σ}{k0:Nat}{x:σ}{tr:List (List Int)}{a:List Prt}{s:Nat}{base:List Int}(G:C.Inv k0 x)(F:k0<2^20)(E:∀ b∈tr,yi b)(K:a.length<=4)(J:base.length<=24)(H:yi base):
  C.Inv (k0+1) (qP g w C (x,tr) a s base).1.1/\∀ b∈(qP g w C (x,tr) a s base).1.2,yi b:=by
 unfold qP
 split
 .split
  .exact⟨(C.call k0 x tr a base G F K J).2,JF E H⟩
  .exact⟨C.mono _ _ G,JF E H⟩
 .exact⟨C.mono _ _ G,E⟩
theorem Au(g:Lang)(G:LightF g)(F:LangC g)(w:List Int)(E:w.length<=24){σ:Type}(C:Clo Tryz.prog g w σ):WalkC g w C 0 where
 call k x tr a s base K J L M hs O H:=As g G F w E C k x tr a s base K J L M hs O H
 inv k x tr a s base K J L M hs O H:=by
  have:=EE (C:=C) (s:=s) (a:=a) K (by unfold zU at J;omega) L (by omega) O H
  unfold zY zU;exact this
theorem EF{g:Lang}(F:LightF g){w:List Int}(E:w.length<=24){σ:Type}{C:Clo Tryz.prog g w σ}{f:Nat}(K:WalkC g w C f){e:Ent}(J:e∈g.lex)
  {k0:Nat} {x:σ} {tr:List (List Int)} {b0:Bool} {a:List Prt} {s:Nat} {base:List Int} (L:C.Inv k0 x) (M:k0+2*zU f<=2^20) (O:∀ b∈tr,yi b) (Q:a.length+(f+1)=4) (hs:yv g.net.steps s e.cls<8) (H:yi base) :
  C.Inv (k0+2*zU f) (qf g w (λx a s base=>zY g w C f x a s base) a s base ((x,tr),b0) e).1.1/\∀ b∈(qf g w (λx a s base=>zY g w C f x a s base) a s base ((x,tr),b0) e).1.2,yi b:=by
 have G:e.forms.length<=2:=by have:=(F.small.forms e J).2.1;simp[Ent.forms];omega
 unfold qf
 split
 .exact⟨uW C L _,O⟩
 split
 .exact⟨uW C L _,O⟩
 have h:=EC F E K J L M O Q hs H e.forms.length (Nat.le_refl _)
 refine⟨?_,h.2⟩
 have T:=uW C h.1 ((2-e.forms.length)*zU f)
 rwa [Nat.add_assoc,<-Nat.add_mul,show e.forms.length+(2-e.forms.length)=2 by omega] at T
theorem EG{g:Lang}(K:LightF g){w:List Int}(J:w.length<=24){σ:Type}{C:Clo Tryz.prog g w σ}{f:Nat}(L:WalkC g w C f){a:List Prt}{s:Nat}{base:List Int}(M:a.length+(f+1)=4)(F:yi base):
  ∀ (l:List Ent),(∀ e∈l,e∈g.lex)->∀ (k0:Nat) (y:v6 σ),C.Inv k0 y.1.1->k0+l.length*(2*zU f)<=2^20->(∀ b∈y.1.2,yi b) ->
   C.Inv (k0+l.length*(2*zU f)) (l.foldl (qf g w (λx a s base=>zY g w C f x a s base) a s base) y).1.1/\∀ b∈(l.foldl (qf g w (λx a s base=>zY g w C f x a s base) a s base) y).1.2,yi b
 | [],_,k0,y,O,_,Q=>by simpa using⟨O,Q⟩
 |e::l,T,k0,y,O,V,Q=>by
  have H:=K.vJ.ok.1;have E:yv g.net.steps s e.cls<8:=KF (λq X=>⟨⟨(H q X).1.1,by have:=(H q X).1.2;omega⟩,(H q X).2.1,by have:=(H q X).2.2;omega⟩) s e.cls
  have G:(e::l).length*(2*zU f)=2*zU f+l.length*(2*zU f):=by
   rw[List.length_cons,Nat.add_mul,Nat.one_mul,Nat.add_comm]
  rw[G] at V ⊢;obtain⟨⟨yx,yt⟩,yb⟩:=y;have Y:=EF K J L (T e (List.mem_cons_self ..)) (b0:=yb) (a:=a) (s:=s) O (by omega) Q M E F
  have Z:=EG K J L (s:=s) M F l (λe A=>T e (List.mem_cons_of_mem _ A)) (k0+2*zU f) _ Y.1 (by omega) Y.2
  rw[List.foldl_cons,<-Nat.add_assoc];exact Z
theorem Av{g:Lang}(F:LightF g){w:List Int}(E:w.length<=24){σ:Type}{C:Clo Tryz.prog g w σ}{f:Nat}(K:WalkC g w C f)(k:Nat)(x:σ)(tr:List (List Int))(a:List Prt)(s:Nat)(base:List Int)
  (J:C.Inv k x) (L:k+zU (f+1)<=2^20) (M:∀ b∈tr,yi b) (O:a.length+(f+1)=4) (Q:base.length<=24) (H:yi base) :
  C.Inv (k+zU (f+1)) (zY g w C (f+1) (x,tr) a s base).1.1/\∀ b∈(zY g w C (f+1) (x,tr) a s base).1.2,yi b:=by
 have G:zU (f+1)=1+10*zU f:=by rw[zU]
 rw[G] at L ⊢
 have T:=EE (C:=C) (s:=s) (a:=a) J (by omega) M (by omega) Q H
 have V:g.lex.length*(2*zU f)<=5*(2*zU f):=Nat.mul_le_mul_right _ F.small.few
 unfold zY
 split
 .refine⟨?_,T.2⟩
  have:=uW C T.1 (10*zU f)
  rwa [Nat.add_assoc] at this
 .have h:=EG F E K (s:=s) O H g.lex (λ_ h=>h) (k+1) ((qP g w C (x,tr) a s base).1,true) T.1 (by omega) T.2
  refine⟨?_,h.2⟩
  have X:=uW C h.1 (10*zU f-g.lex.length*(2*zU f));rwa [show k+1+g.lex.length*(2*zU f)+(10*zU f-g.lex.length*(2*zU f))=k+(1+10*zU f) by omega] at X
theorem EH{g:Lang}{w:List Int}{σ:Type}{wk:σ×List (List Int)->List Prt->Nat->List Int->v6 σ}{a:List Prt}{s:Nat}{base:List Int}:
  ∀ (l:List Ent) (y:v6 σ),y.2=false->l.foldl (qf g w wk a s base) y=y
 | [],_,_=>rfl
 |e::l,y,h=>by
  have H:qf g w wk a s base y e=y:=by unfold qf;rw[if_pos h]
  rw[List.foldl_cons,H];exact EH l y h
theorem Aw{α β:Type}(F:β->α->β)(y:β)(l:List α)(k:Nat)(h:k<l.length):(l.take (k+1)).foldl F y=F ((l.take k).foldl F y) l[k]:=by
 rw[List.take_succ_eq_append_getElem h,List.foldl_append];rfl
theorem Ax{g:Lang}{w:List Int}{σ:Type}{wk:σ×List (List Int)->List Prt->Nat->List Int->v6 σ}{a:List Prt}{s:Nat}{base:List Int}(l:List Ent)(y:v6 σ)(k:Nat)(h:((l.take k).foldl (qf g w wk a s base) y).2=false):
  l.foldl (qf g w wk a s base) y=(l.take k).foldl (qf g w wk a s base) y:=by
 conv=>lhs;rw[<-List.take_append_drop k l,List.foldl_append]
 exact EH _ _ h
theorem EI{i:Nat}{o:Obj'}:∀ {l r:List (Nat×Obj')},zc l i=some o->zc (l++r) i=some o
 | [],_,h=>by simp[zc] at h
 |(j,x)::l,r,h=>by
  simp only[List.cons_append,zc] at h ⊢;by_cases c:j=i
  .rw[if_pos c] at h ⊢;exact h
  .rw[if_neg c] at h ⊢;exact EI h
theorem EJ{n:Nat}{fn:Sym}{rest:List (Nat×Obj')}(h:RestOk n fn rest)(pre:List (Nat×Obj')):x7 n (rest++pre)=x7 n pre:=by
 have key:∀ l:List (Nat×Obj'),(∀ x∈l,x∈rest)->x7 n (l++pre)=x7 n pre:=by
  intro l;induction l with
  |nil=>intro _;rfl
  |cons x l ih=>
   intro H;obtain⟨i,o⟩:=x;have:=(h.ids i o (H _ (List.mem_cons_self ..))).2.1
   simp only[List.cons_append,x7];rw[if_pos this];exact ih λy G=>H y (List.mem_cons_of_mem _ G)
 exact key rest λ_ hx=>hx
def Ay{g:Lang}{w:List Int}{σ:Type}(C:Clo Tryz.prog g w σ)(k:Nat)(x:σ)(tr:List (List Int))(b:Bool):Prop:=b=true/\C.Inv k x/\∀ b∈tr,yi b
theorem Az(g:Lang)(hg:LightF g)(hc:LangC g)(w:List Int)(hw:w.length<=24){σ:Type}(C:Clo Tryz.prog g w σ)(f:Nat)(hW:WalkC g w C f)
  (k0:Nat) (x:σ) (tr:List (List Int)) (a:List Prt) (s:Nat) (base:List Int) (hI:C.Inv k0 x) (hk:k0+zU (f+1)<=2^20) (ht:∀ b∈tr,yi b) (hl:a.length+(f+1)=4) (hs:s<8) (hb:base.length<=24) (H1:yi base) :
  zJ Tryz.prog 288 [.bp 0 0,.d (zl a),.d (u32 s),.d (ints base)] (zC g w tr (.fn C.fid C.caps) (C.rest x)) C.n
   (.d (.bool (zY g w C (f+1) (x,tr) a s base).2)) C.n (zC g w (zY g w C (f+1) (x,tr) a s base).1.2 (.fn C.fid C.caps) (C.rest (zY g w C (f+1) (x,tr) a s base).1.1)) C.mv:=by
 have hr:=C.ok x
 have h2:=hr.two
 have L:0<C.n:=by omega
 have Q:1<C.n:=by omega
 have Hc:0∉C.mv:=λh=>by have:=(C.mvOk 0 h).1;omega
 have Fm:C.n∉C.mv:=λh=>by have:=(C.mvOk _ h).2;omega
 have B3:=C.mvCaps
 have M:¬C.n=0:=by omega
 have O:¬C.n=1:=by omega
 have Z:¬a.length=4:=by omega
 have E:¬(a.length:Int)=4:=by omega
 have L2:zU (f+1)=1+10*zU f:=by rw[zU]
 have Bx:=ZB g.net.final 0 (λq hq=>hg.vJ.ok.2.1 q hq) (by omega)
 have X:=ED ⟨s,hs⟩ ⟨yk g.net.final,Bx⟩
 simp only at X
 unfold zY
 obtain⟨z0,K⟩:∃ z0,qP g w C (x,tr) a s base=z0:=⟨_,rfl⟩
 rw[K]
 obtain⟨⟨x1,tr1⟩,b1⟩:=z0
 refine zaz Tryz.func288 rfl c_288 (by simp[Sym.los,Sym.lo,L]) ?_
 refine zjs mixed 3 {n:=79,next:=C.n,slots:=[(0,.bp 0 0),(1,.d (zl a)),(2,.d (u32 s)),(3,.d (ints base))],own:=zC g w tr1 (.fn C.fid C.caps) (C.rest x1),base:=C.n,moved:=C.mv} (Ay C (k0+1) x1 tr1 b1) rfl ?_ ?_
 .by_cases c0:a.length=0
  .have A:¬(0:Int)<(a.length:Int):=by omega
   unfold qP at K;rw[if_neg (λh=>h.1 (List.length_eq_zero_iff.1 c0))] at K
   cases K;simp+decide[Tryz.f288,yn,zC,zq,Lang.d,int,ints,u32,zl,M,O,Z,E,zm,X,c0];exact⟨⟨rfl,C.mono _ _ hI,ht⟩,hr.qC,L,⟨Q,hr.caps (Nat.le_refl _)⟩,Q,vg hr rfl⟩
  have K1:a≠[]:=by intro h;rw[h] at c0;exact c0 rfl
  have A:(0:Int)<(a.length:Int):=by omega
  have T:0<a.length:=by omega
  by_cases c1:s &&& yk g.net.final=0
  .unfold qP at K
   rw[if_neg (λh=>h.2.1 c1)] at K
   cases K;simp+decide[Tryz.f288,yn,zC,zq,Lang.d,int,ints,u32,zl,M,O,Z,E,zm,X,A,T,c1];exact⟨⟨rfl,C.mono _ _ hI,ht⟩,hr.qC,L,⟨Q,hr.caps (Nat.le_refl _)⟩,Q,vg hr rfl⟩
  by_cases c2:w.length<=base.length
  case neg=>
   unfold qP at K;rw[if_neg (λh=>c2 h.2.2)] at K
   cases K;simp+decide[Tryz.f288,yn,zC,zq,Lang.d,int,ints,u32,zl,M,O,Z,E,zm,X,A,T,c1,c2];exact⟨⟨rfl,C.mono _ _ hI,ht⟩,hr.qC,L,⟨Q,hr.caps (Nat.le_refl _)⟩,Q,vg hr rfl⟩
  unfold qP at K;rw[if_pos ⟨K1,c1,c2⟩] at K;have hF:=Ep g w tr C.n (.fn C.fid C.caps) (C.rest x) hr hg hc base hb hw H1 ht;simp+decide[Tryz.f288,yn,zC,zq,Lang.d,int,ints,u32,zl,M,O,Z,E,zm,X,A,T,c1,c2];refine UZ (n:=C.n) (s:=.d (.bool (vu g w base))) (caps:=[]) (own0:=zC g w tr (.fn C.fid C.caps) (C.rest x)) (own':=zC g w (vK tr base) (.fn C.fid C.caps) (C.rest x)) (by rfl) (by simp[Sym.los,Sym.lo,L]) (by simp) (Zd hr) ?_ (jT hr) trivial ?_ ?_
  .intro i o hm
   obtain⟨l1,l2⟩:=jT hr i o hm;refine⟨l1,l2,?_⟩
   change zc (zC g w tr (.fn C.fid C.caps) (C.rest x)) i=some o
   exact ZZ hr i o hm
  .simpa[zl,ints,int,u32] using hF
  cases W:vu g w base with
  |false=>
   rw[W,if_neg Bool.false_ne_true] at K;cases K;simp+decide[x7,jS hr,L,Q,zC,zq,Lang.d,int,ints,u32,zl,M,O,Z,E,A,T,zm,W];exact⟨⟨rfl,C.mono _ _ hI,JF ht H1⟩,hr.qC,hr.caps (Nat.le_refl _),vg hr rfl⟩
  |true=>
   rw[W,if_pos rfl] at K;simp+decide[x7,jS hr,L,Q,zC,zq,Lang.d,int,ints,u32,zl,M,O,Z,E,A,T,zm,W];have B:=C.ok (C.F x a base).1;have Fn:=(C.call k0 x (vK tr base) a base hI (by unfold zU at hk;omega) (by omega) hb).1
   have Fr:=(C.call k0 x (vK tr base) a base hI (by unfold zU at hk;omega) (by omega) hb).2
   generalize C.F x a base=z at Fn B Fr K;obtain⟨zx,zb⟩:=z;cases K;simp only at Fn B Fr
   refine JE C.mvOk (n:=C.n) (s:=.d (.bool zb)) (caps:=C.caps) (own0:=zC g w (vK tr base) (.fn C.fid C.caps) (C.rest x)) (own':=zC g w (vK tr base) (.fn C.fid C.caps) (C.rest zx)) (by rfl) (by simp[Sym.los,Sym.lo,hr.caps (Nat.le_refl _)]) (by simp) (Zd hr) ?_ (jT B) trivial ?_ (by simp[wL,zS,Hc,B3]) (xC.two hr) ?_
   .intro i o hm
    obtain⟨l1,l2⟩:=jT hr i o hm;refine⟨l1,l2,?_⟩
    change zc (zC g w (vK tr base) (.fn C.fid C.caps) (C.rest x)) i=some o
    exact ZZ hr i o hm
   .simpa[zl,ints,int,u32] using Fn
   cases zb with
   |false=>
    simp+decide[x7,jS hr,L,Q,zC,zq,Lang.d,int,ints,u32,zl,M,O,Z,E,A,T,zm,W];exact⟨B.qC,hr.caps (Nat.le_refl _),vg B rfl⟩
   |true=>
    simp+decide[x7,jS hr,L,Q,zC,zq,Lang.d,int,ints,u32,zl,M,O,Z,E,A,T,zm,W];exact⟨⟨rfl,Fr,JF ht H1⟩,B.qC,B.caps (Nat.le_refl _),vg B rfl⟩
 rintro⟨rfl,K6,Kz⟩
 simp only[yL,Bool.true_eq_false,if_false]
 refine zL mixed ?_
 simp+decide[zC,zq,Lang.d,int,ints,u32,zl,M,O,zm]
 have Fs:=C.ok x1
 refine yU mixed (λk:Nat=>{n:=79,next:=C.n,slots:=[(0,.bp 0 0),(1,.d (zl a)),(2,.d (u32 s)),(3,.d (ints base)),(56,.d (zm g.lex)),(57,.d (int g.lex.length)),(58,.d (int k))],own:=zC g w ((g.lex.take k).foldl (qf g w (λx a s base=>zY g w C f x a s base) a s base) ((x1,tr1),true)).1.2 (.fn C.fid C.caps) (C.rest ((g.lex.take k).foldl (qf g w (λx a s base=>zY g w C f x a s base) a s base) ((x1,tr1),true)).1.1),base:=C.n,moved:=C.mv})
  (λk=>k<=g.lex.length/\((g.lex.take k).foldl (qf g w (λx a s base=>zY g w C f x a s base) a s base) ((x1,tr1),true)).2=true/\C.Inv (k0+1+k*(2*zU f)) ((g.lex.take k).foldl (qf g w (λx a s base=>zY g w C f x a s base) a s base) ((x1,tr1),true)).1.1/\∀ b∈((g.lex.take k).foldl (qf g w (λx a s base=>zY g w C f x a s base) a s base) ((x1,tr1),true)).1.2,yi b) (λk=>g.lex.length-k) 0 ⟨by simp,rfl,by simpa using K6,Kz⟩ ?_ ?_
 .simp+decide[zC,int,ints,u32,zq,Lang.d,zl,zm,M,O]
  exact⟨Fs.qC,by omega,⟨by omega,Fs.caps (Nat.le_refl _)⟩,by omega,vg Fs rfl⟩
 intro k ⟨L3,Hi,Hs,Go⟩
 have G:=Aw (qf g w (λx a s base=>zY g w C f x a s base) a s base) ((x1,tr1),true) g.lex k
 have F0:=Ax (wk:=(λx a s base=>zY g w C f x a s base)) (g:=g) (w:=w) (a:=a) (s:=s) (base:=base) g.lex ((x1,tr1),true) (k+1)
 by_cases H0:k<g.lex.length
 case neg=>
  have B4:k=g.lex.length:=by omega
  have N:¬(k:Int)<(g.lex.length:Int):=by omega
  have Eq:g.lex.take k=g.lex:=by rw[B4,List.take_length]
  rw[Eq] at Hi ⊢;have H:=C.ok (g.lex.foldl (qf g w (λx a s base=>zY g w C f x a s base) a s base) ((x1,tr1),true)).1.1
  have L0:¬g.lex.length<g.lex.length:=by omega
  subst B4;refine zL mixed ?_
  simp+decide[zC,int,ints,u32,zq,Lang.d,zl,zm,M,O];exact⟨Hi,H.qC,by omega,⟨by omega,H.caps (Nat.le_refl _)⟩,by omega,vg H rfl⟩
 have G:=G H0
 have N:(k:Int)<g.lex.length:=by omega
 have H:=C.ok ((g.lex.take k).foldl (qf g w (λx a s base=>zY g w C f x a s base) a s base) ((x1,tr1),true)).1.1
 generalize (g.lex.take k).foldl (qf g w (λx a s base=>zY g w C f x a s base) a s base) ((x1,tr1),true)=z at Hi Hs Go H G
 obtain⟨⟨zx,ztr⟩,zb⟩:=z
 simp only at Hi Hs Go H
 subst Hi
 have he:g.lex[k]∈g.lex:=List.getElem_mem H0
 obtain⟨e,ee⟩:∃ e,g.lex[k]=e:=⟨_,rfl⟩
 have ee1:g.lex[k]?=some e:=by rw[List.getElem?_eq_getElem H0,ee]
 rw[ee] at he G
 have F1:∀ y1,qf g w (λx a s base=>zY g w C f x a s base) a s base (y1,true) e=if yv g.net.steps s e.cls=0 then (y1,true) else stepS g w (λx a s base=>zY g w C f x a s base) e a (yv g.net.steps s e.cls) base y1 e.forms.length:=λy1=>by
  unfold qf;simp only[Bool.true_eq_false,if_false]
 rw[F1] at G
 refine jI mixed 2 {n:=79,next:=C.n,slots:=[(0,.bp 0 0),(1,.d (zl a)),(2,.d (u32 s)),(3,.d (ints base)),(56,.d (zm g.lex)),(57,.d (int g.lex.length)),(58,.d (int k))],own:=zC g w ztr (.fn C.fid C.caps) (C.rest zx),base:=C.n,moved:=C.mv} rfl ?_ ?_
 .simp+decide[yn,qW,zC,int,ints,u32,zq,Lang.d,zl,zm,M,O,N]
  exact⟨H.qC,by omega,⟨by omega,H.caps (Nat.le_refl _)⟩,by omega,vg H rfl⟩
 simp only[yL]
 refine VH (Yo ?_) mixed
 refine zL mixed ?_
 simp+decide[zC,int,ints,u32,zq,Lang.d,zl,zm,Ent.row,M,O,H0,N,ee,ee1,I64]
 have Fd:=Ak g w ztr C.n (.fn C.fid C.caps) (C.rest zx) H hg s hs e.cls
 refine UZ (n:=C.n) (s:=.d (u32 (yv g.net.steps s e.cls))) (caps:=[]) (own0:=zC g w ztr (.fn C.fid C.caps) (C.rest zx)) (own':=zC g w ztr (.fn C.fid C.caps) (C.rest zx)) (by rfl) (by simp[Sym.los,Sym.lo,L]) (by simp) (Zd H) ?_ (jT H) trivial ?_ ?_
 .intro i o hm
  obtain⟨l1,l2⟩:=jT H i o hm;refine⟨l1,l2,?_⟩
  change zc ((C.n,_)::zC g w ztr (.fn C.fid C.caps) (C.rest zx)) i=some o
  simp only[zc];rw[if_neg (by omega)]
  exact ZZ H i o hm
 .simpa[zl,ints,int,u32] using Fd
 have Fk:∀ pre:List (Nat×Obj'),zc (C.rest zx++pre) C.n=zc pre C.n:=λpre=>G0 H (Nat.le_refl _)
 have P:¬0=C.n:=by omega
 have S:¬1=C.n:=by omega
 by_cases hz:yv g.net.steps s e.cls=0
 .rw[if_pos hz] at G
  simp+decide[x7,jS H,L,Q,zC,M,O,P,S,Fk,zq,Lang.d,int,ints,u32,zl,zm,Ent.row,hz,I64];have D0:C.Inv (k0+1+(k+1)*(2*zU f)) zx:=by
   have:=uW C Hs (2*zU f)
   rwa [Nat.add_mul,Nat.one_mul,<-Nat.add_assoc]
  have D4:=hg.small.few;refine⟨⟨by omega,by omega⟩,k+1,⟨H0,by rw[G],by rw[G];exact D0,by rw[G];exact Go⟩,by omega,?_⟩
  rw[G];exact⟨H.qC,by omega,H.caps (Nat.le_refl _),rfl,QO H (Nat.le_refl _) (Nat.le_refl _) rfl⟩
 rw[if_neg hz] at G
 simp+decide[x7,jS H,L,Q,zC,M,O,P,S,Fk,zq,Lang.d,int,ints,u32,zl,zm,Ent.row,hz,I64]
 have L4:(k+1)*(2*zU f)<=5*(2*zU f):=Nat.mul_le_mul_right _ (by have:=hg.small.few;omega)
 have L1:(k+1)*(2*zU f)=k*(2*zU f)+2*zU f:=by rw[Nat.add_mul,Nat.one_mul]
 have Bg:yv g.net.steps s e.cls<8:=by
  have Y:=hg.vJ.ok.1;exact KF (λq hq=>⟨⟨(Y q hq).1.1,by have:=(Y q hq).1.2;omega⟩,(Y q hq).2.1,by have:=(Y q hq).2.2;omega⟩) s e.cls
 have V:=Ar g hg hc w hw C f hW e he (k0+1+k*(2*zU f)) zx ztr a (yv g.net.steps s e.cls) base Hs (by omega) Go hl Bg hb H1
 have J:=EF hg hw hW he (b0:=true) (a:=a) (s:=s) Hs (by omega) Go hl Bg H1
 rw[F1,if_neg hz] at J
 generalize stepS g w (λx a s base=>zY g w C f x a s base) e a (yv g.net.steps s e.cls) base (zx,ztr) e.forms.length=z2 at V J G
 obtain⟨⟨z2x,z2t⟩,z2b⟩:=z2
 simp only at V J
 have I:=C.ok z2x
 have B1:∀ pre:List (Nat×Obj'),zc (C.rest z2x++pre) C.n=zc pre C.n:=λpre=>G0 I (Nat.le_refl _)
 refine JE C.mvOk (n:=C.n) (s:=.d (.bool z2b)) (caps:=[]) (own0:=zC g w ztr (.fn C.fid C.caps) (C.rest zx)) (own':=zC g w z2t (.fn C.fid C.caps) (C.rest z2x)) (by rfl) (by simp[Sym.los,Sym.lo,L]) (by simp) (Zd H) ?_ (jT I) trivial ?_ (by simp[wL,zS,Hc,Fm,B3]) (xC.under L (xC.under Q (xC.app (xC.rest H) (xC.cons (by simp[jE,qt,zS]) xC.nil)))) ?_
 .intro i o hm
  obtain⟨l1,l2⟩:=jT H i o hm;refine⟨l1,l2,?_⟩
  change zc (zC g w ztr (.fn C.fid C.caps) (C.rest zx)++[(C.n,_)]) i=some o
  exact EI (ZZ H i o hm)
 .simpa[zl,ints,int,u32,Ent.row] using V
 cases z2b with
 |false=>
  have Bk:=F0 (by rw[G])
  rw[G] at Bk;simp+decide[x7,jS H,EJ H,L,Q,zC,zq,Lang.d,int,ints,u32,zm,Bk];exact⟨I.qC,I.caps (Nat.le_refl _),QO I (Nat.le_refl _) (Nat.le_refl _) rfl⟩
 |true=>
  simp+decide[x7,jS H,EJ H,L,Q,zC,zq,Lang.d,int,ints,u32,zl,zm,Ent.row,M,O,P,S,B1,I64];have D0:C.Inv (k0+1+(k+1)*(2*zU f)) z2x:=by
   have:=J.1
   rwa [L1,<-Nat.add_assoc]
  have D4:=hg.small.few;refine⟨⟨by omega,by omega⟩,k+1,⟨H0,by rw[G],by rw[G];exact D0,by rw[G];exact J.2⟩,by omega,?_⟩
  rw[G];exact⟨I.qC,by omega,I.caps (Nat.le_refl _),rfl,QO I (Nat.le_refl _) (Nat.le_refl _) rfl⟩
end Go.V
namespace Go.V
open Go Go.Proofs
theorem EK(g:Lang)(G:LightF g)(F:LangC g)(w:List Int)(E:w.length<=24){σ:Type}(C:Clo Tryz.prog g w σ):∀ f,WalkC g w C f
 |0=>Au g G F w E C
 |f+1=>by
  have ih:=EK g G F w E C f;exact {call:=λk x tr a s base K J L M hs O H=>Az g G F w E C f ih k x tr a s base K J L M hs O H,inv:=λk x tr a s base K J L M _ O H=>Av G E ih k x tr a s base K J L M O H}
section
variable {σ:Type}
def sF(F:σ->List Prt->List Int->σ×Bool):σ×Bool->List (List Prt×List Int)->σ×Bool
 |z,[]=>z
 |z,(p,b)::r=>if z.2=false then z else sF F (F z.1 p b) r
theorem JG{F:σ->List Prt->List Int->σ×Bool}{z:σ×Bool}(h:z.2=false):∀ l,sF F z l=z
 | []=>rfl
 |(p,b)::r=>by unfold sF;rw[if_pos h]
theorem JH{F:σ->List Prt->List Int->σ×Bool}(z:σ×Bool)(p:List Prt)(b:List Int)(r:List (List Prt×List Int)):sF F z ((p,b)::r)=if z.2=false then z else sF F (F z.1 p b) r:=rfl
theorem G1{F:σ->List Prt->List Int->σ×Bool}:∀ (z:σ×Bool) (l r:List (List Prt×List Int)),sF F z (l++r)=sF F (sF F z l) r
 |z,[],r=>rfl
 |z,(p,b)::l,r=>by
  rw[List.cons_append,JH,JH];by_cases h:z.2=false
  .rw[if_pos h,if_pos h]
   exact(JG h r).symm
  .rw[if_neg h,if_neg h]
   exact G1 _ l r
theorem G2{F:σ->List Prt->List Int->σ×Bool}{α β:Type}{pr:β->σ×Bool}{G:β->α->β}{T:α->List (List Prt×List Int)}:∀ (l:List α) (y:β),(∀ y,∀ e∈l,pr (G y e)=sF F (pr y) (T e))->pr (l.foldl G y)=sF F (pr y) (l.flatMap T)
 | [],y,_=>rfl
 |e::l,y,h=>by
  rw[List.foldl_cons,List.flatMap_cons,G1,<-h y e (List.mem_cons_self ..)];exact G2 l _ λy e H=>h y e (List.mem_cons_of_mem _ H)
variable {P:Program} (g:Lang) (w:List Int) (C:Clo P g w σ)
def vL(z:v6 σ):σ×Bool:=(z.1.1,z.2)
def QP(a:List Prt)(s:Nat)(base:List Int):List (List Prt×List Int):=
 if a≠[]/\s &&& yk g.net.final≠0/\w.length<=base.length/\vu g w base=true then [(a,base)] else []
theorem EL(x:σ×List (List Int))(a:List Prt)(s:Nat)(base:List Int):vL (qP g w C x a s base)=sF C.F (x.1,true) (QP g w a s base):=by
 unfold qP QP
 by_cases h:a≠[]/\s &&& yk g.net.final≠0/\w.length<=base.length
 .rw[if_pos h]
  by_cases H:vu g w base=true
  .rw[if_pos H,if_pos ⟨h.1,h.2.1,h.2.2,H⟩];simp[sF,vL]
  .rw[if_neg H,if_neg (λh'=>H h'.2.2.2)];rfl
 .rw[if_neg h,if_neg (λh'=>h ⟨h'.1,h'.2.1,h'.2.2.1⟩)];rfl
theorem EM:∀ (f:Nat) (x:σ×List (List Int)) (a:List Prt) (s:Nat) (base:List Int),vL (zY g w C f x a s base)=sF C.F (x.1,true) (QP g w a s base++walkT g w f a s base)
 |0,x,a,s,base=>by
  unfold zY walkT;rw[List.append_nil,EL]
 |f+1,x,a,s,base=>by
  rw[G1,<-EL g w C];unfold zY;by_cases h:(qP g w C x a s base).2=false
  .rw[if_pos h,JG (z:=vL (qP g w C x a s base)) h]
  rw[if_neg h];have K:(qP g w C x a s base).2=true:=by simpa using h
  have e0:vL (qP g w C x a s base)=vL (((qP g w C x a s base).1,true):v6 σ):=by unfold vL;rw[K]
  rw[e0];unfold walkT;refine G2 (F:=C.F) (pr:=vL) g.lex _ λy e he=>?_
  unfold qf;by_cases J:y.2=false
  .rw[if_pos J]
   exact(JG (z:=vL y) J _).symm
  rw[if_neg J];by_cases L:yv g.net.steps s e.cls=0
  .rw[if_pos L,if_neg (λh=>h L)];rfl
  rw[if_neg L,if_pos L];have G:y.2=true:=by simpa using J
  have e1:vL y=vL ((y.1,true):v6 σ):=by unfold vL;rw[G]
  rw[e1];unfold stepS;refine G2 (F:=C.F) (pr:=vL) _ _ λz alt ha=>?_
  unfold Ze;by_cases H:z.2=false
  .rw[if_pos H]
   exact(JG (z:=vL z) H _).symm
  rw[if_neg H];split
  .rfl
  have E:z.2=true:=by simpa using H
  have e2:vL z=(z.1.1,true):=by unfold vL;rw[E]
  rw[e2,EM f];unfold QP;have:(a++[(⟨e.id,(alt:Int),0⟩:Prt)])≠[]:=by simp
  simp only[this,ne_eq,not_false_eq_true,true_and]
end
def v7(g:Lang)(w:List Int):List (List Prt):=if w.length=0\/24<w.length then [] else kJ g w 4 []
theorem AA{g:Lang}(H:LightF g){w:List Int}(G:¬w.length=0)(E:w.length<=24){σ:Type}{P:Program}(C:Clo P g w σ)(x:σ):
  vL (zY g w C 4 (x,[]) [] 1 [])=sF C.F (x,true) ((v7 g w).map λb=>(b,zP g.lex b)):=by
 rw[EM]
 have h:=El H E 4 [] rfl (λp K=>by cases K)
 have e1:yB g.net.steps (yG g.lex [])=1:=rfl
 have e2:zP g.lex []=[]:=rfl
 rw[e1,e2] at h
 unfold v7
 rw[if_neg (by omega),<-h]
 unfold QP
 rw[if_neg (λh=>h.1 rfl),List.nil_append]
end Go.V
namespace Go.V
open Go Go.Proofs
theorem EN{w:World}{E:Nat->Prop}{β:Nat->Value}{j:Nat}(hj:β j = .slice none 0 0):∀ {l:List Sym} {i:Nat} {vs:List Value},l[i]?=some .nils->zh w E β l vs->zh w E β (l.set i (.ar j)) vs
 | [],i,vs,hi,_=>by simp at hi
 |s::r,0,vs,hi,h=>by
  simp at hi;subst hi
  simp only[zh,List.set_cons_zero] at h ⊢;obtain⟨v,vs',rfl,H,G⟩:=h;refine⟨v,vs',rfl,?_,G⟩
  simp only[Sm] at H ⊢;rw[H,hj]
 |s::r,i+1,vs,hi,h=>by
  simp only[zh,List.set_cons_succ] at h ⊢;obtain⟨v,vs',rfl,H,G⟩:=h;exact⟨v,vs',rfl,H,EN hj (by simpa using hi) G⟩
theorem EO{m:Nat}{s:Sym}(hs:Sym.lo m s):∀ {l:List Sym} {i:Nat},Sym.los m l->Sym.los m (l.set i s)
 | [],i,h=>by simp
 |x::r,0,h=>by simp only[List.set_cons_zero,Sym.los] at h ⊢;exact⟨hs,h.2⟩
 |x::r,i+1,h=>by simp only[List.set_cons_succ,Sym.los] at h ⊢;exact⟨h.1,EO hs h.2⟩
theorem UI{P:Program}{st:St}{Q:DE->St->Prop}{c:Code}(id i e sz:Nat){T:Nat}{l:List Sym}(K:st.look id=some (.box T l))(hi:l[i]?=some .nils)
  (h:Triple P c Q ((st.new (.arr e sz [])).set id (.box T (l.set i (.ar st.next))))):Triple P c Q st:=by
 intro X w0 β a w J
 have H:=J.Vg e sz
 have E:=(J.obj K).1
 have G:(st.new (.arr e sz [])).look id=some (.box T l):=by
  show zc ((st.next,_)::st.own) id=_
  simp only[zc];rw[if_neg (by omega)]
  exact K
 obtain⟨_,F,b,vs,L,M,O,V,Y⟩:=H.obj G
 refine h X w0 _ a w (H.update G (b:=b) (w':=w) (by simp only at L;rw[L];rfl) M (λ_ _=>rfl) rfl rfl rfl rfl (jg.refl _) ?_ ⟨b,vs,L,M,O,EN (by simp) hi V,Y⟩)
 exact EO (by simp[Sym.lo,St.new]) F
theorem zJ.args{P:Program}{f:Nat}{args args':List Sym}{own:List (Nat×Obj')}{n:Nat}{s:Sym}{nx:Nat}{own':List (Nat×Obj')}{mv:List Nat}
  (H:∀ (w:World) (E:Nat->Prop) (β:Nat->Value) (vs:List Value),zh w E β args' vs->zh w E β args vs) (h:zJ P f args own n s nx own' mv):zJ P f args' own n s nx own' mv:=
 ⟨h.1,λX w0 β w vs hβ G hs=>h.2 X w0 β w vs hβ G (H _ _ _ _ hs)⟩
theorem EP{w:World}{E:Nat->Prop}{β:Nat->Value}{v:Value}(h:Sm w E β .nils v):Sm w E β (.d (.sl [])) v:=by
 simp only[Sm] at h ⊢
 rw[h]
 simp only[R];exact⟨none,0,rfl,by simp,Nat.zero_le _,λ_=>rfl,λh=>absurd rfl h⟩
theorem walk_nil{P:Program}{f:Nat}{a s:Sym}{own:List (Nat×Obj')}{n:Nat}{r:Sym}{nx:Nat}{own':List (Nat×Obj')}{mv:List Nat}
  (h:zJ P f [a,.d (zl []),s,.d (ints [])] own n r nx own' mv):zJ P f [a,.nils,s,.nils] own n r nx own' mv:=by
 refine h.args λw E β vs hs=>?_
 simp only[zh] at hs ⊢
 obtain⟨v1,_,rfl,H,v2,_,rfl,G,v3,_,rfl,F,v4,_,rfl,K,rfl⟩:=hs
 exact⟨v1,_,rfl,H,v2,_,rfl,EP G,v3,_,rfl,F,v4,_,rfl,EP K,rfl⟩
def ja:List Int->Int
 | []=>0
 |x::r=>if x=0 then ja r else x
theorem AB{l:List Int}{k:Nat}(h:k<l.length):ja (l.drop k)=if l[k]=0 then ja (l.drop (k+1)) else l[k]:=by
 rw[List.drop_eq_getElem_cons h];rfl
theorem U2(l:List Int)(F:l.length<2^40):zj Tryz.prog 166 [ints l] (int (ja l)):=by
 refine zn mixed Tryz.func166 rfl c_166 ?_
 simp+decide[Tryz.f166,int,ints]
 refine zr mixed (λk:Nat=>{n:=18,next:=0,slots:=[(3,.d (int 0)),(6,.d (ints l)),(7,.d (int l.length)),(8,.d (int k))],own:=[]})
  (λk=>k<=l.length/\ja (l.drop k)=ja l) (λk=>l.length-k) 0 (by simp) (by simp+decide[int,ints]) ?_
 intro k ⟨E,K⟩
 by_cases H:k<l.length
 case neg=>
  have:k=l.length:=by omega
  subst this;rw[List.drop_length] at K;simp+decide[int,ints,<-K,ja]
 have G:(k:Int)<l.length:=by omega
 rw[AB H] at K
 obtain⟨x,ex⟩:∃ x,l[k]=x:=⟨_,rfl⟩
 have e1:l[k]?=some x:=by rw[List.getElem?_eq_getElem H,ex]
 rw[ex] at K
 by_cases J:x=0
 .rw[if_pos J] at K
  simp+decide[int,ints,H,G,e1,ex,J,I64];exact⟨⟨by omega,by omega⟩,k+1,⟨H,K⟩,by omega,by omega⟩
 .rw[if_neg J] at K
  simp+decide[int,ints,H,G,e1,ex,J,I64,<-K]
def kL(a b:Prt):Int:=ja [xK a.entry b.entry,xK a.alt b.alt,xK a.sense b.sense]
theorem Y0{a b:Int}:xK a b=0↔a=b:=by unfold xK;split;omega;split <;> omega
theorem G3{a b:Int}:xK a b<0↔a<b:=by unfold xK;split;omega;split <;> omega
theorem ER{a b:Prt}:kL a b=0↔a=b:=by
 unfold kL ja ja ja ja
 constructor
 .intro h
  split at h
  .rename_i H
   split at h
   .rename_i G
    split at h
    .rename_i h3
     obtain⟨a1,a2,a3⟩:=a;obtain⟨b1,b2,b3⟩:=b;rw[Y0] at H G h3;simp only at H G h3
     rw[H,G,h3]
    .contradiction
   .contradiction
  .contradiction
 .intro h
  subst h;simp[xK]
theorem AC{a b:Prt}:decide (kL a b<0)=qw a b:=by
 unfold kL ja ja ja ja qw
 by_cases H:a.entry=b.entry
 .rw[if_pos (Y0.2 H),if_pos H]
  by_cases G:a.alt=b.alt
  .rw[if_pos (Y0.2 G),if_pos G]
   by_cases F:a.sense=b.sense
   .rw[if_pos (Y0.2 F)];simp[F]
   .rw[if_neg (λh=>F (Y0.1 h))];simp[G3]
  .rw[if_neg (λh=>G (Y0.1 h)),if_neg G];simp[G3]
 .rw[if_neg (λh=>H (Y0.1 h)),if_neg H];simp[G3]
theorem AE(a b:Prt):zj Tryz.prog 286 [.agg a.row,.agg b.row] (int (kL a b)):=by
 have H:=gI a.entry b.entry
 have G:=gI a.alt b.alt
 have F:=gI a.sense b.sense
 have E:=U2 [xK a.entry b.entry,xK a.alt b.alt,xK a.sense b.sense] (by simp)
 refine zn mixed Tryz.func286 rfl c_286 ?_
 simp+decide[Tryz.f286,int,Prt.row]
 refine scp H ?_
 simp+decide[int,Prt.row]
 refine scp G ?_
 simp+decide[int,Prt.row]
 refine scp F ?_
 simp+decide[int,Prt.row]
 refine scp E ?_
 simp+decide[int,Prt.row,kL]
def kM:List Prt->List Prt->Int
 | [],[]=>0
 | [],_::_=>-1
 |_::_,[]=>1
 |a::l,b::m=>if kL a b=0 then kM l m else kL a b
theorem ES:∀ {a b:List Prt},decide (kM a b<0)=ya a b
 | [],[]=>rfl
 | [],_::_=>rfl
 |_::_,[]=>rfl
 |a::l,b::m=>by
  unfold kM ya;by_cases h:a=b
  .rw[if_pos (ER.2 h),if_pos h];exact ES
  .rw[if_neg (λH=>h (ER.1 H)),if_neg h];exact AC
theorem AG{a b:List Prt}{k:Nat}(h:k<a.length)(H:k<b.length):kM (a.drop k) (b.drop k)=if kL a[k] b[k]=0 then kM (a.drop (k+1)) (b.drop (k+1)) else kL a[k] b[k]:=by
 rw[List.drop_eq_getElem_cons h,List.drop_eq_getElem_cons H];rfl
theorem AH(a b:List Prt)(M:a.length<2^40)(O:b.length<2^40):
  zj Tryz.prog 285 [zl a,zl b,.fn 286 []] (int (kM a b)):=by
 refine zn mixed Tryz.func285 rfl c_285 ?_
 simp+decide[Tryz.f285,int,zl]
 refine zr mixed (λk:Nat=>{n:=39,next:=0,slots:=[(0,.d (zl a)),(1,.d (zl b)),(2,.d (.fn 286 [])),(11,.d (zl a)),(12,.d (int a.length)),(13,.d (int k))],own:=[]})
  (λk=>k<=a.length/\k<=b.length/\kM (a.drop k) (b.drop k)=kM a b) (λk=>a.length-k) 0 (by simp) (by simp+decide[int,zl]) ?_
 intro k ⟨Q,L,T⟩
 by_cases G:k<a.length
 case neg=>
  have:k=a.length:=by omega
  subst this;rw[List.drop_length] at T;by_cases J:a.length<b.length
  .have K:(a.length:Int)<b.length:=by omega
   rw[List.drop_eq_getElem_cons J] at T;simp+decide[int,zl,K,<-T,kM]
  .have K:¬(a.length:Int)<b.length:=by omega
   rw[show a.length=b.length by omega,List.drop_length] at T
   simp+decide[int,zl,K,<-T,kM]
 have F:(k:Int)<a.length:=by omega
 obtain⟨x,ex⟩:∃ x,a[k]=x:=⟨_,rfl⟩
 have e1:a[k]?=some x:=by rw[List.getElem?_eq_getElem G,ex]
 by_cases E:k<b.length
 case neg=>
  have H:(b.length:Int)<=k:=by omega
  have:b.drop k=[]:=List.drop_eq_nil_of_le (by omega)
  rw[this,List.drop_eq_getElem_cons G] at T;simp+decide[int,zl,Prt.row,G,F,e1,ex,H,<-T,kM,I64]
 have H:¬(b.length:Int)<=k:=by omega
 obtain⟨y,ey⟩:∃ y,b[k]=y:=⟨_,rfl⟩
 have e2:b[k]?=some y:=by rw[List.getElem?_eq_getElem E,ey]
 rw[AG G E,ex,ey] at T
 simp+decide[int,zl,Prt.row,G,F,E,e1,ex,e2,ey,H,I64]
 refine zg (AE x y) ?_
 by_cases V:kL x y=0
 .rw[if_pos V] at T
  simp+decide[int,zl,Prt.row,V,I64];exact⟨⟨by omega,by omega⟩,k+1,⟨G,E,T⟩,by omega,by omega⟩
 .rw[if_neg V] at T
  simp+decide[int,zl,Prt.row,V,I64,<-T]
theorem AI(a b:List Prt)(H:a.length<2^40)(G:b.length<2^40):zj Tryz.prog 270 [zM a,zM b] (.bool (ya a b)):=by
 refine zn mixed Tryz.func270 rfl c_270 ?_
 simp+decide[Tryz.f270,zM,zl]
 refine zg (AH a b H G) ?_
 simp+decide[int]
 exact ES
theorem AK(inv:List Phon)(s:Int):zj Tryz.prog 283 [int s,.ptr [zI inv]] (.bool (!yS inv s)):=by
 refine zn mixed Tryz.func283 rfl c_283 ?_
 simp+decide[Tryz.f283,int]
 refine zg (Ds inv s) ?_
 simp+decide[int]
def qD(inv:List Phon)(w:List Int):Int:=match w.findIdx? (λs=>!yS inv s) with
 |some k=>k
 |none=>-1
theorem AL(inv:List Phon)(w:List Int)(F:w.length<2^40):zj Tryz.prog 292 [ints w,.fn 283 [.ptr [zI inv]]] (int (qD inv w)):=by
 refine zn mixed Tryz.func292 rfl c_292 ?_
 simp+decide[Tryz.f292,ints]
 refine zr mixed (λk:Nat=>{n:=19,next:=0,slots:=[(0,.d (ints w)),(1,.d (.fn 283 [.ptr [zI inv]])),(6,.d (ints w)),(7,.d (.int .i64 w.length)),(8,.d (.int .i64 k))],own:=[]})
  (λk=>k<=w.length/\∀ e∈w.take k,yS inv e=true) (λk=>w.length-k) 0 (by simp) (by simp[ints]) ?_
 intro k ⟨E,K⟩
 by_cases H:k<w.length
 .have G:(k:Int)<w.length:=by omega
  obtain⟨e,ee⟩:∃ e,w[k]=e:=⟨_,rfl⟩;have e1:w[k]?=some e:=by rw[List.getElem?_eq_getElem H,ee]
  simp+decide[ints,int,e1,ee,H,G,I64];refine zg (AK inv e) ?_
  cases J:yS inv e with
  |false=>
   have:w.findIdx? (λs=>!yS inv s)=some k:=by
    rw[List.findIdx?_eq_some_iff_getElem];refine⟨H,by rw[ee,J];rfl,λj hj=>?_⟩
    have:=K w[j] (by rw[List.mem_take_iff_getElem];exact⟨j,by omega,rfl⟩)
    rw[this];decide
   simp+decide[ints,int,J,I64,qD,this]
  |true=>
   simp+decide[ints,int,J,I64];refine⟨⟨by omega,by omega⟩,k+1,⟨H,?_⟩,by omega,by omega⟩
   intro x L;rw[List.take_succ_eq_append_getElem H] at L;rcases List.mem_append.1 L with h | h
   .exact K x h
   .rw[List.mem_singleton] at h;rw[h,ee];exact J
 .have:k=w.length:=by omega
  subst this;have:w.findIdx? (λs=>!yS inv s)=none:=by
   rw[List.findIdx?_eq_none_iff];intro x L;rw[K x (by simpa using L)];rfl
  simp+decide[ints,int,qD,this]
theorem AN(inv:List Phon)(w:List Int)(E:w.length<2^40):zj Tryz.prog 268 [.agg [zI inv],ints w] (int (vG inv w)):=by
 have K:=AL inv w E
 refine zn mixed Tryz.func268 rfl c_268 ?_
 obtain⟨R,J⟩:∃ R,vG inv w=R:=⟨_,rfl⟩
 rw[J]
 unfold vG at J
 have L:zj Tryz.prog 282 [ints w,.fn 283 [.ptr [zI inv]]] (.bool (decide (0<=qD inv w))):=by
  refine zn mixed Tryz.func282 rfl c_282 ?_
  simp+decide[Tryz.f282,ints];refine zg K ?_
  simp+decide[int]
 by_cases M:w.length=0
 .rw[if_pos M] at J
  subst J;have G:(w.length:Int)=0:=by omega
  simp+decide[Tryz.f268,int,ints,M,G];done
 rw[if_neg M] at J
 have G:¬(w.length:Int)=0:=by omega
 by_cases O:24<w.length
 .rw[if_pos O] at J
  subst J;have F:(24:Int)<w.length:=by omega
  simp+decide[Tryz.f268,int,ints,M,G,O,F];done
 rw[if_neg O] at J
 have F:¬(24:Int)<w.length:=by omega
 simp+decide[Tryz.f268,int,ints,M,G,O,F]
 refine zg L ?_
 by_cases H:(w.all λx=>yS inv x)=true
 .rw[if_pos H] at J
  have Q:qD inv w = -1:=by
   unfold qD;have:w.findIdx? (λs=>!yS inv s)=none:=by
    rw[List.findIdx?_eq_none_iff];intro x T;rw[List.all_eq_true.1 H x T];rfl
   rw[this]
  simp+decide[int,Q,<-J]
 .rw[if_neg H] at J
  have Q:0<=qD inv w:=by
   unfold qD;cases h:w.findIdx? (λs=>!yS inv s) with
   |none=>
    rw[List.findIdx?_eq_none_iff] at h;exact absurd (List.all_eq_true.2 λx T=>by simpa using h x T) H
   |some k=>simp
  simp+decide[int,Q,<-J]
def qQ{α:Type}(lt:α->Bool)(l:List α):Nat->Nat
 |0=>0
 |i+1=>match l[i]? with
  |some y=>if lt y=true then qQ lt l i else i+1
  |none=>i+1
theorem G4{α:Type}(lt:α->Bool)(l:List α):∀ i,qQ lt l i<=i
 |0=>Nat.le_refl _
 |i+1=>by
  unfold qQ;split
  .split
   .exact Nat.le_succ_of_le (G4 lt l i)
   .exact Nat.le_refl _
  .exact Nat.le_refl _
def insL{α:Type}(lt:α->Bool)(x:α)(l:List α):List α:=l.take (qQ lt l l.length)++x::l.drop (qQ lt l l.length)
def Y1(R:List (List D))(nr:List D)(p L:Nat):List (List D):=
 (R++[nr]).take (p+1)++(((((R++[nr]).drop p).take (L+1-p)).take (L-p))++(R++[nr]).drop (p+1+min (L-p) (L+1-p)))
theorem AO(R:List (List D))(nr:List D){p L:Nat}(H:R.length=L)(G:p<L):Y1 R nr p L=(R++[nr]).take (p+1)++R.drop p:=by
 subst H
 unfold Y1
 have F:(R++[nr]).drop (p+1+min (R.length-p) (R.length+1-p))=[]:=by
  refine List.drop_eq_nil_of_le ?_
  simp;omega
 have E:((R++[nr]).drop p).take (R.length-p)=R.drop p:=by
  rw[List.drop_append_of_le_length (by omega),List.take_append_of_le_length (by simp),List.take_of_length_le (by simp)]
 rw[F,List.append_nil,List.take_take,show min (R.length-p) (R.length+1-p)=R.length-p by omega,E]
theorem ET{R:List (List D)}(E:∀ r∈R,r.length=1){nr:List D}(K:nr.length=1)(x:D){p L:Nat}(J:R.length=L)(M:p<L):
  (∀ r∈((R++[nr]).drop p).take (L+1-p),r.length=1)/\1<=((Y1 R nr p L)[p]?.getD []).length /\
   (Y1 R nr p L).set p (x::((Y1 R nr p L)[p]?.getD []).tail)=R.take p++[x]::R.drop p:=by
 have H:∀ r∈R++[nr],r.length=1:=by
  intro r h;rcases List.mem_append.1 h with h | h
  .exact E r h
  .rw[List.mem_singleton.1 h];exact K
 refine⟨λr h=>H r (List.mem_of_mem_drop (List.mem_of_mem_take h)),?_⟩
 rw[AO R nr J M]
 have O:((R++[nr]).take (p+1)).length=p+1:=by rw[List.length_take];simp;omega
 have F:p<((R++[nr]).take (p+1)++R.drop p).length:=by rw[List.length_append];omega
 have Q:((R++[nr]).take (p+1)++R.drop p)[p]?.getD []=R[p]:=by
  rw[List.getElem?_append_left (by omega),List.getElem?_take,if_pos (by omega),List.getElem?_append_left (by omega),List.getElem?_eq_getElem (by omega)];rfl
 rw[Q]
 have G:=E R[p] (List.getElem_mem (by omega))
 refine⟨by omega,?_⟩
 have T:(R[p]).tail=[]:=by
  cases h:R[p] with
  |nil=>rfl
  |cons a l=>rw[h] at G;simp at G;exact G
 rw[T,List.set_append_left _ _ (by omega),List.take_append_of_le_length (by omega),List.take_succ_eq_append_getElem (by omega),List.set_append_right _ _ (by simp;omega)]
 simp
 rw[show p-min p R.length=0 by omega];rfl
noncomputable instance decBytes(k:ByteArray)(l:List ByteArray):Decidable (k∈l):=Classical.propDecidable _
abbrev JI:=List ByteArray×List (List Int)
noncomputable def kN(x:JI)(_:List Prt)(base:List Int):JI×Bool:=(if keyS base∈x.1 then x else (x.1++[keyS base],insL (λo=>J1 base o) base x.2),true)
theorem Zf{α:Type}{lt:α->Bool}{x y:α}{l:List α}:y∈insL lt x l↔y=x\/y∈l:=by
 unfold insL
 rw[List.mem_append,List.mem_cons]
 constructor
 .rintro(h | h | h)
  .exact .inr (List.mem_of_mem_take h)
  .exact .inl h
  .exact .inr (List.mem_of_mem_drop h)
 .rintro(h | h)
  .exact .inr (.inl h)
  .rw[<-List.take_append_drop (qQ lt l l.length) l] at h
   rcases List.mem_append.1 h with h | h
   .exact .inl h
   .exact .inr (.inr h)
theorem QQ{α:Type}{lt:α->Bool}{x:α}{l:List α}:(insL lt x l).length=l.length+1:=by
 have:=G4 lt l l.length
 unfold insL
 rw[List.length_append,List.length_take,List.length_cons,List.length_drop]
 omega
noncomputable def JJ(g:Lang)(w:List Int):List (List Int):=(sF kN (([],[]),true) ((v7 g w).map λb=>(b,zP g.lex b))).1.2
end Go.V

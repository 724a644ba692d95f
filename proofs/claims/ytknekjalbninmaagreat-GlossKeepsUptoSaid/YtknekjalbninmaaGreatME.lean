/- Contracts and plain laws of this seat: part ME. It needs no conditions. -/
import Derived.Test.YtknekjalbninmaaGreatMD
import Derived.Test.YtknekjalbninmaaGreatMA
import Derived.Test.YtknekjalbninmaaGreatB1
import Derived.Test.YtknekjalbninmaaGreatMB
import Derived.Test.YtknekjalbninmaaGreatW1
set_option maxHeartbeats 32000000
set_option linter.unusedVariables false
set_option linter.unusedSimpArgs false
set_option linter.unusedSectionVars false
set_option maxRecDepth 100000
namespace Go.V
open Go Go.Proofs
abbrev ZY:=List (List Prt)×Bool
def Az(x:ZY)(a:List Prt):ZY×Bool:=if x.1.length=200 then ((x.1,true),false) else ((insL (λo=>YZ a o) a x.1,x.2),true)
end Go.V
namespace Go.V
open Go Go.Proofs
section
variable {σ α:Type}
def BO(G:σ->α->σ×Bool):σ×Bool->List α->σ×Bool
 |z,[]=>z
 |z,a::r=>if z.2=false then z else BO G (G z.1 a) r
end
def BP(g:Lang):Nat->List Prt->Nat->List (List Prt)
 |0,p,_=>[p]
 |f+1,p,i=>(List.range (jB g.lex (p.getD i ⟨0,0,0⟩).entry).length).flatMap λ(k:Nat)=>BP g f (p.set i ⟨(p.getD i ⟨0,0,0⟩).entry,(p.getD i ⟨0,0,0⟩).alt,k⟩) (i+1)
end Go.V
namespace Go.V
open Go Go.Proofs
def AA(g:Lang)(x:ZY)(a:List Prt)(_:List Int):ZY×Bool:=BO Az (x,true) (BP g a.length a 0)
def BQ(g:Lang)(w:List Int):ZY:=(sF (AA g) (([],false),true) ((Ax g w).map λb=>(b,xM g.lex b))).1
def BR(g:Lang)(w:List Int):List (List Prt)×Int:=if kK g.inv w≠0 then ([],kK g.inv w) else if (BQ g w).2=true then ([],11) else ((BQ g w).1,0)
end Go.V
namespace Go.V
open Go Go.Proofs
section
variable {α:Type}
end
def bare(a:List Prt):List Prt:=a.map λp=>⟨p.entry,p.alt,0⟩
end Go.V
namespace Go.V
open Go Go.Proofs
def qL(n:Int):Prop:=(Lit.int .i64 n).wf=true
def BS(l:List Int):Prop:=l.length<=maxLen/\∀ n∈l,qL n
theorem AB{d:D}(h:yz d (.sl [.int .i64])):∃ l,d=ints l/\BS l:=by
 obtain⟨xs,rfl,H,h2⟩:=yz.YX (row:=λn:Int=>[D.int .i64 n]) (good:=qL) (λr G=>by
  obtain⟨d,r,rfl,H,h2⟩:=G.zN;obtain⟨n,rfl,F⟩:=H.xd;obtain rfl:=h2.qT;exact⟨n,rfl,F⟩) h
 exact⟨xs,rfl,H,h2⟩
def Prt.ok(p:Prt):Prop:=qL p.entry/\qL p.alt/\qL p.sense
abbrev Vx:List Sh:=[.int .i64,.int .i64,.int .i64]
def BU(l:List Prt):Prop:=l.length<=maxLen/\∀ x∈l,x.ok
theorem AE{d:D}(h:yz d (.sl Vx)):∃ l,d=y9 l/\BU l:=by
 obtain⟨xs,rfl,H,h2⟩:=yz.YX (row:=Prt.row) (good:=Prt.ok) (λr G=>by
  obtain⟨_,_,rfl,g1,r1⟩:=G.zN;obtain⟨_,_,rfl,g2,r2⟩:=r1.zN;obtain⟨_,_,rfl,g3,r3⟩:=r2.zN;obtain rfl:=r3.qT;obtain⟨a,rfl,wa⟩:=g1.xd;obtain⟨b,rfl,wb⟩:=g2.xd;obtain⟨c,rfl,wc⟩:=g3.xd;exact⟨⟨a,b,c⟩,rfl,wa,wb,wc⟩) h
 exact⟨xs,rfl,H,h2⟩
theorem AG{l:List D}(h:zO l [.sl Vx]):∃ a,D.agg l=yI a/\BU a:=by
 obtain⟨_,_,rfl,g1,r1⟩:=h.zN
 obtain rfl:=r1.qT
 obtain⟨a,rfl,H⟩:=AE g1
 exact⟨a,rfl,H⟩
theorem w8{α:Type}{M:Nat}{row:α->List D}:∀ {l:List α},uF M (l.map row)->∀ x∈l,Caps M (row x)
 | [],_,x,H=>by cases H
 |a::l,h,x,H=>by
  simp only[List.map_cons,uF] at h;rcases List.mem_cons.1 H with e | e
  .rw[e];exact h.1
  .exact w8 h.2 x e
theorem jl{α:Type}{row:α->List D}{shs:List Sh}{d:D}(h:∀ r,zO r shs->∃ x,r=row x)(H:yz d (.sl shs)):∃ xs:List α,d = .sl (xs.map row):=by
 obtain⟨xs,e,_,_⟩:=yz.YX (row:=row) (good:=λ_=>True) (λr G=>by obtain⟨x,e⟩:=h r G;exact⟨x,e,trivial⟩) H
 exact⟨xs,e⟩
theorem AH{r:List D}(h:zO r [.int .i64]):∃ n:Int,r=[int n]:=by
 obtain⟨_,_,rfl,g1,r1⟩:=h.zN
 obtain rfl:=r1.qT
 obtain⟨a,rfl,_⟩:=g1.xd
 exact⟨a,rfl⟩
theorem ZZ{d:D}(h:yz d (.sl [.int .i64])):∃ l,d=ints l:=jl (row:=λn:Int=>[int n]) (λr H=>AH H) h
theorem AI{r:List D}(h:zO r [.str,.int .i64]):∃ p:Phon,r=p.row:=by
 obtain⟨_,_,rfl,g1,r1⟩:=h.zN
 obtain⟨_,_,rfl,g2,r2⟩:=r1.zN
 obtain rfl:=r2.qT
 obtain⟨a,rfl,_⟩:=g1.uA
 obtain⟨b,rfl,_⟩:=g2.xd
 exact⟨⟨a,b⟩,rfl⟩
theorem AK{r:List D}(h:zO r [.str,.sl [.int .i64]]):∃ p:Grap,r=p.row:=by
 obtain⟨_,_,rfl,g1,r1⟩:=h.zN
 obtain⟨_,_,rfl,g2,r2⟩:=r1.zN
 obtain rfl:=r2.qT
 obtain⟨a,rfl,_⟩:=g1.uA
 obtain⟨b,rfl⟩:=ZZ g2
 exact⟨⟨a,b⟩,rfl⟩
theorem BV{r:List D}(h:zO r [.str]):∃ s:ByteArray,r=[.str s]:=by
 obtain⟨_,_,rfl,g1,r1⟩:=h.zN
 obtain rfl:=r1.qT
 obtain⟨a,rfl,_⟩:=g1.uA
 exact⟨a,rfl⟩
theorem AL{r:List D}(h:zO r [.sl [.str]]):∃ l:List ByteArray,r=[.sl (l.map λs=>[.str s])]:=by
 obtain⟨_,_,rfl,g1,r1⟩:=h.zN
 obtain rfl:=r1.qT
 obtain⟨l,rfl⟩:=jl (row:=λs:ByteArray=>[D.str s]) (λr H=>BV H) g1
 exact⟨l,rfl⟩
theorem Vy{r:List D}(h:zO r [.int .i64,.int .i64]):∃ a b:Int,r=[int a,int b]:=by
 obtain⟨_,_,rfl,g1,r1⟩:=h.zN
 obtain⟨_,_,rfl,g2,r2⟩:=r1.zN
 obtain rfl:=r2.qT
 obtain⟨a,rfl,_⟩:=g1.xd
 obtain⟨b,rfl,_⟩:=g2.xd
 exact⟨a,b,rfl⟩
theorem BW{d:D}(h:yz d (.sl [.int .i64,.int .i64])):∃ l,d=j4 l:=jl (row:=Cls.row) (λr H=>by obtain⟨a,b,rfl⟩:=Vy H;exact⟨⟨a,b⟩,rfl⟩) h
theorem AN{r:List D}(h:zO r [.sl [.int .i64],.sl [.int .i64],.sl [.int .i64,.int .i64],.sl [.int .i64,.int .i64],.bool,.bool]):∃ x:Rule,r=x.row:=by
 obtain⟨_,_,rfl,g1,r1⟩:=h.zN
 obtain⟨_,_,rfl,g2,r2⟩:=r1.zN
 obtain⟨_,_,rfl,g3,r3⟩:=r2.zN
 obtain⟨_,_,rfl,g4,r4⟩:=r3.zN
 obtain⟨_,_,rfl,g5,r5⟩:=r4.zN
 obtain⟨_,_,rfl,g6,r6⟩:=r5.zN
 obtain rfl:=r6.qT
 obtain⟨a,rfl⟩:=ZZ g1
 obtain⟨b,rfl⟩:=ZZ g2
 obtain⟨c,rfl⟩:=BW g3
 obtain⟨d,rfl⟩:=BW g4
 obtain⟨e,rfl⟩:=g5.FM
 obtain⟨f,rfl⟩:=g6.FM
 exact⟨⟨a,b,c,d,e,f⟩,rfl⟩
theorem AO{r:List D}(h:zO r [.int .i64,.int .i64,.int .i64]):∃ x:Stp,r=x.row:=by
 obtain⟨_,_,rfl,g1,r1⟩:=h.zN
 obtain⟨a,b,rfl⟩:=Vy r1
 obtain⟨c,rfl,_⟩:=g1.xd
 exact⟨⟨c,a,b⟩,rfl⟩
theorem AP{r:List D}(h:zO r [.str,.str]):∃ x:Sens,r=x.row:=by
 obtain⟨_,_,rfl,g1,r1⟩:=h.zN
 obtain⟨b,rfl⟩:=BV r1
 obtain⟨a,rfl,_⟩:=g1.uA
 exact⟨⟨a,b⟩,rfl⟩
theorem AQ{d:D}(h:yz d (.sl [.sl [.int .i64]])):∃ l,d=xq l:=jl (row:=λa:List Int=>[ints a]) (λr H=>by
 obtain⟨_,_,rfl,g1,r1⟩:=H.zN
 obtain rfl:=r1.qT
 obtain⟨a,rfl⟩:=ZZ g1
 exact⟨a,rfl⟩) h
abbrev BX:List Sh:=[.int .i64,.sl [.int .i64],.int .i64,.sl [.sl [.int .i64]],.int .i64,.sl [.str,.str],.sl [.int .i64,.int .i64],.sl [.int .i64,.int .i64]]
theorem AS{r:List D}(h:zO r BX):∃ x:Ent,r=x.row:=by
 obtain⟨_,_,rfl,g1,r1⟩:=h.zN
 obtain⟨_,_,rfl,g2,r2⟩:=r1.zN
 obtain⟨_,_,rfl,g3,r3⟩:=r2.zN
 obtain⟨_,_,rfl,g4,r4⟩:=r3.zN
 obtain⟨_,_,rfl,g5,r5⟩:=r4.zN
 obtain⟨_,_,rfl,g6,r6⟩:=r5.zN
 obtain⟨_,_,rfl,g7,r7⟩:=r6.zN
 obtain⟨_,_,rfl,g8,r8⟩:=r7.zN
 obtain rfl:=r8.qT
 obtain⟨a,rfl,_⟩:=g1.xd
 obtain⟨b,rfl⟩:=ZZ g2
 obtain⟨c,rfl,_⟩:=g3.xd
 obtain⟨d,rfl⟩:=AQ g4
 obtain⟨e,rfl,_⟩:=g5.xd
 obtain⟨f,rfl⟩:=jl (row:=Sens.row) (λr H=>AP H) g6
 obtain⟨k,rfl⟩:=jl (row:=Lnk.row) (λr H=>by obtain⟨a,b,rfl⟩:=Vy H;exact⟨⟨a,b⟩,rfl⟩) g7
 obtain⟨m,rfl⟩:=jl (row:=Rf.row) (λr H=>by obtain⟨a,b,rfl⟩:=Vy H;exact⟨⟨a,b⟩,rfl⟩) g8
 exact⟨⟨a,b,c,d,e,f,k,m⟩,rfl⟩
abbrev BZ:List Sh:=[.sl [.str,.int .i64],.str,.sl [.str,.sl [.int .i64]],.sl [.sl [.str]],.sl [.sl [.int .i64],.sl [.int .i64],.sl [.int .i64,.int .i64],.sl [.int .i64,.int .i64],.bool,.bool],.int .i64,.sl [.int .i64,.int .i64,.int .i64],.sl [.int .i64],.sl BX]
theorem AU{l:List D}(h:zO l BZ):∃ g:Lang,D.agg l=g.d:=by
 obtain⟨_,_,rfl,g1,r1⟩:=h.zN
 obtain⟨_,_,rfl,g2,r2⟩:=r1.zN
 obtain⟨_,_,rfl,g3,r3⟩:=r2.zN
 obtain⟨_,_,rfl,g4,r4⟩:=r3.zN
 obtain⟨_,_,rfl,g5,r5⟩:=r4.zN
 obtain⟨_,_,rfl,g6,r6⟩:=r5.zN
 obtain⟨_,_,rfl,g7,r7⟩:=r6.zN
 obtain⟨_,_,rfl,g8,r8⟩:=r7.zN
 obtain⟨_,_,rfl,g9,r9⟩:=r8.zN
 obtain rfl:=r9.qT
 obtain⟨a,rfl⟩:=jl (row:=Phon.row) (λr H=>AI H) g1
 obtain⟨b,rfl,_⟩:=g2.uA
 obtain⟨c,rfl⟩:=jl (row:=Grap.row) (λr H=>AK H) g3
 obtain⟨d,rfl⟩:=jl (row:=λr:List ByteArray=>[D.sl (r.map λs=>[.str s])]) (λr H=>AL H) g4
 obtain⟨e,rfl⟩:=jl (row:=Rule.row) (λr H=>AN H) g5
 obtain⟨f,rfl,_⟩:=g6.xd
 obtain⟨k,rfl⟩:=jl (row:=Stp.row) (λr H=>AO H) g7
 obtain⟨m,rfl⟩:=ZZ g8
 obtain⟨n,rfl⟩:=jl (row:=Ent.row) (λr H=>AS H) g9
 exact⟨⟨a,⟨b,c,d⟩,e,⟨f,k,m⟩,n⟩,rfl⟩
theorem AV{g:Lang}(h:qI 1048576 g.d):LangC g:=by
 simp only[Lang.d,qI,Caps,Cap,zF,zG,j3,xC,stepsD,ints,zh,int,List.length_map,and_true] at h
 obtain⟨⟨a1,a2⟩,b1,⟨c1,c2⟩,⟨d1,d2⟩,⟨e1,e2⟩,_,⟨k1,_⟩,⟨m1,_⟩,n1,n2⟩:=h
 refine {inv:=⟨a1,λp hp=>?_⟩,orth:=⟨b1,λu hu=>?_,λL hL=>?_,c1,d1⟩,rules:=⟨e1,λr hr=>?_⟩,steps:=k1,final:=m1,lex:=⟨n1,λe he=>?_⟩}
 .have:=w8 a2 p hp
  simp only[Phon.row,Caps,Cap,int] at this;exact this.1
 .have:=w8 c2 u hu
  simp only[Grap.row,Caps,Cap,int,ints,List.length_map] at this;exact⟨this.1,this.2.1.1⟩
 .have:=w8 d2 L hL
  simp only[Caps,Cap,List.length_map] at this;refine⟨this.1.1,λs hs=>?_⟩
  have:=w8 this.1.2 s hs
  simp only[Caps,Cap] at this;exact this.1
 .have:=w8 e2 r hr
  simp only[Rule.row,Caps,Cap,int,ints,List.length_map] at this;exact⟨this.1.1,this.2.1.1⟩
 .have:=w8 n2 e he
  simp only[Ent.row,Caps,Cap,int,ints,xq,zV,yE,vn,List.length_map] at this;obtain⟨_,⟨f1,_⟩,_,⟨g1,g2⟩,_,⟨s1,s2⟩,⟨l1,_⟩,⟨r1,_⟩,_⟩:=this;refine⟨f1,⟨g1,λw hw=>?_⟩,⟨s1,λs hs=>?_⟩,l1,r1⟩
  .have:=w8 g2 w hw
   simp only[Caps,Cap,List.length_map] at this;exact this.1.1
  .have:=w8 s2 s hs
   simp only[Sens.row,Caps,Cap] at this;exact⟨this.1,this.2.1⟩
theorem AW{l:List Prt}(h:qI 1048576 (yI l)):l.length<=1048576:=by
 simp only[qI,yI,y9,Caps,Cap,List.length_map] at h;exact h.1.1
theorem AX{l:List D}(h:zO l [.sl Vx]):∃ a,D.agg l=yI a:=by obtain⟨a,e,_⟩:=AG h;exact⟨a,e⟩
theorem E0{d:D}(h:yz d (.int .i64)):∃ n,d=int n:=by obtain⟨n,e,_⟩:=h.xd;exact⟨n,e⟩
end Go.V
namespace Go.V
open Go
section
variable {P:Program} {p q:List Nat} {l:List Oper}
variable {st:St}
end
end Go.V
namespace Go.V
open Go
section
variable {P:Program} {ops:Array Oper} {Q:Exit->Act->World->Prop}
end
section
variable {P:Program} {x y:Nat} {l:List Oper}
variable {p q:List Nat} {st:St}
end
end Go.V
namespace Go.V
open Go Go.Proofs
section
variable {P:Program} {st:St} {Q:DE->St->Prop}
end
end Go.V
namespace Go.V
open Go Go.Proofs
def jI(s t:ByteArray):Bool:=decide (t.size<=s.size)&&decide (s.extract 0 t.size=t)
def vS(us:List Grap)(t:ByteArray):Nat->Option Nat
 |0=>none
 |k+1=>match us[k]? with
  |none=>vS us t k
  |some u=>if jI t u.graph=true then (match vS us t k with
    |none=>some k
    |some b=>if ((us[b]?.map λv=>v.graph.size).getD 0)<u.graph.size then some k else some b)
   else vS us t k
def uT:Option Nat->Int
 |none=>-1
 |some b=>b
theorem Ze{us:List Grap}{t:ByteArray}:∀ {k b:Nat},vS us t k=some b->b<k/\b<us.length
 |0,b,h=>by cases h
 |k+1,b,h=>by
  unfold vS at h;split at h
  .exact⟨by have:=(Ze h).1;omega,(Ze h).2⟩
  .rename_i u F
   have H:k<us.length:=(List.getElem?_eq_some_iff.1 F).1
   split at h
   .split at h
    .obtain rfl:=Option.some.inj h;exact⟨by omega,H⟩
    .rename_i b' G
     split at h
     .obtain rfl:=Option.some.inj h;exact⟨by omega,H⟩
     .obtain rfl:=Option.some.inj h
      exact⟨by have:=(Ze G).1;omega,(Ze G).2⟩
   .exact⟨by have:=(Ze h).1;omega,(Ze h).2⟩
def qm(us:List Grap)(s:ByteArray):Nat->Nat->List Nat×Nat
 |0,at_=>([],at_)
 |f+1,at_=>if at_<s.size then (match vS us (s.extract at_ s.size) us.length with
   |none=>([],at_)
   |some b=>(b::(qm us s f (at_+((us[b]?.map λv=>v.graph.size).getD 0))).1,(qm us s f (at_+((us[b]?.map λv=>v.graph.size).getD 0))).2))
  else ([],at_)
def wV(l:List Nat):D:=.sl (l.map λ(n:Nat)=>[int (n:Int)])
theorem E1{us:List Grap}{s:ByteArray}:∀ {f at_:Nat},∀ b∈(qm us s f at_).1,b<us.length
 |0,_,b,h=>by cases h
 |f+1,at_,b,h=>by
  unfold qm at h;split at h
  .split at h
   .cases h
   .rename_i c H
    rcases List.mem_cons.1 h with e | h
    .rw[e];exact(Ze H).2
    .exact E1 b h
  .cases h
theorem E2{us:List Grap}{s:ByteArray}:∀ {f at_:Nat},(qm us s f at_).1.length<=f
 |0,_=>Nat.le_refl _
 |f+1,at_=>by
  unfold qm;split
  .split
   .exact Nat.zero_le _
   .rw[List.length_cons];exact Nat.succ_le_succ E2
  .exact Nat.zero_le _
def jm(us:List Grap)(l:List Nat):List Int:=l.flatMap λb=>(us[b]?.map λv=>v.segs).getD []
def qM(us:List Grap)(s:ByteArray):List Int×Int×Int:=
 if s.size=0 then ([],0,4) else if (qm us s s.size 0).2<s.size then ([],(qm us s s.size 0).2,20) else if 24<(jm us (qm us s s.size 0).1).length then ([],0,5) else (jm us (qm us s s.size 0).1,0,0)
theorem AY{us:List Grap}{l:List Nat}{k b:Nat}{v:Grap}(h:k<l.length)(H:l[k]=b)(G:us[b]?=some v):jm us (l.take (k+1))=jm us (l.take k)++v.segs:=by
 unfold jm
 rw[yr h,List.flatMap_append,List.flatMap_singleton,H,G]
 rfl
theorem E3{us:List Grap}(hs:∀ u∈us,u.segs.length<=1048576):∀ l:List Nat,(jm us l).length<=l.length*1048576
 | []=>by simp[jm]
 |b::l=>by
  have ih:=E3 hs l;unfold jm at ih ⊢;rw[List.flatMap_cons,List.length_append,List.length_cons];have:((us[b]?.map λv=>v.segs).getD []).length<=1048576:=by
   cases h:us[b]? with
   |none=>simp
   |some v=>exact hs v (List.mem_of_getElem? h)
  omega
def uU(us:List Grap):Nat:=us.foldl (λm u=>max m u.graph.size) 0
theorem AZ{us:List Grap}{k:Nat}{u:Grap}(h:k<us.length)(H:us[k]=u):uU (us.take (k+1))=max (uU (us.take k)) u.graph.size:=by
 unfold uU
 rw[yr h,List.foldl_append,H];rfl
theorem zc9(us:List Grap):∀ m,m<=us.foldl (λm u=>max m u.graph.size) m/\∀ u∈us,u.graph.size<=us.foldl (λm u=>max m u.graph.size) m:=by
 induction us with
 |nil=>intro m;exact⟨Nat.le_refl _,λu h=>by cases h⟩
 |cons v us ih=>
  intro m;obtain⟨H,h2⟩:=ih (max m v.graph.size);rw[List.foldl_cons];refine⟨by omega,λu G=>?_⟩
  rcases List.mem_cons.1 G with e | G
  .rw[e];omega
  .exact h2 u G
theorem zgf{us:List Grap}{u:Grap}(h:u∈us):u.graph.size<=uU us:=(zc9 us 0).2 u h
theorem zel{us:List Grap}{c:Nat}(h:∀ u∈us,u.graph.size<=c):∀ m,m<=c->us.foldl (λm u=>max m u.graph.size) m<=c:=by
 induction us with
 |nil=>intro m H;exact H
 |cons v us ih=>
  intro m H;rw[List.foldl_cons];exact ih (λu G=>h u (List.mem_cons_of_mem _ G)) _ (by have:=h v (List.mem_cons_self ..);omega)
theorem zem{s t:ByteArray}{at_:Nat}(h:jI (s.extract at_ s.size) t=true):t.size<=s.size-at_:=by
 unfold jI at h
 rw[Bool.and_eq_true,decide_eq_true_eq] at h
 have:=h.1
 simp at this
 omega
theorem zhm{s:ByteArray}{at_ n:Nat}(h:at_+n<=s.size):(s.extract at_ s.size).extract 0 n=s.extract at_ (at_+n):=by
 rw[ByteArray.extract_extract]
 congr 1
 omega
theorem KL{s t:ByteArray}{at_ n:Nat}(H:t.size=n)(h:at_+n<=s.size):jI (s.extract at_ s.size) t=true↔t=s.extract at_ (at_+n):=by
 unfold jI
 rw[Bool.and_eq_true,decide_eq_true_eq,decide_eq_true_eq,H,zhm h]
 constructor
 .rintro⟨_,e⟩;exact e.symm
 .intro e;exact⟨by rw[ByteArray.size_extract];omega,e.symm⟩
theorem KN{us:List Grap}{t:ByteArray}(h:∀ u∈us,jI t u.graph=false):∀ {k:Nat},vS us t k=none
 |0=>rfl
 |k+1=>by
  rw[vS];cases H:us[k]? with
  |none=>exact KN h
  |some u=>
   simp only
   rw[if_neg (by rw[h u (List.mem_of_getElem? H)];decide)]
   exact KN h
theorem E4{us:List Grap}{t:ByteArray}{i:Nat}{v:Grap}(Q:us[i]?=some v)(T:jI t v.graph=true)(H:∀ u∈us,jI t u.graph=true->u.graph.size<=v.graph.size)
  (G:∀ u∈us.take i,jI t u.graph=true->u.graph.size<v.graph.size):∀ {k:Nat},(k<=i->∀ b,vS us t k=some b->∃ w∈us.take i,us[b]?=some w/\jI t w.graph=true)/\(i<k->vS us t k=some i)
 |0=>⟨(by intro _ b h;cases h),(by intro h;omega)⟩
 |k+1=>by
  obtain⟨V,h2⟩:=E4 Q T H G (k:=k);have O:i<us.length:=(List.getElem?_eq_some_iff.1 Q).1
  constructor
  .intro X b h
   have K:k<us.length:=by omega
   have ek:us[k]?=some us[k]:=List.getElem?_eq_getElem K
   have E:us[k]∈us.take i:=List.mem_iff_getElem.2 ⟨k,by rw[List.length_take];omega,by rw[List.getElem_take]⟩
   rw[vS,ek] at h;simp only at h
   split at h
   .rename_i F
    split at h
    .obtain rfl:=Option.some.inj h;exact⟨_,E,ek,F⟩
    .rename_i b' hb'
     split at h
     .obtain rfl:=Option.some.inj h;exact⟨_,E,ek,F⟩
     .obtain rfl:=Option.some.inj h;exact V (by omega) _ hb'
   .exact V (by omega) b h
  .intro X
   rw[vS];by_cases J:k=i
   .subst J
    rw[Q];simp only
    rw[if_pos T];cases F:vS us t k with
    |none=>rfl
    |some b=>
     simp only
     obtain⟨w,Y,ew,L⟩:=V (Nat.le_refl _) b F;rw[ew,Option.map_some,Option.getD_some,if_pos (G w Y L)]
   .rw[h2 (by omega)]
    cases Z:us[k]? with
    |none=>rfl
    |some u=>
     simp only
     split
     .rename_i M
      rw[Q,if_neg (by have:=H u (List.mem_of_getElem? Z) M;simp;omega)]
     .rfl
theorem zda(o:Orth)(P:OrthC o)(S:∀ u∈o.units,0<u.graph.size)(s:ByteArray)(hs:s.size<2^30):zj Tryz.prog 169 [.agg o.cells,.str s] (.tup [wV (qm o.units s s.size 0).1,int (qm o.units s s.size 0).2]):=by
 refine zn mixed Tryz.func169 rfl c_169 ?_
 have X:=P.few.1
 obtain⟨T,eT⟩:∃ T,qm o.units s s.size 0=T:=⟨_,rfl⟩
 rw[eT]
 simp+decide[Tryz.f169,int,Orth.cells,zG]
 refine x9 mixed (λk:Nat=>{n:=68,next:=2,slots:=[(1,.d (.str s)),(2,.bp 0 0),(6,.d (int (uU (o.units.take k)))),(15,.d (zG o.units)),(16,.d (int o.units.length)),(17,.d (int k))],own:=[(0,.box 28 (o.cells.map .d))]})
  (λk=>k<=o.units.length) (λk=>o.units.length-k) 0 (Nat.zero_le _) ?_ ?_
 .simp+decide[int,zG,Orth.cells,uU]
 intro k W
 refine ya mixed ?_
 by_cases G:k<o.units.length
 case pos=>
  have H:(k:Int)<o.units.length:=by omega
  obtain⟨u,eu⟩:∃ u,o.units[k]=u:=⟨_,rfl⟩;have eu1:o.units[k]?=some u:=by rw[List.getElem?_eq_getElem G,eu]
  have Y:=(P.units o.units[k] (List.getElem_mem G)).1;rw[eu] at Y;have hm:=AZ G eu;simp+decide[int,zG,Orth.cells,G,H,eu,eu1,Grap.row,I64];refine⟨⟨by omega,by omega⟩,k+1,G,by omega,?_,by omega⟩
  rw[hm];split <;> omega
 have:k=o.units.length:=by omega
 subst this
 rw[List.take_length]
 simp+decide[int,zG,Orth.cells]
 have Z:uU o.units<=1048576:=zel (λu hu=>(P.units u hu).1) 0 (by omega)
 have V:=λu=>zgf (us:=o.units) (u:=u)
 generalize uU o.units=most at Z V
 refine x9 mixed (λx:List Nat×Nat=>{n:=68,next:=3,slots:=[(1,.d (.str s)),(2,.bp 0 0),(6,.d (int most)),(9,.ar 2),(10,.d (int x.2))],own:=[(0,.box 28 (o.cells.map .d)),(2,.arr 3 1 (x.1.map λ(n:Nat)=>[int (n:Int)]))],moved:=[2]})
  (λx=>x.2<=s.size/\x.1.length<=x.2/\∃ f,s.size-x.2<=f/\T=(x.1++(qm o.units s f x.2).1,(qm o.units s f x.2).2)) (λx=>s.size-x.2) ([],0) ⟨Nat.zero_le _,Nat.zero_le _,s.size,by omega,by rw[<-eT];rfl⟩ ?_ ?_
 .simp+decide[int,ints,Orth.cells,zG]
 rintro⟨out,at_⟩ ⟨A,B,f,hf,hT⟩
 simp only at A B hf hT
 refine ya mixed ?_
 by_cases G:at_<s.size
 case neg=>
  have hu:qm o.units s f at_=([],at_):=by
   cases f with
   |zero=>rfl
   |succ f=>rw[qm,if_neg G]
  rw[hu,List.append_nil] at hT;subst hT;have H:¬(at_:Int)<s.size:=by omega
  simp+decide[int,ints,Orth.cells,G,H,wV]
 have H:(at_:Int)<s.size:=by omega
 obtain⟨f,rfl⟩:∃ f',f=f'+1:=⟨f-1,by omega⟩
 rw[qm,if_pos G] at hT
 simp+decide[int,ints,Orth.cells,zG,G,H,I64]
 refine⟨by omega,?_⟩
 refine x9 mixed (λn:Nat=>{n:=68,next:=3,slots:=[(1,.d (.str s)),(2,.bp 0 0),(6,.d (int most)),(9,.ar 2),(10,.d (int at_)),(11,.d (int n))],own:=[(0,.box 28 (o.cells.map .d)),(2,.arr 3 1 (out.map λ(n:Nat)=>[int (n:Int)]))],moved:=[2]})
  (λn=>n<=s.size-at_/\∀ u∈o.units,jI (s.extract at_ s.size) u.graph=true->u.graph.size<=n) (λn=>n) (min most (s.size-at_)) ⟨by omega,λu hu hb=>?_⟩ ?_ ?_
 .have h1:=V u hu
  have h2:=(zem hb);omega
 .simp+decide[int,ints,Orth.cells,zG]
  split <;> omega
 intro n ⟨hn,F⟩
 refine ya mixed ?_
 by_cases C:n=0
 .subst C
  have I:vS o.units (s.extract at_ s.size) o.units.length=none:=KN λu hu=>by
   cases hb:jI (s.extract at_ s.size) u.graph with
   |false=>rfl
   |true=>have:=F u hu hb;have:=S u hu;omega
  rw[I] at hT;simp only[List.append_nil] at hT;subst hT;simp+decide[int,ints,Orth.cells,zG,wV]
 have L:(0:Int)<n:=by omega
 have E:0<n:=by omega
 simp+decide[int,ints,Orth.cells,zG,L,E]
 refine x9 mixed (λi:Nat=>{n:=68,next:=3,slots:=[(1,.d (.str s)),(2,.bp 0 0),(6,.d (int most)),(9,.ar 2),(10,.d (int at_)),(11,.d (int n)),(42,.d (zG o.units)),(43,.d (int o.units.length)),(44,.d (int i))],own:=[(0,.box 28 (o.cells.map .d)),(2,.arr 3 1 (out.map λ(n:Nat)=>[int (n:Int)]))],moved:=[2]})
  (λi=>i<=o.units.length/\∀ u∈o.units.take i,u.graph≠s.extract at_ (at_+n)) (λi=>o.units.length-i) 0 ⟨Nat.zero_le _,λu hu=>by simp at hu⟩ ?_ ?_
 .simp+decide[int,ints,Orth.cells,zG]
 intro i ⟨hi,J⟩
 refine ya mixed ?_
 by_cases K:i<o.units.length
 case neg=>
  have:i=o.units.length:=by omega
  subst this;rw[List.take_length] at J;simp+decide[int,ints,Orth.cells,zG,I64];refine⟨by omega,n-1,⟨by omega,λu hu hb=>?_⟩,by omega,by omega⟩
  have h1:=F u hu hb;have h2:u.graph.size≠n:=λe=>J u hu ((KL e (by omega)).1 hb)
  omega
 have M:(i:Int)<o.units.length:=by omega
 obtain⟨u,eu⟩:∃ u,o.units[i]=u:=⟨_,rfl⟩
 have eu1:o.units[i]?=some u:=by rw[List.getElem?_eq_getElem K,eu]
 simp+decide[int,ints,Orth.cells,zG,I64,K,M,eu,eu1,Grap.row]
 have O:((at_:Int)+(n:Int)).toNat=at_+n:=by omega
 rw[O]
 refine⟨by omega,⟨by omega,by omega⟩,λhe=>?_,λhe=>?_⟩
 .have he:u.graph=s.extract at_ (at_+n):=by first | exact bytes_inj he | exact he
  have Q:u.graph.size=n:=by rw[he,ByteArray.size_extract];omega
  have N:=(KL Q (by omega)).2 he
  have hF:=(E4 (k:=o.units.length) eu1 N (λv hv hb=>by rw[Q];exact F v hv hb) (λv hv hb=>by
   have h1:=F v (List.mem_of_mem_take hv) hb;have h2:v.graph.size≠n:=λe=>J v hv ((KL e (by omega)).1 hb)
   omega)).2 K
  rw[hF] at hT;simp only at hT
  rw[eu1,Option.map_some,Option.getD_some,Q] at hT;exact⟨by omega,by unfold maxLen;omega,by omega,out++[i],at_+n,⟨by omega,by simp;omega,f,by omega,by rw[hT,List.append_assoc];rfl⟩,by omega,by omega,by simp⟩
 .refine⟨by omega,i+1,⟨K,λv hv=>?_⟩,by omega,by omega⟩
  rw[yr K,eu] at hv;rcases List.mem_append.1 hv with h | h
  .exact J v h
  .rw[List.mem_singleton] at h
   rw[h];exact λe=>he (by rw[e])
theorem zen(o:Orth)(Y:OrthC o)(Z:∀ u∈o.units,0<u.graph.size)(s:ByteArray)(hs:s.size<=1024):zj Tryz.prog 119 [.agg o.cells,.str s] (.tup [ints (qM o.units s).1,int (qM o.units s).2.1,int (qM o.units s).2.2]):=by
 have A:=zda o Y Z s (by omega)
 have H:=λb=>E1 (us:=o.units) (s:=s) (f:=s.size) (at_:=0) b
 have O:=E2 (us:=o.units) (s:=s) (f:=s.size) (at_:=0)
 refine zn mixed Tryz.func119 rfl c_119 ?_
 unfold qM
 generalize qm o.units s s.size 0=T at A H O
 obtain⟨l,e⟩:=T
 simp only at A H O
 by_cases B:s.size=0
 .have C:s=ByteArray.empty:=ByteArray.ext (Array.eq_empty_of_size_eq_zero (by simpa using B))
  subst C;simp+decide[Tryz.f119,int,ints,Orth.cells]
 rw[if_neg B]
 have C:(s.toList==[] )=false:=by
  rw[beq_eq_false_iff_ne];intro e;have:s=ByteArray.empty:=bytes_inj (e.trans (by first | simp | (unfold ByteArray.toList;rw[ByteArray.toList.loop];rfl)))
  exact B (by rw[this];rfl)
 simp+decide[Tryz.f119,int,ints,Orth.cells,C]
 refine zg A ?_
 by_cases I:e<s.size
 .have K:(e:Int)<s.size:=by omega
  simp+decide[int,ints,Orth.cells,I,K,wV]
 have K:¬(e:Int)<s.size:=by omega
 rw[if_neg I]
 simp+decide[int,ints,Orth.cells,I,K,wV]
 refine x9 mixed (λk:Nat=>{n:=44,next:=3,slots:=[(2,.bp 0 0),(9,.ar 2),(25,.d (wV l)),(26,.d (int l.length)),(27,.d (int k))],own:=[(0,.box 28 (o.cells.map .d)),(2,.arr 3 1 ((jm o.units (l.take k)).map λn=>[int n]))],moved:=[2]})
  (λk=>k<=l.length) (λk=>l.length-k) 0 (Nat.zero_le _) ?_ ?_
 .simp+decide[int,ints,Orth.cells,jm,wV]
 intro k N
 refine ya mixed ?_
 by_cases F:k<l.length
 case neg=>
  have:k=l.length:=by omega
  subst this;rw[List.take_length];generalize jm o.units l=W;by_cases Q:24<W.length
  .have G:(24:Int)<W.length:=by omega
   simp+decide[int,ints,Orth.cells,wV,Q,G]
  .have G:¬(24:Int)<W.length:=by omega
   simp+decide[int,ints,Orth.cells,wV,Q,G]
 have J:(k:Int)<l.length:=by omega
 obtain⟨b,eb⟩:∃ b,l[k]=b:=⟨_,rfl⟩
 have eb1:l[k]?=some b:=by rw[List.getElem?_eq_getElem F,eb]
 have L:b<o.units.length:=by rw[<-eb];exact H _ (List.getElem_mem F)
 have M:(b:Int)<o.units.length:=by omega
 obtain⟨v,ev⟩:∃ v,o.units[b]=v:=⟨_,rfl⟩
 have ev1:o.units[b]?=some v:=by rw[List.getElem?_eq_getElem L,ev]
 have X:=(Y.units o.units[b] (List.getElem_mem L)).2
 rw[ev] at X
 have V:=AY (us:=o.units) F eb ev1
 have E:=E3 (us:=o.units) (λu P=>(Y.units u P).2) (l.take k)
 rw[List.length_take] at E
 have E:(jm o.units (l.take k)).length<=1024*1048576:=Nat.le_trans E (Nat.mul_le_mul_right _ (by omega))
 generalize jm o.units (l.take k)=W at V E
 simp+decide[int,ints,Orth.cells,wV,zG,Grap.row,F,J,eb,eb1,L,M,ev,ev1,I64]
 exact⟨by omega,by unfold maxLen;omega,⟨by omega,by omega⟩,k+1,F,by omega,by omega,by rw[V,List.map_append]⟩
theorem zeo(us:List Grap)(s:ByteArray):(qM us s).1.length<=24:=by
 unfold qM
 split
 .exact Nat.zero_le _
 .split
  .exact Nat.zero_le _
  .split
   .exact Nat.zero_le _
   .rename_i h;exact Nat.le_of_not_lt h
def KO(g:Lang)(s:ByteArray):List (List Prt)×Int:=if (qM g.orth.units s).2.2≠0 then ([],(qM g.orth.units s).2.2) else BR g (qM g.orth.units s).1
end Go.V

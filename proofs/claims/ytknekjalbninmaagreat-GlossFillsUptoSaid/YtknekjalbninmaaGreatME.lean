/- Contracts and plain laws of this seat: part ME. It needs no conditions. -/
import Derived.Test.YtknekjalbninmaaGreatMD
import Derived.Test.YtknekjalbninmaaGreatMA
import Derived.Test.YtknekjalbninmaaGreatB1
import Derived.Test.YtknekjalbninmaaGreatW1
set_option linter.unusedVariables false
set_option linter.unusedSimpArgs false
set_option linter.unusedSectionVars false
set_option maxRecDepth 100000
namespace Go.V
open Go Go.Proofs
section
variable {σ:Type}
structure Clo(P:Program)(g:Lang)(w:List Int)(σ:Type) where
 F:σ->List Prt->List Int->σ×Bool
 rest:σ->List (Nat×Obj')
 fid:Nat
 caps:List Sym
 n:Nat
 mv:List Nat
 mvOk:∀ i∈mv,2<=i/\i<n
 mvCaps:zc3 mv caps=caps
 Inv:Nat->σ->Prop
 ok:∀ x,RestOk n (.fn fid caps) (rest x)
 mono:∀ k x,Inv k x->Inv (k+1) x
 call:∀ k x tr a base,Inv k x->k<2^20->a.length<=4->base.length<=24 ->
  zbl P fid (.d (zat a) :: .d (ints base)::caps) (yoa g w tr (.fn fid caps) (rest x)) n (.d (.bool (F x a base).2)) n (yoa g w tr (.fn fid caps) (rest (F x a base).1)) mv/\Inv (k+1) (F x a base).1
variable {P:Program} (g:Lang) (w:List Int) (C:Clo P g w σ)
end
end Go.V
namespace Go.V
open Go Go.Proofs
end Go.V
namespace Go.V
open Go Go.Proofs
section
variable {σ:Type}
variable {P:Program} (g:Lang) (w:List Int) (C:Clo P g w σ)
end
end Go.V
namespace Go.V
open Go Go.Proofs
noncomputable instance decBytes(k:ByteArray)(l:List ByteArray):Decidable (k∈l):=Classical.propDecidable _
end Go.V
namespace Go.V
open Go Go.Proofs
section
variable {σ α:Type}
end
end Go.V
namespace Go.V
open Go Go.Proofs
end Go.V
namespace Go.V
open Go Go.Proofs
section
variable {α:Type}
end
def bare(a:List Prt):List Prt:=a.map λp=>⟨p.entry,p.alt,0⟩
end Go.V
namespace Go.V
open Go Go.Proofs
def zis(n:Int):Prop:=(Lit.int .i64 n).wf=true
def ye8(l:List Int):Prop:=l.length<=maxLen/\∀ n∈l,zis n
def Prt.ok(p:Prt):Prop:=zis p.entry/\zis p.alt/\zis p.sense
abbrev yje:List Sh:=[.int .i64,.int .i64,.int .i64]
def ykx(l:List Prt):Prop:=l.length<=maxLen/\∀ x∈l,x.ok
theorem z03{d:D}(h:FitD d (.sl yje)):∃ l,d=zat l/\ykx l:=by
 obtain⟨xs,rfl,H,h2⟩:=FitD.zjq (row:=Prt.row) (good:=Prt.ok) (λr G=>by
  obtain⟨_,_,rfl,g1,r1⟩:=G.zaj;obtain⟨_,_,rfl,g2,r2⟩:=r1.zaj;obtain⟨_,_,rfl,g3,r3⟩:=r2.zaj;obtain rfl:=r3.zb0;obtain⟨a,rfl,wa⟩:=g1.za7;obtain⟨b,rfl,wb⟩:=g2.za7;obtain⟨c,rfl,wc⟩:=g3.za7;exact⟨⟨a,b,c⟩,rfl,wa,wb,wc⟩) h
 exact⟨xs,rfl,H,h2⟩
theorem ybj{l:List D}(h:zb2 l [.sl yje]):∃ a,D.agg l=anaD a/\ykx a:=by
 obtain⟨_,_,rfl,g1,r1⟩:=h.zaj
 obtain rfl:=r1.zb0
 obtain⟨a,rfl,H⟩:=z03 g1
 exact⟨a,rfl,H⟩
theorem zer{α:Type}{M:Nat}{row:α->List D}:∀ {l:List α},CapR M (l.map row)->∀ x∈l,Caps M (row x)
 | [],_,x,H=>by cases H
 |a::l,h,x,H=>by
  simp only[List.map_cons,CapR] at h;rcases List.mem_cons.1 H with e | e
  .rw[e];exact h.1
  .exact zer h.2 x e
theorem zb8{α:Type}{row:α->List D}{shs:List Sh}{d:D}(h:∀ r,zb2 r shs->∃ x,r=row x)(H:FitD d (.sl shs)):∃ xs:List α,d = .sl (xs.map row):=by
 obtain⟨xs,e,_,_⟩:=FitD.zjq (row:=row) (good:=λ_=>True) (λr G=>by obtain⟨x,e⟩:=h r G;exact⟨x,e,trivial⟩) H
 exact⟨xs,e⟩
theorem yl8{r:List D}(h:zb2 r [.int .i64]):∃ n:Int,r=[int n]:=by
 obtain⟨_,_,rfl,g1,r1⟩:=h.zaj
 obtain rfl:=r1.zb0
 obtain⟨a,rfl,_⟩:=g1.za7
 exact⟨a,rfl⟩
theorem zk4{d:D}(h:FitD d (.sl [.int .i64])):∃ l,d=ints l:=zb8 (row:=λn:Int=>[int n]) (λr H=>yl8 H) h
theorem yjf{r:List D}(h:zb2 r [.str,.int .i64]):∃ p:Phon,r=p.row:=by
 obtain⟨_,_,rfl,g1,r1⟩:=h.zaj
 obtain⟨_,_,rfl,g2,r2⟩:=r1.zaj
 obtain rfl:=r2.zb0
 obtain⟨a,rfl,_⟩:=g1.zed
 obtain⟨b,rfl,_⟩:=g2.za7
 exact⟨⟨a,b⟩,rfl⟩
theorem yjg{r:List D}(h:zb2 r [.str,.sl [.int .i64]]):∃ p:Grap,r=p.row:=by
 obtain⟨_,_,rfl,g1,r1⟩:=h.zaj
 obtain⟨_,_,rfl,g2,r2⟩:=r1.zaj
 obtain rfl:=r2.zb0
 obtain⟨a,rfl,_⟩:=g1.zed
 obtain⟨b,rfl⟩:=zk4 g2
 exact⟨⟨a,b⟩,rfl⟩
theorem ye9{r:List D}(h:zb2 r [.str]):∃ s:ByteArray,r=[.str s]:=by
 obtain⟨_,_,rfl,g1,r1⟩:=h.zaj
 obtain rfl:=r1.zb0
 obtain⟨a,rfl,_⟩:=g1.zed
 exact⟨a,rfl⟩
theorem yjh{r:List D}(h:zb2 r [.sl [.str]]):∃ l:List ByteArray,r=[.sl (l.map λs=>[.str s])]:=by
 obtain⟨_,_,rfl,g1,r1⟩:=h.zaj
 obtain rfl:=r1.zb0
 obtain⟨l,rfl⟩:=zb8 (row:=λs:ByteArray=>[D.str s]) (λr H=>ye9 H) g1
 exact⟨l,rfl⟩
theorem zr2{r:List D}(h:zb2 r [.int .i64,.int .i64]):∃ a b:Int,r=[int a,int b]:=by
 obtain⟨_,_,rfl,g1,r1⟩:=h.zaj
 obtain⟨_,_,rfl,g2,r2⟩:=r1.zaj
 obtain rfl:=r2.zb0
 obtain⟨a,rfl,_⟩:=g1.za7
 obtain⟨b,rfl,_⟩:=g2.za7
 exact⟨a,b,rfl⟩
theorem yfa{d:D}(h:FitD d (.sl [.int .i64,.int .i64])):∃ l,d=clsD l:=zb8 (row:=Cls.row) (λr H=>by obtain⟨a,b,rfl⟩:=zr2 H;exact⟨⟨a,b⟩,rfl⟩) h
theorem yji{r:List D}(h:zb2 r [.sl [.int .i64],.sl [.int .i64],.sl [.int .i64,.int .i64],.sl [.int .i64,.int .i64],.bool,.bool]):∃ x:Rule,r=x.row:=by
 obtain⟨_,_,rfl,g1,r1⟩:=h.zaj
 obtain⟨_,_,rfl,g2,r2⟩:=r1.zaj
 obtain⟨_,_,rfl,g3,r3⟩:=r2.zaj
 obtain⟨_,_,rfl,g4,r4⟩:=r3.zaj
 obtain⟨_,_,rfl,g5,r5⟩:=r4.zaj
 obtain⟨_,_,rfl,g6,r6⟩:=r5.zaj
 obtain rfl:=r6.zb0
 obtain⟨a,rfl⟩:=zk4 g1
 obtain⟨b,rfl⟩:=zk4 g2
 obtain⟨c,rfl⟩:=yfa g3
 obtain⟨d,rfl⟩:=yfa g4
 obtain⟨e,rfl⟩:=g5.zsd
 obtain⟨f,rfl⟩:=g6.zsd
 exact⟨⟨a,b,c,d,e,f⟩,rfl⟩
theorem yl9{r:List D}(h:zb2 r [.int .i64,.int .i64,.int .i64]):∃ x:Stp,r=x.row:=by
 obtain⟨_,_,rfl,g1,r1⟩:=h.zaj
 obtain⟨a,b,rfl⟩:=zr2 r1
 obtain⟨c,rfl,_⟩:=g1.za7
 exact⟨⟨c,a,b⟩,rfl⟩
theorem yjj{r:List D}(h:zb2 r [.str,.str]):∃ x:Sens,r=x.row:=by
 obtain⟨_,_,rfl,g1,r1⟩:=h.zaj
 obtain⟨b,rfl⟩:=ye9 r1
 obtain⟨a,rfl,_⟩:=g1.zed
 exact⟨⟨a,b⟩,rfl⟩
theorem yfb{d:D}(h:FitD d (.sl [.sl [.int .i64]])):∃ l,d=zcb l:=zb8 (row:=λa:List Int=>[ints a]) (λr H=>by
 obtain⟨_,_,rfl,g1,r1⟩:=H.zaj
 obtain rfl:=r1.zb0
 obtain⟨a,rfl⟩:=zk4 g1
 exact⟨a,rfl⟩) h
abbrev yob:List Sh:=[.int .i64,.sl [.int .i64],.int .i64,.sl [.sl [.int .i64]],.int .i64,.sl [.str,.str],.sl [.int .i64,.int .i64],.sl [.int .i64,.int .i64]]
theorem yma{r:List D}(h:zb2 r yob):∃ x:Ent,r=x.row:=by
 obtain⟨_,_,rfl,g1,r1⟩:=h.zaj
 obtain⟨_,_,rfl,g2,r2⟩:=r1.zaj
 obtain⟨_,_,rfl,g3,r3⟩:=r2.zaj
 obtain⟨_,_,rfl,g4,r4⟩:=r3.zaj
 obtain⟨_,_,rfl,g5,r5⟩:=r4.zaj
 obtain⟨_,_,rfl,g6,r6⟩:=r5.zaj
 obtain⟨_,_,rfl,g7,r7⟩:=r6.zaj
 obtain⟨_,_,rfl,g8,r8⟩:=r7.zaj
 obtain rfl:=r8.zb0
 obtain⟨a,rfl,_⟩:=g1.za7
 obtain⟨b,rfl⟩:=zk4 g2
 obtain⟨c,rfl,_⟩:=g3.za7
 obtain⟨d,rfl⟩:=yfb g4
 obtain⟨e,rfl,_⟩:=g5.za7
 obtain⟨f,rfl⟩:=zb8 (row:=Sens.row) (λr H=>yjj H) g6
 obtain⟨k,rfl⟩:=zb8 (row:=Lnk.row) (λr H=>by obtain⟨a,b,rfl⟩:=zr2 H;exact⟨⟨a,b⟩,rfl⟩) g7
 obtain⟨m,rfl⟩:=zb8 (row:=Rf.row) (λr H=>by obtain⟨a,b,rfl⟩:=zr2 H;exact⟨⟨a,b⟩,rfl⟩) g8
 exact⟨⟨a,b,c,d,e,f,k,m⟩,rfl⟩
abbrev yky:List Sh:=[.sl [.str,.int .i64],.str,.sl [.str,.sl [.int .i64]],.sl [.sl [.str]],.sl [.sl [.int .i64],.sl [.int .i64],.sl [.int .i64,.int .i64],.sl [.int .i64,.int .i64],.bool,.bool],.int .i64,.sl [.int .i64,.int .i64,.int .i64],.sl [.int .i64],.sl yob]
theorem z4z{l:List D}(h:zb2 l yky):∃ g:Lang,D.agg l=g.d:=by
 obtain⟨_,_,rfl,g1,r1⟩:=h.zaj
 obtain⟨_,_,rfl,g2,r2⟩:=r1.zaj
 obtain⟨_,_,rfl,g3,r3⟩:=r2.zaj
 obtain⟨_,_,rfl,g4,r4⟩:=r3.zaj
 obtain⟨_,_,rfl,g5,r5⟩:=r4.zaj
 obtain⟨_,_,rfl,g6,r6⟩:=r5.zaj
 obtain⟨_,_,rfl,g7,r7⟩:=r6.zaj
 obtain⟨_,_,rfl,g8,r8⟩:=r7.zaj
 obtain⟨_,_,rfl,g9,r9⟩:=r8.zaj
 obtain rfl:=r9.zb0
 obtain⟨a,rfl⟩:=zb8 (row:=Phon.row) (λr H=>yjf H) g1
 obtain⟨b,rfl,_⟩:=g2.zed
 obtain⟨c,rfl⟩:=zb8 (row:=Grap.row) (λr H=>yjg H) g3
 obtain⟨d,rfl⟩:=zb8 (row:=λr:List ByteArray=>[D.sl (r.map λs=>[.str s])]) (λr H=>yjh H) g4
 obtain⟨e,rfl⟩:=zb8 (row:=Rule.row) (λr H=>yji H) g5
 obtain⟨f,rfl,_⟩:=g6.za7
 obtain⟨k,rfl⟩:=zb8 (row:=Stp.row) (λr H=>yl9 H) g7
 obtain⟨m,rfl⟩:=zk4 g8
 obtain⟨n,rfl⟩:=zb8 (row:=Ent.row) (λr H=>yma H) g9
 exact⟨⟨a,⟨b,c,d⟩,e,⟨f,k,m⟩,n⟩,rfl⟩
theorem yfc{g:Lang}(h:CapT 1048576 g.d):LangC g:=by
 simp only[Lang.d,CapT,Caps,Cap,invD,zaw,zd9,zco,stepsD,ints,lexD,int,List.length_map,and_true] at h
 obtain⟨⟨a1,a2⟩,b1,⟨c1,c2⟩,⟨d1,d2⟩,⟨e1,e2⟩,_,⟨k1,_⟩,⟨m1,_⟩,n1,n2⟩:=h
 refine {inv:=⟨a1,λp hp=>?_⟩,orth:=⟨b1,λu hu=>?_,λL hL=>?_,c1,d1⟩,rules:=⟨e1,λr hr=>?_⟩,steps:=k1,final:=m1,lex:=⟨n1,λe he=>?_⟩}
 .have:=zer a2 p hp
  simp only[Phon.row,Caps,Cap,int] at this;exact this.1
 .have:=zer c2 u hu
  simp only[Grap.row,Caps,Cap,int,ints,List.length_map] at this;exact⟨this.1,this.2.1.1⟩
 .have:=zer d2 L hL
  simp only[Caps,Cap,List.length_map] at this;refine⟨this.1.1,λs hs=>?_⟩
  have:=zer this.1.2 s hs
  simp only[Caps,Cap] at this;exact this.1
 .have:=zer e2 r hr
  simp only[Rule.row,Caps,Cap,int,ints,List.length_map] at this;exact⟨this.1.1,this.2.1.1⟩
 .have:=zer n2 e he
  simp only[Ent.row,Caps,Cap,int,ints,zcb,zbv,lnkD,rfD,List.length_map] at this;obtain⟨_,⟨f1,_⟩,_,⟨g1,g2⟩,_,⟨s1,s2⟩,⟨l1,_⟩,⟨r1,_⟩,_⟩:=this;refine⟨f1,⟨g1,λw hw=>?_⟩,⟨s1,λs hs=>?_⟩,l1,r1⟩
  .have:=zer g2 w hw
   simp only[Caps,Cap,List.length_map] at this;exact this.1.1
  .have:=zer s2 s hs
   simp only[Sens.row,Caps,Cap] at this;exact⟨this.1,this.2.1⟩
theorem ymb{l:List Prt}(h:CapT 1048576 (anaD l)):l.length<=1048576:=by
 simp only[CapT,anaD,zat,Caps,Cap,List.length_map] at h;exact h.1.1
theorem ymc{l:List D}(h:zb2 l [.sl yje]):∃ a,D.agg l=anaD a:=by obtain⟨a,e,_⟩:=ybj h;exact⟨a,e⟩
theorem yfd{d:D}(h:FitD d (.int .i64)):∃ n,d=int n:=by obtain⟨n,e,_⟩:=h.za7;exact⟨n,e⟩
end Go.V
namespace Go.V
open Go
section
variable {P:Program} {p q:List Nat} {l:List Oper}
variable {st:St}
end
end Go.V

/- Contracts and plain laws of this seat: part M6. It needs no conditions. -/
import Derived.Test.YtgglheknmlfghaaGreatX9
import Derived.Test.YtgglheknmlfghaaGreatM1
import Derived.Test.YtgglheknmlfghaaGreatProg
import Derived.KernelRfl
import Derived.Test.YtgglheknmlfghaaGreatM5
set_option linter.unusedVariables false
set_option linter.unusedSimpArgs false
set_option linter.unusedSectionVars false
set_option maxRecDepth 100000
namespace Go.V
open Go Go.Proofs
def scD (P:Program) (f:Nat):Bool:=match P.funcs[f]? with
 | some fn=>match fn.resultTypes.toList with
  | [T]=>(match TI.of P T with
   | some ⟨.int _,_,_,_,_⟩=>true
   | some ⟨.bool,_,_,_,_⟩=>true
   | some ⟨.str,_,_,_,_⟩=>true
   | _=>false)
  | _=>false
 | none=>false
def fnD (P:Program) (f:Nat):Option (Nat×Code×List ResultVar):=match P.funcs[f]? with
 | some fn=>match fn.body with
  | some c=>some (fn.ntmps,c,fn.results.toList)
  | none=>none
 | none=>none
def mkG (P:Program):XG:=⟨fun t=>TI.of P t,fun t=>zfit P t,fun t=>eqKinds P t,fnD P,scD P,fun _=>none,fun _=>none,fun _=>false⟩
def z5b (P:Program):Bool:=(List.range P.funcs.size).all fun f=>match P.funcs[f]? with
 | some fn => fn.name != "runtime.NumGoroutine"
 | none=>true
theorem z97 {P:Program} (h:z5b P=true):XGood P (mkG P):=by
 refine ⟨fun h=>h,fun h=>h,fun h=>h,?_,fun h=>(by cases h),fun h=>(by cases h)⟩
 intro f n c rs hf
 have hf:fnD P f=some (n,c,rs):=hf
 unfold fnD at hf
 split at hf
 ·rename_i fn hfn
  split at hf
  ·rename_i c' hb
   cases hf;refine ⟨?_,fn,hfn,hb,rfl,rfl⟩
   unfold z5b at h;have hlt:f<P.funcs.size:=by
    obtain ⟨h1,_⟩:=Array.getElem?_eq_some_iff.1 hfn;exact h1
   have:=(List.all_eq_true.1 h) f (List.mem_range.2 hlt)
   rw [hfn] at this;unfold callable;rw [hfn];simp only at this ⊢
   rw [this,hb];rfl
  ·cases hf
 ·cases hf
theorem ycn:z5b Tryz.prog=true:=by kernel_rfl
theorem yco:Tryz.prog.follows .mixedOrders=true:=by kernel_rfl
def isT (r:Option XR):Bool:=match r with
 | some ⟨.d (.bool true),_,_,_⟩=>true
 | _=>false
theorem zx0 {f k:Nat} (h:isT (ybs (mkG Tryz.prog) (z9h (mkG Tryz.prog)) k f [] [] 0)=true):za2 Tryz.prog f [] (.bool true):=by
 have hg:=z9k yco (z97 ycn) k
 unfold isT at h
 split at h
 ·rename_i nx own mv hr
  have:=hg _ _ _ _ _ hr (by simp [Sym.los])
  exact zjn (ds:=[]) this
 ·cases h
theorem z5c:isT (ybs (mkG Tryz.prog) (z9h (mkG Tryz.prog)) 50 14 [] [] 0)=true:=by kernel_rfl
theorem zoj:za2 Tryz.prog 14 [] (.bool true):=zx0 z5c
end Go.V
namespace Go.V
open Go Go.Proofs
theorem zet {α:Type} {M:Nat} {row:α→List D} : ∀ {l:List α},CapR M (l.map row)→∀ x∈l,Caps M (row x)
 | [],_,x,hx=>by cases hx
 | a::l,h,x,hx=>by
  simp only [List.map_cons,CapR] at h;rcases List.mem_cons.1 hx with e | e
  ·rw [e];exact h.1
  ·exact zet h.2 x e
theorem zbm {α:Type} {row:α→List D} {shs:List Sh} {d:D} (h : ∀ r,zbv r shs→∃ x,r=row x) (hf:FitD d (.sl shs)) : ∃ xs:List α,d = .sl (xs.map row):=by
 obtain ⟨xs,e,_,_⟩:=FitD.z3w (row:=row) (good:=fun _=>True) (fun r hr=>by obtain ⟨x,e⟩:=h r hr;exact ⟨x,e,trivial⟩) hf
 exact ⟨xs,e⟩
theorem ycp {r:List D} (h:zbv r [.int .i64]) : ∃ n:Int,r=[int n]:=by
 obtain ⟨_,_,rfl,g1,r1⟩:=h.zaj
 obtain rfl:=r1.zcz
 obtain ⟨a,rfl,_⟩:=g1.zcy
 exact ⟨a,rfl⟩
theorem zgz {d:D} (h:FitD d (.sl [.int .i64])) : ∃ l,d=ints l:=zbm (row:=fun n:Int=>[int n]) (fun r hr=>ycp hr) h
theorem z98 {r:List D} (h:zbv r [.str,.int .i64]) : ∃ p:Phon,r=p.row:=by
 obtain ⟨_,_,rfl,g1,r1⟩:=h.zaj
 obtain ⟨_,_,rfl,g2,r2⟩:=r1.zaj
 obtain rfl:=r2.zcz
 obtain ⟨a,rfl,_⟩:=g1.zf9
 obtain ⟨b,rfl,_⟩:=g2.zcy
 exact ⟨⟨a,b⟩,rfl⟩
theorem z99 {r:List D} (h:zbv r [.str,.sl [.int .i64]]) : ∃ p:Grap,r=p.row:=by
 obtain ⟨_,_,rfl,g1,r1⟩:=h.zaj
 obtain ⟨_,_,rfl,g2,r2⟩:=r1.zaj
 obtain rfl:=r2.zcz
 obtain ⟨a,rfl,_⟩:=g1.zf9
 obtain ⟨b,rfl⟩:=zgz g2
 exact ⟨⟨a,b⟩,rfl⟩
theorem z5d {r:List D} (h:zbv r [.str]) : ∃ s:ByteArray,r=[.str s]:=by
 obtain ⟨_,_,rfl,g1,r1⟩:=h.zaj
 obtain rfl:=r1.zcz
 obtain ⟨a,rfl,_⟩:=g1.zf9
 exact ⟨a,rfl⟩
theorem yaa {r:List D} (h:zbv r [.sl [.str]]) : ∃ l:List ByteArray,r=[.sl (l.map fun s=>[.str s])]:=by
 obtain ⟨_,_,rfl,g1,r1⟩:=h.zaj
 obtain rfl:=r1.zcz
 obtain ⟨l,rfl⟩:=zbm (row:=fun s:ByteArray=>[D.str s]) (fun r hr=>z5d hr) g1
 exact ⟨l,rfl⟩
theorem znt {r:List D} (h:zbv r [.int .i64,.int .i64]) : ∃ a b:Int,r=[int a,int b]:=by
 obtain ⟨_,_,rfl,g1,r1⟩:=h.zaj
 obtain ⟨_,_,rfl,g2,r2⟩:=r1.zaj
 obtain rfl:=r2.zcz
 obtain ⟨a,rfl,_⟩:=g1.zcy
 obtain ⟨b,rfl,_⟩:=g2.zcy
 exact ⟨a,b,rfl⟩
theorem z5e {d:D} (h:FitD d (.sl [.int .i64,.int .i64])) : ∃ l,d=clsD l:=zbm (row:=Cls.row) (fun r hr=>by obtain ⟨a,b,rfl⟩:=znt hr;exact ⟨⟨a,b⟩,rfl⟩) h
theorem yab {r:List D} (h:zbv r [.sl [.int .i64],.sl [.int .i64],.sl [.int .i64,.int .i64],.sl [.int .i64,.int .i64],.bool,.bool]) : ∃ x:Rule,r=x.row:=by
 obtain ⟨_,_,rfl,g1,r1⟩:=h.zaj
 obtain ⟨_,_,rfl,g2,r2⟩:=r1.zaj
 obtain ⟨_,_,rfl,g3,r3⟩:=r2.zaj
 obtain ⟨_,_,rfl,g4,r4⟩:=r3.zaj
 obtain ⟨_,_,rfl,g5,r5⟩:=r4.zaj
 obtain ⟨_,_,rfl,g6,r6⟩:=r5.zaj
 obtain rfl:=r6.zcz
 obtain ⟨a,rfl⟩:=zgz g1
 obtain ⟨b,rfl⟩:=zgz g2
 obtain ⟨c,rfl⟩:=z5e g3
 obtain ⟨d,rfl⟩:=z5e g4
 obtain ⟨e,rfl⟩:=g5.zn4
 obtain ⟨f,rfl⟩:=g6.zn4
 exact ⟨⟨a,b,c,d,e,f⟩,rfl⟩
theorem ycq {r:List D} (h:zbv r [.int .i64,.int .i64,.int .i64]) : ∃ x:Stp,r=x.row:=by
 obtain ⟨_,_,rfl,g1,r1⟩:=h.zaj
 obtain ⟨a,b,rfl⟩:=znt r1
 obtain ⟨c,rfl,_⟩:=g1.zcy
 exact ⟨⟨c,a,b⟩,rfl⟩
theorem yac {r:List D} (h:zbv r [.str,.str]) : ∃ x:Sens,r=x.row:=by
 obtain ⟨_,_,rfl,g1,r1⟩:=h.zaj
 obtain ⟨b,rfl⟩:=z5d r1
 obtain ⟨a,rfl,_⟩:=g1.zf9
 exact ⟨⟨a,b⟩,rfl⟩
theorem z5f {d:D} (h:FitD d (.sl [.sl [.int .i64]])) : ∃ l,d=zbe l:=zbm (row:=fun a:List Int=>[ints a]) (fun r hr=>by
 obtain ⟨_,_,rfl,g1,r1⟩:=hr.zaj
 obtain rfl:=r1.zcz
 obtain ⟨a,rfl⟩:=zgz g1
 exact ⟨a,rfl⟩) h
abbrev yea:List Sh:=[.int .i64,.sl [.int .i64],.int .i64,.sl [.sl [.int .i64]],.int .i64,.sl [.str,.str],.sl [.int .i64,.int .i64],.sl [.int .i64,.int .i64]]
theorem ycr {r:List D} (h:zbv r yea) : ∃ x:Ent,r=x.row:=by
 obtain ⟨_,_,rfl,g1,r1⟩:=h.zaj
 obtain ⟨_,_,rfl,g2,r2⟩:=r1.zaj
 obtain ⟨_,_,rfl,g3,r3⟩:=r2.zaj
 obtain ⟨_,_,rfl,g4,r4⟩:=r3.zaj
 obtain ⟨_,_,rfl,g5,r5⟩:=r4.zaj
 obtain ⟨_,_,rfl,g6,r6⟩:=r5.zaj
 obtain ⟨_,_,rfl,g7,r7⟩:=r6.zaj
 obtain ⟨_,_,rfl,g8,r8⟩:=r7.zaj
 obtain rfl:=r8.zcz
 obtain ⟨a,rfl,_⟩:=g1.zcy
 obtain ⟨b,rfl⟩:=zgz g2
 obtain ⟨c,rfl,_⟩:=g3.zcy
 obtain ⟨d,rfl⟩:=z5f g4
 obtain ⟨e,rfl,_⟩:=g5.zcy
 obtain ⟨f,rfl⟩:=zbm (row:=Sens.row) (fun r hr=>yac hr) g6
 obtain ⟨k,rfl⟩:=zbm (row:=Lnk.row) (fun r hr=>by obtain ⟨a,b,rfl⟩:=znt hr;exact ⟨⟨a,b⟩,rfl⟩) g7
 obtain ⟨m,rfl⟩:=zbm (row:=Rf.row) (fun r hr=>by obtain ⟨a,b,rfl⟩:=znt hr;exact ⟨⟨a,b⟩,rfl⟩) g8
 exact ⟨⟨a,b,c,d,e,f,k,m⟩,rfl⟩
abbrev ybx:List Sh:=[.sl [.str,.int .i64],.str,.sl [.str,.sl [.int .i64]],.sl [.sl [.str]],.sl [.sl [.int .i64],.sl [.int .i64],.sl [.int .i64,.int .i64],.sl [.int .i64,.int .i64],.bool,.bool],.int .i64,.sl [.int .i64,.int .i64,.int .i64],.sl [.int .i64],.sl yea]
theorem zx1 {l:List D} (h:zbv l ybx) : ∃ g:Lang,D.agg l=g.d:=by
 obtain ⟨_,_,rfl,g1,r1⟩:=h.zaj
 obtain ⟨_,_,rfl,g2,r2⟩:=r1.zaj
 obtain ⟨_,_,rfl,g3,r3⟩:=r2.zaj
 obtain ⟨_,_,rfl,g4,r4⟩:=r3.zaj
 obtain ⟨_,_,rfl,g5,r5⟩:=r4.zaj
 obtain ⟨_,_,rfl,g6,r6⟩:=r5.zaj
 obtain ⟨_,_,rfl,g7,r7⟩:=r6.zaj
 obtain ⟨_,_,rfl,g8,r8⟩:=r7.zaj
 obtain ⟨_,_,rfl,g9,r9⟩:=r8.zaj
 obtain rfl:=r9.zcz
 obtain ⟨a,rfl⟩:=zbm (row:=Phon.row) (fun r hr=>z98 hr) g1
 obtain ⟨b,rfl,_⟩:=g2.zf9
 obtain ⟨c,rfl⟩:=zbm (row:=Grap.row) (fun r hr=>z99 hr) g3
 obtain ⟨d,rfl⟩:=zbm (row:=fun r:List ByteArray=>[D.sl (r.map fun s=>[.str s])]) (fun r hr=>yaa hr) g4
 obtain ⟨e,rfl⟩:=zbm (row:=Rule.row) (fun r hr=>yab hr) g5
 obtain ⟨f,rfl,_⟩:=g6.zcy
 obtain ⟨k,rfl⟩:=zbm (row:=Stp.row) (fun r hr=>ycq hr) g7
 obtain ⟨m,rfl⟩:=zgz g8
 obtain ⟨n,rfl⟩:=zbm (row:=Ent.row) (fun r hr=>ycr hr) g9
 exact ⟨⟨a,⟨b,c,d⟩,e,⟨f,k,m⟩,n⟩,rfl⟩
theorem z5g {g:Lang} (h:CapT 1048576 g.d):LangC g:=by
 simp only [Lang.d,CapT,Caps,Cap,invD,zbx,zdd,zb0,stepsD,ints,lexD,int,List.length_map,and_true] at h
 obtain ⟨⟨a1,a2⟩,b1,⟨c1,c2⟩,⟨d1,d2⟩,⟨e1,e2⟩,_,⟨k1,_⟩,⟨m1,_⟩,n1,n2⟩:=h
 refine {inv:=⟨a1,fun p hp=>?_⟩,orth:=⟨b1,fun u hu=>?_,fun L hL=>?_,c1,d1⟩,rules:=⟨e1,fun r hr=>?_⟩,steps:=k1,final:=m1,lex:=⟨n1,fun e he=>?_⟩}
 ·have:=zet a2 p hp
  simp only [Phon.row,Caps,Cap,int] at this;exact this.1
 ·have:=zet c2 u hu
  simp only [Grap.row,Caps,Cap,int,ints,List.length_map] at this;exact ⟨this.1,this.2.1.1⟩
 ·have:=zet d2 L hL
  simp only [Caps,Cap,List.length_map] at this;refine ⟨this.1.1,fun s hs=>?_⟩
  have:=zet this.1.2 s hs
  simp only [Caps,Cap] at this;exact this.1
 ·have:=zet e2 r hr
  simp only [Rule.row,Caps,Cap,int,ints,List.length_map] at this;exact ⟨this.1.1,this.2.1.1⟩
 ·have:=zet n2 e he
  simp only [Ent.row,Caps,Cap,int,ints,zbe,zbt,lnkD,rfD,List.length_map] at this;obtain ⟨_,⟨f1,_⟩,_,⟨g1,g2⟩,_,⟨s1,s2⟩,⟨l1,_⟩,⟨r1,_⟩,_⟩:=this;refine ⟨f1,⟨g1,fun w hw=>?_⟩,⟨s1,fun s hs=>?_⟩,l1,r1⟩
  ·have:=zet g2 w hw
   simp only [Caps,Cap,List.length_map] at this;exact this.1.1
  ·have:=zet s2 s hs
   simp only [Sens.row,Caps,Cap] at this;exact ⟨this.1,this.2.1⟩
theorem yad {l:List Int} (h:CapT 1048576 (ints l)):l.length≤1048576:=by
 simp only [CapT,ints,Cap,List.length_map] at h;exact h.1
theorem ycs {d:D} (h:FitD d (.int .i64)) : ∃ n,d=int n:=by obtain ⟨n,e,_⟩:=h.zcy;exact ⟨n,e⟩
end Go.V
namespace Go.V
open Go Go.Proofs
end Go.V

/- Contracts and plain laws of this seat: part M6. It needs no conditions. -/
import Derived.Test.YtgglheknmlfghaaGreatX9
import Derived.Test.YtgglheknmlfghaaGreatM1
import Derived.Test.YtgglheknmlfghaaGreatProg
import Derived.KernelRfl
import Derived.Test.YtgglheknmlfghaaGreatM5
set_option linter.unusedVariables false
set_option linter.unusedSimpArgs false
set_option linter.unusedSectionVars false
set_option maxRecDepth 100000
namespace Go.V
open Go Go.Proofs
def scD (P:Program) (f:Nat):Bool:=match P.funcs[f]? with
 | some fn=>match fn.resultTypes.toList with
  | [T]=>(match TI.of P T with
   | some ⟨.int _,_,_,_,_⟩=>true
   | some ⟨.bool,_,_,_,_⟩=>true
   | some ⟨.str,_,_,_,_⟩=>true
   | _=>false)
  | _=>false
 | none=>false
def fnD (P:Program) (f:Nat):Option (Nat×Code×List ResultVar):=match P.funcs[f]? with
 | some fn=>match fn.body with
  | some c=>some (fn.ntmps,c,fn.results.toList)
  | none=>none
 | none=>none
def mkG (P:Program):XG:=⟨fun t=>TI.of P t,fun t=>zfit P t,fun t=>eqKinds P t,fnD P,scD P,fun _=>none,fun _=>none,fun _=>false⟩
def z6e (P:Program):Bool:=(List.range P.funcs.size).all fun f=>match P.funcs[f]? with
 | some fn => fn.name != "runtime.NumGoroutine"
 | none=>true
theorem ya5 {P:Program} (h:z6e P=true):XGood P (mkG P):=by
 refine ⟨fun h=>h,fun h=>h,fun h=>h,?_,fun h=>(by cases h),fun h=>(by cases h)⟩
 intro f n c rs hf
 have hf:fnD P f=some (n,c,rs):=hf
 unfold fnD at hf
 split at hf
 ·rename_i fn hfn
  split at hf
  ·rename_i c' hb
   cases hf;refine ⟨?_,fn,hfn,hb,rfl,rfl⟩
   unfold z6e at h;have hlt:f<P.funcs.size:=by
    obtain ⟨h1,_⟩:=Array.getElem?_eq_some_iff.1 hfn;exact h1
   have:=(List.all_eq_true.1 h) f (List.mem_range.2 hlt)
   rw [hfn] at this;unfold callable;rw [hfn];simp only at this ⊢
   rw [this,hb];rfl
  ·cases hf
 ·cases hf
theorem ydp:z6e Tryz.prog=true:=by kernel_rfl
theorem ydq:Tryz.prog.follows .mixedOrders=true:=by kernel_rfl
def isT (r:Option XR):Bool:=match r with
 | some ⟨.d (.bool true),_,_,_⟩=>true
 | _=>false
theorem zyj {f k:Nat} (h:isT (yct (mkG Tryz.prog) (yab (mkG Tryz.prog)) k f [] [] 0)=true):zay Tryz.prog f [] (.bool true):=by
 have hg:=yae ydq (ya5 ydp) k
 unfold isT at h
 split at h
 ·rename_i nx own mv hr
  have:=hg _ _ _ _ _ hr (by simp [Sym.los])
  exact zj5 (ds:=[]) this
 ·cases h
theorem z6f:isT (yct (mkG Tryz.prog) (yab (mkG Tryz.prog)) 50 14 [] [] 0)=true:=by kernel_rfl
theorem zka:zay Tryz.prog 14 [] (.bool true):=zyj z6f
end Go.V
namespace Go.V
open Go Go.Proofs
theorem ze0 {α:Type} {M:Nat} {row:α→List D} : ∀ {l:List α},CapR M (l.map row)→∀ x∈l,Caps M (row x)
 | [],_,x,hx=>by cases hx
 | a::l,h,x,hx=>by
  simp only [List.map_cons,CapR] at h;rcases List.mem_cons.1 hx with e | e
  ·rw [e];exact h.1
  ·exact ze0 h.2 x e
theorem zbr {α:Type} {row:α→List D} {shs:List Sh} {d:D} (h : ∀ r,zbv r shs→∃ x,r=row x) (hf:FitD d (.sl shs)) : ∃ xs:List α,d = .sl (xs.map row):=by
 obtain ⟨xs,e,_,_⟩:=FitD.zu5 (row:=row) (good:=fun _=>True) (fun r hr=>by obtain ⟨x,e⟩:=h r hr;exact ⟨x,e,trivial⟩) hf
 exact ⟨xs,e⟩
theorem ydr {r:List D} (h:zbv r [.int .i64]) : ∃ n:Int,r=[int n]:=by
 obtain ⟨_,_,rfl,g1,r1⟩:=h.zai
 obtain rfl:=r1.zcd
 obtain ⟨a,rfl,_⟩:=g1.zcc
 exact ⟨a,rfl⟩
theorem zi5 {d:D} (h:FitD d (.sl [.int .i64])) : ∃ l,d=ints l:=zbr (row:=fun n:Int=>[int n]) (fun r hr=>ydr hr) h
theorem ya6 {r:List D} (h:zbv r [.str,.int .i64]) : ∃ p:Phon,r=p.row:=by
 obtain ⟨_,_,rfl,g1,r1⟩:=h.zai
 obtain ⟨_,_,rfl,g2,r2⟩:=r1.zai
 obtain rfl:=r2.zcd
 obtain ⟨a,rfl,_⟩:=g1.zgf
 obtain ⟨b,rfl,_⟩:=g2.zcc
 exact ⟨⟨a,b⟩,rfl⟩
theorem ya7 {r:List D} (h:zbv r [.str,.sl [.int .i64]]) : ∃ p:Grap,r=p.row:=by
 obtain ⟨_,_,rfl,g1,r1⟩:=h.zai
 obtain ⟨_,_,rfl,g2,r2⟩:=r1.zai
 obtain rfl:=r2.zcd
 obtain ⟨a,rfl,_⟩:=g1.zgf
 obtain ⟨b,rfl⟩:=zi5 g2
 exact ⟨⟨a,b⟩,rfl⟩
theorem z6g {r:List D} (h:zbv r [.str]) : ∃ s:ByteArray,r=[.str s]:=by
 obtain ⟨_,_,rfl,g1,r1⟩:=h.zai
 obtain rfl:=r1.zcd
 obtain ⟨a,rfl,_⟩:=g1.zgf
 exact ⟨a,rfl⟩
theorem ya8 {r:List D} (h:zbv r [.sl [.str]]) : ∃ l:List ByteArray,r=[.sl (l.map fun s=>[.str s])]:=by
 obtain ⟨_,_,rfl,g1,r1⟩:=h.zai
 obtain rfl:=r1.zcd
 obtain ⟨l,rfl⟩:=zbr (row:=fun s:ByteArray=>[D.str s]) (fun r hr=>z6g hr) g1
 exact ⟨l,rfl⟩
theorem zoh {r:List D} (h:zbv r [.int .i64,.int .i64]) : ∃ a b:Int,r=[int a,int b]:=by
 obtain ⟨_,_,rfl,g1,r1⟩:=h.zai
 obtain ⟨_,_,rfl,g2,r2⟩:=r1.zai
 obtain rfl:=r2.zcd
 obtain ⟨a,rfl,_⟩:=g1.zcc
 obtain ⟨b,rfl,_⟩:=g2.zcc
 exact ⟨a,b,rfl⟩
theorem z6h {d:D} (h:FitD d (.sl [.int .i64,.int .i64])) : ∃ l,d=clsD l:=zbr (row:=Cls.row) (fun r hr=>by obtain ⟨a,b,rfl⟩:=zoh hr;exact ⟨⟨a,b⟩,rfl⟩) h
theorem ya9 {r:List D} (h:zbv r [.sl [.int .i64],.sl [.int .i64],.sl [.int .i64,.int .i64],.sl [.int .i64,.int .i64],.bool,.bool]) : ∃ x:Rule,r=x.row:=by
 obtain ⟨_,_,rfl,g1,r1⟩:=h.zai
 obtain ⟨_,_,rfl,g2,r2⟩:=r1.zai
 obtain ⟨_,_,rfl,g3,r3⟩:=r2.zai
 obtain ⟨_,_,rfl,g4,r4⟩:=r3.zai
 obtain ⟨_,_,rfl,g5,r5⟩:=r4.zai
 obtain ⟨_,_,rfl,g6,r6⟩:=r5.zai
 obtain rfl:=r6.zcd
 obtain ⟨a,rfl⟩:=zi5 g1
 obtain ⟨b,rfl⟩:=zi5 g2
 obtain ⟨c,rfl⟩:=z6h g3
 obtain ⟨d,rfl⟩:=z6h g4
 obtain ⟨e,rfl⟩:=g5.zot
 obtain ⟨f,rfl⟩:=g6.zot
 exact ⟨⟨a,b,c,d,e,f⟩,rfl⟩
theorem yds {r:List D} (h:zbv r [.int .i64,.int .i64,.int .i64]) : ∃ x:Stp,r=x.row:=by
 obtain ⟨_,_,rfl,g1,r1⟩:=h.zai
 obtain ⟨a,b,rfl⟩:=zoh r1
 obtain ⟨c,rfl,_⟩:=g1.zcc
 exact ⟨⟨c,a,b⟩,rfl⟩
theorem yba {r:List D} (h:zbv r [.str,.str]) : ∃ x:Sens,r=x.row:=by
 obtain ⟨_,_,rfl,g1,r1⟩:=h.zai
 obtain ⟨b,rfl⟩:=z6g r1
 obtain ⟨a,rfl,_⟩:=g1.zgf
 exact ⟨⟨a,b⟩,rfl⟩
theorem z6i {d:D} (h:FitD d (.sl [.sl [.int .i64]])) : ∃ l,d=zbh l:=zbr (row:=fun a:List Int=>[ints a]) (fun r hr=>by
 obtain ⟨_,_,rfl,g1,r1⟩:=hr.zai
 obtain rfl:=r1.zcd
 obtain ⟨a,rfl⟩:=zi5 g1
 exact ⟨a,rfl⟩) h
abbrev yfg:List Sh:=[.int .i64,.sl [.int .i64],.int .i64,.sl [.sl [.int .i64]],.int .i64,.sl [.str,.str],.sl [.int .i64,.int .i64],.sl [.int .i64,.int .i64]]
theorem ydt {r:List D} (h:zbv r yfg) : ∃ x:Ent,r=x.row:=by
 obtain ⟨_,_,rfl,g1,r1⟩:=h.zai
 obtain ⟨_,_,rfl,g2,r2⟩:=r1.zai
 obtain ⟨_,_,rfl,g3,r3⟩:=r2.zai
 obtain ⟨_,_,rfl,g4,r4⟩:=r3.zai
 obtain ⟨_,_,rfl,g5,r5⟩:=r4.zai
 obtain ⟨_,_,rfl,g6,r6⟩:=r5.zai
 obtain ⟨_,_,rfl,g7,r7⟩:=r6.zai
 obtain ⟨_,_,rfl,g8,r8⟩:=r7.zai
 obtain rfl:=r8.zcd
 obtain ⟨a,rfl,_⟩:=g1.zcc
 obtain ⟨b,rfl⟩:=zi5 g2
 obtain ⟨c,rfl,_⟩:=g3.zcc
 obtain ⟨d,rfl⟩:=z6i g4
 obtain ⟨e,rfl,_⟩:=g5.zcc
 obtain ⟨f,rfl⟩:=zbr (row:=Sens.row) (fun r hr=>yba hr) g6
 obtain ⟨k,rfl⟩:=zbr (row:=Lnk.row) (fun r hr=>by obtain ⟨a,b,rfl⟩:=zoh hr;exact ⟨⟨a,b⟩,rfl⟩) g7
 obtain ⟨m,rfl⟩:=zbr (row:=Rf.row) (fun r hr=>by obtain ⟨a,b,rfl⟩:=zoh hr;exact ⟨⟨a,b⟩,rfl⟩) g8
 exact ⟨⟨a,b,c,d,e,f,k,m⟩,rfl⟩
abbrev yc0:List Sh:=[.sl [.str,.int .i64],.str,.sl [.str,.sl [.int .i64]],.sl [.sl [.str]],.sl [.sl [.int .i64],.sl [.int .i64],.sl [.int .i64,.int .i64],.sl [.int .i64,.int .i64],.bool,.bool],.int .i64,.sl [.int .i64,.int .i64,.int .i64],.sl [.int .i64],.sl yfg]
theorem zyk {l:List D} (h:zbv l yc0) : ∃ g:Lang,D.agg l=g.d:=by
 obtain ⟨_,_,rfl,g1,r1⟩:=h.zai
 obtain ⟨_,_,rfl,g2,r2⟩:=r1.zai
 obtain ⟨_,_,rfl,g3,r3⟩:=r2.zai
 obtain ⟨_,_,rfl,g4,r4⟩:=r3.zai
 obtain ⟨_,_,rfl,g5,r5⟩:=r4.zai
 obtain ⟨_,_,rfl,g6,r6⟩:=r5.zai
 obtain ⟨_,_,rfl,g7,r7⟩:=r6.zai
 obtain ⟨_,_,rfl,g8,r8⟩:=r7.zai
 obtain ⟨_,_,rfl,g9,r9⟩:=r8.zai
 obtain rfl:=r9.zcd
 obtain ⟨a,rfl⟩:=zbr (row:=Phon.row) (fun r hr=>ya6 hr) g1
 obtain ⟨b,rfl,_⟩:=g2.zgf
 obtain ⟨c,rfl⟩:=zbr (row:=Grap.row) (fun r hr=>ya7 hr) g3
 obtain ⟨d,rfl⟩:=zbr (row:=fun r:List ByteArray=>[D.sl (r.map fun s=>[.str s])]) (fun r hr=>ya8 hr) g4
 obtain ⟨e,rfl⟩:=zbr (row:=Rule.row) (fun r hr=>ya9 hr) g5
 obtain ⟨f,rfl,_⟩:=g6.zcc
 obtain ⟨k,rfl⟩:=zbr (row:=Stp.row) (fun r hr=>yds hr) g7
 obtain ⟨m,rfl⟩:=zi5 g8
 obtain ⟨n,rfl⟩:=zbr (row:=Ent.row) (fun r hr=>ydt hr) g9
 exact ⟨⟨a,⟨b,c,d⟩,e,⟨f,k,m⟩,n⟩,rfl⟩
theorem z6j {g:Lang} (h:CapT 1048576 g.d):LangC g:=by
 simp only [Lang.d,CapT,Caps,Cap,invD,za4,zdn,zb5,stepsD,ints,lexD,int,List.length_map,and_true] at h
 obtain ⟨⟨a1,a2⟩,b1,⟨c1,c2⟩,⟨d1,d2⟩,⟨e1,e2⟩,_,⟨k1,_⟩,⟨m1,_⟩,n1,n2⟩:=h
 refine {inv:=⟨a1,fun p hp=>?_⟩,orth:=⟨b1,fun u hu=>?_,fun L hL=>?_,c1,d1⟩,rules:=⟨e1,fun r hr=>?_⟩,steps:=k1,final:=m1,lex:=⟨n1,fun e he=>?_⟩}
 ·have:=ze0 a2 p hp
  simp only [Phon.row,Caps,Cap,int] at this;exact this.1
 ·have:=ze0 c2 u hu
  simp only [Grap.row,Caps,Cap,int,ints,List.length_map] at this;exact ⟨this.1,this.2.1.1⟩
 ·have:=ze0 d2 L hL
  simp only [Caps,Cap,List.length_map] at this;refine ⟨this.1.1,fun s hs=>?_⟩
  have:=ze0 this.1.2 s hs
  simp only [Caps,Cap] at this;exact this.1
 ·have:=ze0 e2 r hr
  simp only [Rule.row,Caps,Cap,int,ints,List.length_map] at this;exact ⟨this.1.1,this.2.1.1⟩
 ·have:=ze0 n2 e he
  simp only [Ent.row,Caps,Cap,int,ints,zbh,zbq,lnkD,rfD,List.length_map] at this;obtain ⟨_,⟨f1,_⟩,_,⟨g1,g2⟩,_,⟨s1,s2⟩,⟨l1,_⟩,⟨r1,_⟩,_⟩:=this;refine ⟨f1,⟨g1,fun w hw=>?_⟩,⟨s1,fun s hs=>?_⟩,l1,r1⟩
  ·have:=ze0 g2 w hw
   simp only [Caps,Cap,List.length_map] at this;exact this.1.1
  ·have:=ze0 s2 s hs
   simp only [Sens.row,Caps,Cap] at this;exact ⟨this.1,this.2.1⟩
theorem ydu {l:List Prt} (h:CapT 1048576 (anaD l)):l.length≤1048576:=by
 simp only [CapT,anaD,zad,Caps,Cap,List.length_map] at h;exact h.1.1
theorem ydw {l:List D} (h:zbv l [.sl yaj]) : ∃ a,D.agg l=anaD a:=by obtain ⟨a,e,_⟩:=z16 h;exact ⟨a,e⟩
end Go.V
namespace Go.V
open Go Go.Proofs
theorem ybb (l:List (List Prt)) (a:List Prt) (hl:l.length<2^62) (hs : ∀ x∈l,x.length<2^62):zay Tryz.prog 28 [zh0 l,anaD a] (.bool (decide (a∈l))):=by
 refine zaa mixed Tryz.func28 rfl call_28 ?_
 simp [Tryz.f28,zh0,anaD]
 refine zaf mixed (fun k:Nat=>{n:=17,next:=1,slots:=[(3,.bp 0 0),(7,.d (zh0 l)),(8,.d (.int .i64 l.length)),(9,.d (.int .i64 k))],own:=[(0,.box 39 [.d (zad a)])]})
  (fun k=>k≤l.length∧a∉l.take k) (fun k=>l.length-k) 0 (by simp) (by simp [zh0]) ?_
 intro k ⟨hk,hp⟩
 by_cases hlt:k<l.length
 ·have e1:l[k]?=some l[k]:=List.getElem?_eq_getElem hlt
  simp +decide [zh0,e1,hlt,I64];refine zal.pure (by rfl) (z14 a l[k] (hs _ (List.getElem_mem hlt))) (by simp) ?_
  simp +decide [zh0,I64];refine ⟨fun h=>?_,fun h=>⟨by omega,k+1,⟨hlt,?_⟩,by omega,by omega⟩⟩
  ·rw [h];exact List.getElem_mem hlt
  ·rw [take_snoc hlt,List.mem_append,not_or];exact ⟨hp,by simpa using h⟩
 ·have:k=l.length:=by omega
  subst this;simp +decide [zh0];simpa using hp
end Go.V

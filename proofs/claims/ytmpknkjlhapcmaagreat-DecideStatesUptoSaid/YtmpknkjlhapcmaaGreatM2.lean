/- Contracts and plain laws of this seat: part M2. It needs no conditions. -/
import Derived.Test.YtmpknkjlhapcmaaGreatM1
import Derived.Test.YtmpknkjlhapcmaaGreatW1
import Derived.Test.YtmpknkjlhapcmaaGreatX9
import Derived.Test.YtmpknkjlhapcmaaGreatProg
import Derived.KernelRfl
set_option linter.unusedVariables false
set_option linter.unusedSimpArgs false
set_option linter.unusedSectionVars false
set_option maxRecDepth 100000
namespace Go.V
open Go Go.Proofs
theorem zue {P:Program} (hmix:P.follows .mixedOrders=true) {id:Nat} {ops:List Oper} {st:St} {Q:DE→St→Prop} (hne:ops≠[]) (hok:zb2 ops=true) (hcut:cutB ops (ops.length-1)=true) (hg:(ops.getLast hne).guard=none)
  (hkeys:(st.own.map (·.1)).Nodup) (h:zvn P ops st.next (ops.getLast hne) ops.dropLast st (Q .normal)):Triple P (.region id ops.toArray true) Q st:=by
 obtain ⟨pre,o,rfl⟩ : ∃ pre o,ops=pre++[o]:=⟨ops.dropLast,ops.getLast hne,(List.dropLast_concat_getLast hne).symm⟩
 have hgl:(pre++[o]).getLast hne=o:=by simp
 rw [hgl] at hg h
 rw [List.dropLast_concat] at h
 refine yeb hmix hok ?_ hg hkeys h
 simpa using hcut
end Go.V
namespace Go.V
open Go Go.Proofs
end Go.V
namespace Go.V
open Go Go.Proofs
def scD (P:Program) (f:Nat):Bool:=match P.funcs[f]? with
 | some fn=>match fn.resultTypes.toList with
  | [T]=>(match TI.of P T with
   | some ⟨.int _,_,_,_,_⟩=>true
   | some ⟨.bool,_,_,_,_⟩=>true
   | some ⟨.str,_,_,_,_⟩=>true
   | _=>false)
  | _=>false
 | none=>false
def fnD (P:Program) (f:Nat):Option (Nat×Code×List ResultVar):=match P.funcs[f]? with
 | some fn=>match fn.body with
  | some c=>some (fn.ntmps,c,fn.results.toList)
  | none=>none
 | none=>none
def mkG (P:Program):XG:=⟨fun t=>TI.of P t,fun t=>zfit P t,fun t=>eqKinds P t,fnD P,scD P,fun _=>none,fun _=>none,fun _=>false⟩
def yaq (P:Program):Bool:=(List.range P.funcs.size).all fun f=>match P.funcs[f]? with
 | some fn => fn.name != "runtime.NumGoroutine"
 | none=>true
theorem yfh {P:Program} (h:yaq P=true):XGood P (mkG P):=by
 refine ⟨fun h=>h,fun h=>h,fun h=>h,?_,fun h=>(by cases h),fun h=>(by cases h)⟩
 intro f n c rs hf
 have hf:fnD P f=some (n,c,rs):=hf
 unfold fnD at hf
 split at hf
 ·rename_i fn hfn
  split at hf
  ·rename_i c' hb
   cases hf;refine ⟨?_,fn,hfn,hb,rfl,rfl⟩
   unfold yaq at h;have hlt:f<P.funcs.size:=by
    obtain ⟨h1,_⟩:=Array.getElem?_eq_some_iff.1 hfn;exact h1
   have:=(List.all_eq_true.1 h) f (List.mem_range.2 hlt)
   rw [hfn] at this;unfold callable;rw [hfn];simp only at this ⊢
   rw [this,hb];rfl
  ·cases hf
 ·cases hf
theorem yil:yaq Tryz.prog=true:=by kernel_rfl
theorem yim:Tryz.prog.follows .mixedOrders=true:=by kernel_rfl
def isT (r:Option XR):Bool:=match r with
 | some ⟨.d (.bool true),_,_,_⟩=>true
 | _=>false
theorem z1o {f k:Nat} (h:isT (yh1 (mkG Tryz.prog) (ye9 (mkG Tryz.prog)) k f [] [] 0)=true):zam Tryz.prog f [] (.bool true):=by
 have hg:=yfc yim (yfh yil) k
 unfold isT at h
 split at h
 ·rename_i nx own mv hr
  have:=hg _ _ _ _ _ hr (by simp [Sym.los])
  exact zlc (ds:=[]) this
 ·cases h
theorem z1p:isT (yh1 (mkG Tryz.prog) (ye9 (mkG Tryz.prog)) 50 14 [] [] 0)=true:=by kernel_rfl
theorem zmb:zam Tryz.prog 14 [] (.bool true):=z1o z1p
end Go.V
namespace Go.V
open Go Go.Proofs
theorem zuf {l:List Dec} (h:zq1 l=true):fewL l=true:=by
 unfold zq1 at h;rw [Bool.and_eq_true] at h;exact h.1
theorem z5e {l:List Dec} (h:fewL l=true):l.length≤40:=by
 simp only [fewL,Bool.and_eq_true,decide_eq_true_eq] at h;exact h.1
end Go.V
namespace Go.V
open Go Go.Proofs
structure AtOk (l:List Dec) (k:Nat) (h:k<l.length):Prop where
 rcd:isId l[k].ref.rcd=true
 note:isId l[k].ref.note=true
 ne:l[k].pick.length≠0
 le:l[k].pick.length≤4
 less : ∀ j (hj:j+1=k),z1j (l[j]'(by omega)) l[k]=true
 riv:(l.take k).any (zcp l[k])=false
end Go.V
namespace Go.V
open Go Go.Proofs
end Go.V
namespace Go.V
open Go Go.Proofs
structure GoodD (x:Dec):Prop where
 rcd:isId x.ref.rcd=true
 note:isId x.ref.note=true
 ne:x.pick.length≠0
 le:x.pick.length≤4
end Go.V
namespace Go.V
open Go Go.Proofs
end Go.V

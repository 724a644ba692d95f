/- Contracts and plain laws of this seat: part MA. It needs no conditions. -/
import Derived.Test.YtmpknkjlhapcmaaGreatM1
import Derived.Test.YtmpknkjlhapcmaaGreatW1
import Derived.Test.YtmpknkjlhapcmaaGreatM9
set_option linter.unusedVariables false
set_option linter.unusedSimpArgs false
set_option linter.unusedSectionVars false
set_option maxRecDepth 100000
namespace Go.V
open Go
section
variable {P:Program} {p q:List Nat} {l:List Oper}
structure PermOk (p q:List Nat) (l:List Oper):Prop where
 len:p.length=l.length
 fwd : ∀ i,i<l.length→p.getD i l.length<l.length∧q.getD (p.getD i l.length) l.length=i
 bwd : ∀ i,i<l.length→q.getD i l.length<l.length∧p.getD (q.getD i l.length) l.length=i
 plain : ∀ o∈l,o.guard=none∧∀ e∈o.after.toList,e.on<l.length
structure RelB (q:List Nat) (n:Nat) (Lb Lc:Array Bool):Prop where
 size:Lb.size=n
 size':Lc.size=n
 same : ∀ i,i<n→Lc.getD (q.getD i n) false=Lb.getD i false
theorem RelB.set (h:PermOk p q l) {Lb Lc:Array Bool} (hr:RelB q l.length Lb Lc) {i:Nat} (hi:i<l.length):RelB q l.length (Lb.setIfInBounds i true) (Lc.setIfInBounds (q.getD i l.length) true):=by
 have hq:=h.bwd i hi
 refine ⟨by simpa using hr.size,by simpa using hr.size',fun j hj=>?_⟩
 have hqj:=h.bwd j hj
 have hs:=hr.same j hj
 have e1:q.getD j l.length<Lc.size:=by rw [hr.size'];exact hqj.1
 have e2:j<Lb.size:=by rw [hr.size];exact hj
 by_cases e:i=j
 ·subst e
  rw [List.getD_eq_getElem?_getD] at e1;simp [Array.getD,e1,e2]
 ·have hne:q.getD i l.length≠q.getD j l.length:=by
   intro hh;have:=hq.2
   rw [hh,hqj.2] at this;exact e this.symm
  have g1:(Lc.setIfInBounds (q.getD i l.length) true).getD (q.getD j l.length) false=Lc.getD (q.getD j l.length) false:=by
   simp only [Array.getD,Array.size_setIfInBounds,e1,dif_pos];exact Array.getElem_setIfInBounds_ne _ hne
  have g2:(Lb.setIfInBounds i true).getD j false=Lb.getD j false:=by
   simp only [Array.getD,Array.size_setIfInBounds,e2,dif_pos];exact Array.getElem_setIfInBounds_ne _ e
  rw [g1,g2,hs]
variable {st:St}
end
end Go.V
namespace Go.V
open Go
section
variable {P:Program} {ops:Array Oper} {Q:Exit→Act→World→Prop}
end
structure WaitOk (P:Program) (x y:Nat) (l:List Oper):Prop where
 ne:x≠y
 xs:x<l.length
 ys:y<l.length
 free : ∀ o,l[x]?=some o→o.after = #[]
 plain : ∀ o∈l,o.guard=none∧(∀ cs b,o.op≠.select cs b)
 dep : ∀ (j:Nat) o,l[j]?=some o→(∃ e∈o.after.toList,e.on=y)→∃ e∈o.after.toList,Region.binds .any e=true∧e.on=x
 apart : ∀ (j:Nat) o oy,l[j]?=some o→l[y]?=some oy→j≠y→(∀ e∈o.after.toList,e.on≠y)→(∀ e∈oy.after.toList,Region.binds .any e=true→e.on≠j)→oy.apart l.toArray o=true
 valx : ∀ ox,l[x]?=some ox→∀ (a:Act) (w:World),∃ u w1,(execOp a.eval ox).run P w = .ok (.value u) w1
 val : ∀ oy,l[y]?=some oy→∀ a:Act,(∃ v,∀ w,(execOp a.eval oy).run P w = .ok (.value v) w)∨∀ w,∃ h w1,(execOp a.eval oy).run P w = .halt (.stuck h) w1
section
variable {P:Program} {x y:Nat} {l:List Oper}
variable {p q:List Nat} {st:St}
end
end Go.V
namespace Go.V
open Go Go.Proofs
section
variable {P:Program} {st:St} {Q:DE→St→Prop}
end
end Go.V
namespace Go.V
open Go Go.Proofs
end Go.V
namespace Go.V
open Go Go.Proofs
end Go.V

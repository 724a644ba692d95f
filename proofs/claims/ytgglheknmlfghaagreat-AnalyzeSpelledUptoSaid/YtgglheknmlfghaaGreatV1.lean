/- A program logic of my own over the kit: part V1. It needs no conditions. -/
import GoSem.Core.Sem
import Derived.Below
import Derived.WalkKit
import Derived.ProofKit
import Derived.WalkLawsBesides
import Derived.WalkSpells
import Derived.Scope
import Derived.Laws.Small
import Derived.MapKept
import Derived.Laws.StructEq
set_option linter.unusedVariables false
set_option linter.unusedSimpArgs false
set_option linter.unusedSectionVars false
namespace Go.V
open Go
theorem zpk {p:Program} {w w':World} {x:Addr} {u:TypeId} {k:Addr} {v:Value} {at_:Bool} {l:List Addr} (h:w.viewStore p x u k v at_ = .ok (w',l)):w'.drawn=w.drawn:=by
 unfold World.viewStore at h
 simp only [bind,Except.bind,pure,Except.pure,throw,throwThe,MonadExceptOf.throw] at h
 repeat' (first | (split at h) | (cases h;done))
 all_goals first | (cases h;rfl) | (exact absurd h (by simp)) | skip
theorem zq5 {p:Program} {w w':World} {a:Addr} {v:Value} {b:Bool} {l:List Addr} (h:w.farStore p a v b = .ok (w',l)):w'.drawn=w.drawn:=by
 unfold World.farStore at h
 split at h
 ·split at h
  ·rename_i r hr
   obtain ⟨w2,l2⟩:=r;cases h;exact zpk hr
  ·cases h
 ·cases h
theorem zpl {α:Type} : ∀ (q:Ask α) (w:World),w.drawn≤(w.ask q).2.drawn
 | .done a,w=>by simp [World.ask]
 | .ask what range k,w=>by
  simp only [World.ask];split
  ·exact zpl _ w
  ·exact Nat.le_trans (Nat.le_succ _) (zpl _ {w with drawn:=w.drawn+1})
theorem z7q (w:World) (c:Sys):w.drawn≤(w.sys c).2.drawn:=by
 have h:=zpl (Kernel.perform c w.os) w
 unfold World.sys
 split
 ·exact Nat.le_refl _
 ·rename_i r os w2 he
  rw [he] at h;exact h
theorem zbx {α:Type} (p:Program) : ∀ (s:Sem α) (w:World) (v:α) (w':World),s.run p w = .ok v w'→w.drawn≤w'.drawn
 | .pure a,w,v,w',h=>by simp only [Sem.run] at h;cases h;exact Nat.le_refl _
 | .load m a k,w,v,w',h=>by
  simp only [Sem.run] at h;split at h
  ·exact zbx p _ _ _ _ h
  ·split at h
   ·exact zbx p _ _ _ _ h
   ·cases h
 | .store m a x k,w,v,w',h=>by
  cases x <;> simp only [Sem.run] at h <;> (try (cases h;done)) <;>
  (split at h
   ·split at h
    ·cases h
    ·have:=zbx p _ _ _ _ h;simpa [World.setCell] using this
   ·split at h
    ·rename_i w2 _ hf;have:=zbx p _ _ _ _ h;rw [← zq5 hf];exact this
    ·cases h)
 | .new o k,w,v,w',h=>by simp only [Sem.run] at h;have:=zbx p _ _ _ _ h;exact this
 | .shape r k,w,v,w',h=>by simp only [Sem.run] at h;exact zbx p _ _ _ _ h
 | .freeze a n k,w,v,w',h=>by
  simp only [Sem.run] at h;have:=zbx p _ _ _ _ h
  unfold World.freeze at this;split at this <;> exact this
 | .frozen a k,w,v,w',h=>by simp only [Sem.run] at h;exact zbx p _ _ _ _ h
 | .getObj r k,w,v,w',h=>by
  simp only [Sem.run] at h;split at h
  ·cases h
  ·exact zbx p _ _ _ _ h
  ·cases h
 | .setObj r o k,w,v,w',h=>by
  simp only [Sem.run] at h;split at h
  ·cases h
  ·have:=zbx p _ _ _ _ h;exact this
  ·cases h
 | .choose q k,w,v,w',h=>by
  simp only [Sem.run] at h;split at h
  ·exact zbx p _ _ _ _ h
  ·exact Nat.le_trans (Nat.le_succ _) (zbx p _ _ _ _ h)
 | .sys c k,w,v,w',h=>by simp only [Sem.run] at h;exact Nat.le_trans (z7q w c) (zbx p _ _ _ _ h)
 | .program k,w,v,w',h=>by simp only [Sem.run] at h;exact zbx p _ _ _ _ h
 | .mark m k,w,v,w',h=>by simp only [Sem.run] at h;exact zbx p _ _ _ _ h
 | .halt e,w,v,w',h=>by simp only [Sem.run] at h;cases h
class Dr where
 dr:Bool
variable [Dr]
def Drw (w w':World):Prop:=Dr.dr=true→w.drawn≤w'.drawn
theorem Drw.refl (w:World):Drw w w:=fun _=>Nat.le_refl _
theorem Drw.trans {a b c:World} (h:Drw a b) (k:Drw b c):Drw a c:=fun hd=>Nat.le_trans (h hd) (k hd)
end Go.V
namespace Go.V
variable [Dr]
open Go.RowKit
structure Below (B:Nat) (w w':World):Prop extends Go.RowKit.Below B w w' where
 drawn:Drw w w'
theorem Below.refl (B:Nat) (w:World):Below B w w:=⟨Go.RowKit.Below.refl B w,Drw.refl _⟩
theorem Below.trans {B:Nat} {a b c:World} (h:Below B a b) (k:Below B b c):Below B a c:=⟨h.toBelow.trans k.toBelow,h.drawn.trans k.drawn⟩
theorem Below.mono {B B':Nat} {w w':World} (h:Below B w w') (hb:B'≤B):Below B' w w':=⟨h.toBelow.mono hb,h.drawn⟩
theorem Below.alloc {B:Nat} {w w':World} (h:Below B w w') (hB:B≤w'.heap.size) (o:Obj):Below B w (w'.alloc o):=⟨h.toBelow.alloc hB o,h.drawn⟩
inductive D where
 | int (k:IntKind) (n:Int)
 | bool (b:Bool)
 | str (s:ByteArray)
 | sl (l:List (List D))
 | agg (l:List D)
 | ptr (l:List D)
 | tup (l:List D)
 | fn (f:Nat) (caps:List D)
 | val (v:Value)
 | mp (l:List (List D))
 deriving Inhabited
def rowLen:List (List D)→Nat
 | []=>0
 | r::_=>r.length
mutual
def R (w:World) (E:Nat→Prop):D→Value→Prop
 | .int k n,v=>v = .int k n
 | .bool b,v=>v = .bool b
 | .str s,v=>v = .string s
 | .sl l,v=>∃ a cap,v = .slice a l.length cap∧l.length≤cap∧cap≤maxLen∧(a=none→cap=0) ∧
   (l≠[]→∃ b off,a=some ⟨b,off,none⟩∧¬ E b∧b<w.heap.size∧zb2 w E b (rowLen l) l off)
 | .agg l,v=>∃ vs:List Value,v = .agg vs.toArray∧zae w E l vs
 | .ptr l,v=>∃ b off,v = .pointer (some ⟨b,off,none⟩)∧¬ E b∧b<w.heap.size∧Rrow w E b l off
 | .tup l,v=>∃ vs:List Value,v = .tuple vs.toArray∧za9 w E l vs
 | .fn f l,v=>∃ vs:List Value,v = .func (.func f) #[] vs.toArray∧za9 w E l vs
 | .val u,v=>v=u
 | .mp l,v=>∃ r es clock,v = .map (some r)∧¬ E r∧r<w.heap.size∧w.heap[r]?=some (.map es clock)∧zci w E l es.toList
def zci (w:World) (E:Nat→Prop):List (List D)→List MapEntry→Prop
 | [],es=>es=[]
 | row::rs,es=>∃ e es',es=e::es'∧za9 w E row [e.key,e.val]∧zci w E rs es'
def zae (w:World) (E:Nat→Prop):List D→List Value→Prop
 | [],vs=>vs=[]
 | d::ds,vs=>∃ v vs',vs=v::vs'∧v.oneCell'=true∧R w E d v∧zae w E ds vs'
def za9 (w:World) (E:Nat→Prop):List D→List Value→Prop
 | [],vs=>vs=[]
 | d::ds,vs=>∃ v vs',vs=v::vs'∧R w E d v∧za9 w E ds vs'
def zb2 (w:World) (E:Nat→Prop) (b sz:Nat):List (List D)→Nat→Prop
 | [],_=>True
 | r::rs,off=>r.length=sz∧Rrow w E b r off∧zb2 w E b sz rs (off+sz)
def Rrow (w:World) (E:Nat→Prop) (b:Nat):List D→Nat→Prop
 | [],_=>True
 | d::ds,off=>(∃ v,w.cell? ⟨b,off,none⟩=some v∧v.oneCell'=true∧R w E d v)∧Rrow w E b ds (off+1)
end
def Over (w:World) (E:Nat→Prop) (w':World) (E':Nat→Prop):Prop:=
 ∀ b,b<w.heap.size→¬ E b→¬ E' b∧w'.heap[b]?=w.heap[b]?
def GT:List (Nat×List D):=[]
def Glob (w:World) (E:Nat→Prop):Prop:=∀ g l,(g,l)∈GT→R w E (.ptr l) (.pointer (some ⟨g,0,none⟩))
def Seen (w:World) (E:Nat→Prop):Prop:=(∀ b,E b→b<w.heap.size)∧Glob w E
theorem Over.refl (w:World) (E:Nat→Prop):Over w E w E:=fun _ _ h=>⟨h,rfl⟩
theorem zjb {w w':World} {b:Nat} (h:b<w.heap.size) (e:w'.heap[b]?=w.heap[b]?):b<w'.heap.size:=by
 have:(w.heap[b]?).isSome=true:=by simp [h]
 rw [← e] at this
 simpa using this
theorem Over.trans {w w' w'':World} {E E' E'':Nat→Prop} (h:Over w E w' E') (h':Over w' E' w'' E''):Over w E w'' E'':=by
 intro b hb he
 have h1:=h b hb he
 have h2:=h' b (zjb hb h1.2) h1.1
 exact ⟨h2.1,h2.2.trans h1.2⟩
theorem Over.of_below {w w':World} (h:Below w.heap.size w w') (E:Nat→Prop):Over w E w' E:=fun b hb he=>⟨he,h.block b hb⟩
theorem Over.less {w:World} {E E':Nat→Prop} (h : ∀ b,E' b→E b):Over w E w E':=fun b _ he=>⟨fun h'=>he (h b h'),rfl⟩
theorem Over.cell {w w':World} {E E':Nat→Prop} (h:Over w E w' E') {b off:Nat} (hb:¬ E b) (hl:b<w.heap.size) :
  w'.cell? ⟨b,off,none⟩=w.cell? ⟨b,off,none⟩:=World.cell?_of_block (a:=⟨b,off,none⟩) (h b hl hb).2
mutual
theorem R.over {w w':World} {E E':Nat→Prop} (h:Over w E w' E') : ∀ (d:D) (v:Value),R w E d v→R w' E' d v
 | .int _ _,_,hr=>by simpa [R] using hr
 | .bool _,_,hr=>by simpa [R] using hr
 | .str _,_,hr=>by simpa [R] using hr
 | .sl l,v,hr=>by
  simp only [R] at hr ⊢;obtain ⟨a,cap,hv,h1,h2,h3,h4⟩:=hr;refine ⟨a,cap,hv,h1,h2,h3,fun hne=>?_⟩
  obtain ⟨b,off,ha,he,hl,hrows⟩:=h4 hne;exact ⟨b,off,ha,(h b hl he).1,zjb hl (h b hl he).2,zb2.over h b (rowLen l) he hl l off hrows⟩
 | .agg l,v,hr=>by
  simp only [R] at hr ⊢;obtain ⟨vs,hv,hc⟩:=hr;exact ⟨vs,hv,zae.over h l vs hc⟩
 | .ptr l,v,hr=>by
  simp only [R] at hr ⊢;obtain ⟨b,off,ha,he,hl,hrow⟩:=hr;exact ⟨b,off,ha,(h b hl he).1,zjb hl (h b hl he).2,Rrow.over h b he hl l off hrow⟩
 | .tup l,v,hr=>by
  simp only [R] at hr ⊢;obtain ⟨vs,hv,hc⟩:=hr;exact ⟨vs,hv,za9.over h l vs hc⟩
 | .fn f l,v,hr=>by
  simp only [R] at hr ⊢;obtain ⟨vs,hv,hc⟩:=hr;exact ⟨vs,hv,za9.over h l vs hc⟩
 | .val _,_,hr=>by simpa [R] using hr
 | .mp l,v,hr=>by
  simp only [R] at hr ⊢;obtain ⟨r,es,clock,hv,he,hl,hh,hents⟩:=hr;exact ⟨r,es,clock,hv,(h r hl he).1,zjb hl (h r hl he).2,(h r hl he).2.trans hh,zci.over h l _ hents⟩
theorem zci.over {w w':World} {E E':Nat→Prop} (h:Over w E w' E') : ∀ (l:List (List D)) (es:List MapEntry),zci w E l es→zci w' E' l es
 | [],_,hr=>by simpa [zci] using hr
 | row::rs,es,hr=>by
  simp only [zci] at hr ⊢;obtain ⟨e,es',h1,h2,h3⟩:=hr;exact ⟨e,es',h1,za9.over h row _ h2,zci.over h rs es' h3⟩
theorem zae.over {w w':World} {E E':Nat→Prop} (h:Over w E w' E') : ∀ (l:List D) (vs:List Value),zae w E l vs→zae w' E' l vs
 | [],_,hr=>by simpa [zae] using hr
 | d::ds,vs,hr=>by
  simp only [zae] at hr ⊢;obtain ⟨v,vs',h1,h2,h3,h4⟩:=hr;exact ⟨v,vs',h1,h2,R.over h d v h3,zae.over h ds vs' h4⟩
theorem za9.over {w w':World} {E E':Nat→Prop} (h:Over w E w' E') : ∀ (l:List D) (vs:List Value),za9 w E l vs→za9 w' E' l vs
 | [],_,hr=>by simpa [za9] using hr
 | d::ds,vs,hr=>by
  simp only [za9] at hr ⊢;obtain ⟨v,vs',h1,h3,h4⟩:=hr;exact ⟨v,vs',h1,R.over h d v h3,za9.over h ds vs' h4⟩
theorem zb2.over {w w':World} {E E':Nat→Prop} (h:Over w E w' E') (b sz:Nat) (he:¬ E b) (hl:b<w.heap.size) : ∀ (l:List (List D)) (off:Nat),zb2 w E b sz l off→zb2 w' E' b sz l off
 | [],_,_=>by simp [zb2]
 | r::rs,off,hr=>by
  simp only [zb2] at hr ⊢;exact ⟨hr.1,Rrow.over h b he hl r off hr.2.1,zb2.over h b sz he hl rs _ hr.2.2⟩
theorem Rrow.over {w w':World} {E E':Nat→Prop} (h:Over w E w' E') (b:Nat) (he:¬ E b) (hl:b<w.heap.size) : ∀ (l:List D) (off:Nat),Rrow w E b l off→Rrow w' E' b l off
 | [],_,_=>by simp [Rrow]
 | d::ds,off,hr=>by
  simp only [Rrow] at hr ⊢;obtain ⟨⟨v,hc,h1,h2⟩,hr⟩:=hr;exact ⟨⟨v,(h.cell he hl).trans hc,h1,R.over h d v h2⟩,Rrow.over h b he hl ds _ hr⟩
end
section
variable {w:World} {E:Nat→Prop} {b sz:Nat}
theorem Rrow.get {l:List D} : ∀ {off j:Nat} {d:D},Rrow w E b l off→l[j]?=some d→∃ v,w.cell? ⟨b,off+j,none⟩=some v∧v.oneCell'=true∧R w E d v:=by
 induction l with
 | nil=>intro off j d _ h;simp at h
 | cons x xs ih=>
  intro off j d h hj;simp only [Rrow] at h;cases j with
  | zero=>simp at hj;subst hj;simpa using h.1
  | succ j=>have:=ih h.2 (by simpa using hj);simpa [Nat.add_assoc,Nat.add_comm 1 j] using this
theorem Rrow.drop {l:List D} : ∀ {off:Nat} (n:Nat),Rrow w E b l off→Rrow w E b (l.drop n) (off+n):=by
 induction l with
 | nil=>intro off n _;simp [Rrow]
 | cons x xs ih=>
  intro off n h;cases n with
  | zero=>simpa using h
  | succ n=>
   simp only [Rrow] at h;have:=ih n h.2
   simpa [Nat.add_assoc,Nat.add_comm 1 n] using this
theorem Rrow.take {l:List D} : ∀ {off:Nat} (n:Nat),Rrow w E b l off→Rrow w E b (l.take n) off:=by
 induction l with
 | nil=>intro off n _;simp [Rrow]
 | cons x xs ih=>
  intro off n h;cases n with
  | zero=>simp [Rrow]
  | succ n=>
   simp only [Rrow,List.take_succ_cons] at h ⊢;exact ⟨h.1,ih n h.2⟩
theorem Rrow.append {l m:List D} : ∀ {off:Nat},Rrow w E b l off→Rrow w E b m (off+l.length)→Rrow w E b (l++m) off:=by
 induction l with
 | nil=>intro off _ h;simpa using h
 | cons x xs ih=>
  intro off h h';simp only [Rrow,List.cons_append] at h ⊢;refine ⟨h.1,ih h.2 ?_⟩
  simpa [Nat.add_assoc,Nat.add_comm 1 xs.length] using h'
theorem zb2.get {l:List (List D)} : ∀ {off i:Nat} {r:List D},zb2 w E b sz l off→l[i]?=some r→r.length=sz∧Rrow w E b r (off+i*sz):=by
 induction l with
 | nil=>intro off j d _ h;simp at h
 | cons x xs ih=>
  intro off i r h hi;simp only [zb2] at h;cases i with
  | zero=>simp at hi;subst hi;simpa using ⟨h.1,h.2.1⟩
  | succ i=>
   have:=ih h.2.2 (by simpa using hi)
   refine ⟨this.1,?_⟩
   have e:off+sz+i*sz=off+(i+1)*sz:=by rw [Nat.add_mul];omega
   rw [← e];exact this.2
theorem zb2.drop {l:List (List D)} : ∀ {off:Nat} (n:Nat),zb2 w E b sz l off→zb2 w E b sz (l.drop n) (off+n*sz):=by
 induction l with
 | nil=>intro off n _;simp [zb2]
 | cons x xs ih=>
  intro off n h;cases n with
  | zero=>simpa using h
  | succ n=>
   simp only [zb2] at h;have:=ih n h.2.2
   have e:off+sz+n*sz=off+(n+1)*sz:=by rw [Nat.add_mul];omega
   rw [e] at this;exact this
theorem zb2.take {l:List (List D)} : ∀ {off:Nat} (n:Nat),zb2 w E b sz l off→zb2 w E b sz (l.take n) off:=by
 induction l with
 | nil=>intro off n _;simp [zb2]
 | cons x xs ih=>
  intro off n h;cases n with
  | zero=>simp [zb2]
  | succ n=>
   simp only [zb2,List.take_succ_cons] at h ⊢;exact ⟨h.1,h.2.1,ih n h.2.2⟩
theorem zb2.length {l:List (List D)} : ∀ {off:Nat},zb2 w E b sz l off→∀ r∈l,r.length=sz:=by
 induction l with
 | nil=>intro off _ r h;cases h
 | cons x xs ih=>
  intro off h r hr;simp only [zb2] at h;rcases List.mem_cons.1 hr with e | hr
  ·subst e;exact h.1
  ·exact ih h.2.2 r hr
theorem zb2.flat {l:List (List D)} : ∀ {off:Nat},zb2 w E b sz l off→Rrow w E b l.flatten off:=by
 induction l with
 | nil=>intro off _;simp [Rrow]
 | cons x xs ih=>
  intro off h;simp only [zb2] at h;simp only [List.flatten_cons];refine Rrow.append h.2.1 ?_
  rw [h.1];exact ih h.2.2
theorem zb2.of_flat {l:List (List D)} : ∀ {off:Nat},(∀ r∈l,r.length=sz)→Rrow w E b l.flatten off→zb2 w E b sz l off:=by
 induction l with
 | nil=>intro off _ _;simp [zb2]
 | cons x xs ih=>
  intro off hl h;simp only [List.flatten_cons] at h;have h0:=hl x (by simp)
  simp only [zb2];refine ⟨h0,?_,ih (fun r hr=>hl r (by simp [hr])) ?_⟩
  ·have:=Rrow.take x.length h;simpa using this
  ·have:=Rrow.drop x.length h;rw [h0] at this;simpa [h0] using this
theorem zae.length {l:List D} : ∀ {vs:List Value},zae w E l vs→vs.length=l.length:=by
 induction l with
 | nil=>intro vs h;simp only [zae] at h;simp [h]
 | cons x xs ih=>intro vs h;simp only [zae] at h;obtain ⟨v,vs',rfl,_,_,h⟩:=h;simp [ih h]
theorem za9.length {l:List D} : ∀ {vs:List Value},za9 w E l vs→vs.length=l.length:=by
 induction l with
 | nil=>intro vs h;simp only [za9] at h;simp [h]
 | cons x xs ih=>intro vs h;simp only [za9] at h;obtain ⟨v,vs',rfl,_,h⟩:=h;simp [ih h]
theorem zae.get {l:List D} : ∀ {vs:List Value} {j:Nat} {d:D},zae w E l vs→l[j]?=some d→∃ v,vs[j]?=some v∧v.oneCell'=true∧R w E d v:=by
 induction l with
 | nil=>intro vs j d _ h;simp at h
 | cons x xs ih=>
  intro vs j d h hj;simp only [zae] at h;obtain ⟨v,vs',rfl,h1,h2,h⟩:=h;cases j with
  | zero=>simp at hj;subst hj;exact ⟨v,by simp,h1,h2⟩
  | succ j=>have:=ih h (by simpa using hj);simpa using this
theorem za9.get {l:List D} : ∀ {vs:List Value} {j:Nat} {d:D},za9 w E l vs→l[j]?=some d→∃ v,vs[j]?=some v∧R w E d v:=by
 induction l with
 | nil=>intro vs j d _ h;simp at h
 | cons x xs ih=>
  intro vs j d h hj;simp only [za9] at h;obtain ⟨v,vs',rfl,h2,h⟩:=h;cases j with
  | zero=>simp at hj;subst hj;exact ⟨v,by simp,h2⟩
  | succ j=>have:=ih h (by simpa using hj);simpa using this
theorem zae.vals {l:List D} : ∀ {vs:List Value},zae w E l vs→za9 w E l vs:=by
 induction l with
 | nil=>intro vs h;simpa [zae,za9] using h
 | cons x xs ih=>intro vs h;simp only [zae,za9] at h ⊢;obtain ⟨v,vs',rfl,_,h2,h⟩:=h;exact ⟨v,vs',rfl,h2,ih h⟩
theorem za9.cells {l:List D} : ∀ {vs:List Value},za9 w E l vs→(∀ v∈vs,v.oneCell'=true)→zae w E l vs:=by
 induction l with
 | nil=>intro vs h _;simpa [zae,za9] using h
 | cons x xs ih=>
  intro vs h h1;simp only [zae,za9] at h ⊢;obtain ⟨v,vs',rfl,h2,h⟩:=h;exact ⟨v,vs',rfl,h1 v (by simp),h2,ih h (fun u hu=>h1 u (by simp [hu]))⟩
theorem zae.one {l:List D} : ∀ {vs:List Value},zae w E l vs→∀ v∈vs,v.oneCell'=true:=by
 induction l with
 | nil=>intro vs h v hv;simp only [zae] at h;subst h;cases hv
 | cons x xs ih=>
  intro vs h v hv;simp only [zae] at h;obtain ⟨u,vs',rfl,h1,h2,h⟩:=h;rcases List.mem_cons.1 hv with e | hv
  ·subst e;exact h1
  ·exact ih h v hv
theorem zae.extract {l:List D} : ∀ {vs:List Value} (n m:Nat),zae w E l vs→zae w E ((l.drop n).take m) ((vs.drop n).take m):=by
 induction l with
 | nil=>intro vs n m h;simp only [zae] at h;subst h;simp [zae]
 | cons x xs ih=>
  intro vs n m h;simp only [zae] at h;obtain ⟨u,vs',rfl,h1,h2,h⟩:=h;cases n with
  | zero=>
   cases m with
   | zero=>simp [zae]
   | succ m=>
    have:=ih 0 m h
    simp only [List.drop_zero,List.take_succ_cons,zae] at this ⊢;exact ⟨u,_,rfl,h1,h2,this⟩
  | succ n=>simpa using ih n m h
theorem zae.append {l m:List D} : ∀ {vs us:List Value},zae w E l vs→zae w E m us→zae w E (l++m) (vs++us):=by
 induction l with
 | nil=>intro vs us h h';simp only [zae] at h;subst h;simpa using h'
 | cons x xs ih=>
  intro vs us h h';simp only [zae] at h;obtain ⟨u,vs',rfl,h1,h2,h⟩:=h;simp only [List.cons_append,zae];exact ⟨u,_,rfl,h1,h2,ih h h'⟩
theorem Rrow.cells {l:List D} : ∀ {off:Nat},Rrow w E b l off→∃ vs,zae w E l vs∧∀ j v,vs[j]?=some v→w.cell? ⟨b,off+j,none⟩=some v:=by
 induction l with
 | nil=>intro off _;exact ⟨[],by simp [zae],by simp⟩
 | cons x xs ih=>
  intro off h;simp only [Rrow] at h;obtain ⟨⟨v,hc,h1,h2⟩,h⟩:=h;obtain ⟨vs,hvs,hj⟩:=ih h;refine ⟨v::vs,by simp only [zae];exact ⟨v,vs,rfl,h1,h2,hvs⟩,fun j u hu=>?_⟩
  cases j with
  | zero=>simp at hu;subst hu;exact hc
  | succ j=>have:=hj j u (by simpa using hu);rw [← this];congr 2;omega
theorem Rrow.of_cells {l:List D} : ∀ {off:Nat} {vs:List Value},zae w E l vs→(∀ j v,vs[j]?=some v→w.cell? ⟨b,off+j,none⟩=some v)→Rrow w E b l off:=by
 induction l with
 | nil=>intro off vs _ _;simp [Rrow]
 | cons x xs ih=>
  intro off vs h hc;simp only [zae] at h;obtain ⟨u,vs',rfl,h1,h2,h⟩:=h;simp only [Rrow];refine ⟨⟨u,by simpa using hc 0 u (by simp),h1,h2⟩,ih h fun j v hv=>?_⟩
  have:=hc (j+1) v (by simpa using hv)
  rw [← this];congr 2;omega
end
theorem Glob.over {w w':World} {E E':Nat→Prop} (h:Over w E w' E') (hg:Glob w E):Glob w' E':=fun g l hm=>R.over h _ _ (hg g l hm)
theorem Glob.of_nil {w:World} {E:Nat→Prop} (h:GT=[]):Glob w E:=fun g l hm=>by rw [h] at hm;cases hm
end Go.V
namespace Go.V
class Ov where
 ov:Bool
variable [Dr] [Ov]
open Go.RowKit
inductive TK where
 | int (k:IntKind)
 | bool
 | str
 | slice (elem:Nat)
 | struct (fs:List (Nat×Nat×Bool))
 | ptr (e:Nat)
 | map (k e:Nat)
 | other
structure TI where
 kind:TK
 size:Nat
 bytes:Nat
 agg:Bool
 zero:List Value
def zml:TypeDesc→Bool
 | .struct _ | .array _ _=>true
 | _=>false
def zmm (P:Program) (f:Field):Option (Nat×Nat×Bool):=do
 let i ← P.info? f.type
 let u ← P.underlying f.type
 pure (f.offset,i.size,zml u)
def zc4 (P:Program):TypeDesc→TK
 | .int k=>.int k
 | .bool=>.bool
 | .string=>.str
 | .slice e=>.slice e
 | .struct fs=>match fs.toList.mapM (zmm P) with
  | some l=>.struct l
  | none=>.other
 | .pointer e=>.ptr e
 | .map k e=>.map k e
 | _=>.other
def TI.of (P:Program) (t:Nat):Option TI:=do
 let i ← P.info? t
 let u ← P.underlying t
 let z ← i.zero
 pure {kind:=zc4 P u,size:=i.size,bytes:=i.bytes,agg:=zml u,zero:=z.cells.toList}
inductive RK where
 | lp (ps:Array Tmp) (assign body:Code) (state:LoopState) (pend:Option Code)
 | it (s:ByteArray) (pos:Nat)
instance:Inhabited RK:=⟨.it ByteArray.empty 0⟩
def RK.obj:RK→Nat→Nat→List Value→Obj
 | .lp ps a b s p,fn,D,vs=>.loop {state:=s,pending:=p,fn,tmps:=vs.toArray,params:=ps,assign:=a,body:=b,defers:=D}
 | .it s pos,_,_,_=>.stringIter s pos
inductive Sym where
 | d (x:D)
 | nils
 | bp (id off:Nat)
 | ar (id:Nat)
 | ap (id sz i off:Nat)
 | aS (id sz lo n:Nat)
 | av (id sz lo n:Nat)
 | yd (id:Nat)
 | mp (id:Nat)
 | tup (l:List Sym)
 | agg (l:List Sym)
 | fn (f:Nat) (caps:List Sym)
 | junk
 deriving Inhabited
inductive Obj' where
 | box (T:Nat) (cells:List Sym)
 | arr (T:Nat) (sz:Nat) (rows:List (List D))
 | map (T:Nat) (rows:List (List D))
 | raw (k:RK) (cells:List Sym)
 deriving Inhabited
structure St where
 n:Nat
 next:Nat
 slots:List (Nat×Sym)
 own:List (Nat×Obj')
 base:Nat:=0
 moved:List Nat:=[]
def zab {α:Type}:List (Nat×α)→Nat→Option α
 | [],_=>none
 | (k,v)::r,t=>if k=t then some v else zab r t
def aset {α:Type} (t:Nat) (v:α):List (Nat×α)→List (Nat×α)
 | []=>[(t,v)]
 | (k,u)::r=>if k=t then (k,v)::r else (k,u)::aset t v r
def ofConst:Value→Sym
 | .int k n=>.d (.int k n)
 | .bool b=>.d (.bool b)
 | .string s=>.d (.str s)
 | .slice none 0 0=>.nils
 | v=>.d (.val v)
def St.val (st:St):Operand→Sym
 | .tmp t=>(zab st.slots t).getD .junk
 | .const v=>ofConst v
 | .func f=>.fn f []
 | .global g=>match zab GT g with
  | some l=>.d (.ptr l)
  | none=>.junk
def St.put (st:St) (dst:Option Tmp) (s:Sym):St:=
 match dst with
 | some t=>{st with slots:=(t,s)::st.slots}
 | none=>st
def St.look (st:St) (id:Nat):Option Obj':=zab st.own id
mutual
def Sym.lo (m:Nat):Sym→Prop
 | .bp id _ | .ar id | .ap id _ _ _ | .aS id _ _ _ | .av id _ _ _ | .mp id | .yd id=>id<m
 | .tup l | .agg l | .fn _ l=>Sym.los m l
 | _=>True
def Sym.los (m:Nat):List Sym→Prop
 | []=>True
 | s::r=>Sym.lo m s∧Sym.los m r
end
def Obj'.lo (m:Nat):Obj'→Prop
 | .box _ cells=>Sym.los m cells
 | .arr _ _ _=>True
 | .map _ _=>True
 | .raw _ cells=>Sym.los m cells
mutual
def Sm (w:World) (E:Nat→Prop) (β:Nat→Value):Sym→Value→Prop
 | .d x,v=>R w E x v
 | .nils,v=>v = .slice none 0 0
 | .bp id off,v=>∃ b,β id = .pointer (some ⟨b,0,none⟩)∧v = .pointer (some ⟨b,off,none⟩)
 | .ar id,v=>v=β id
 | .ap id sz i off,v=>∃ b n c,β id = .slice (some ⟨b,0,none⟩) n c∧v = .pointer (some ⟨b,i*sz+off,none⟩)
 | .aS id sz lo n,v=>∃ b m c k,β id = .slice (some ⟨b,0,none⟩) m c∧v = .slice (some ⟨b,lo*sz,none⟩) n k∧n≤k∧k≤maxLen
 | .av id sz lo n,v=>∃ b c,β id = .slice (some ⟨b,0,none⟩) c c∧v = .slice (some ⟨b,lo*sz,none⟩) n (c-lo)∧lo+n≤c∧c≤maxLen
 | .mp id,v=>v=β id
 | .yd id,v=>∃ b,β id = .pointer (some ⟨b,0,none⟩)∧v = .func (.yield b) #[] #[]
 | .tup l,v=>∃ vs:List Value,v = .tuple vs.toArray∧Sms w E β l vs
 | .agg l,v=>∃ vs:List Value,v = .agg vs.toArray∧Sms w E β l vs∧(∀ u∈vs,u.oneCell'=true)
 | .fn f l,v=>∃ vs:List Value,v = .func (.func f) #[] vs.toArray∧Sms w E β l vs
 | .junk,_=>True
def Sms (w:World) (E:Nat→Prop) (β:Nat→Value):List Sym→List Value→Prop
 | [],vs=>vs=[]
 | s::r,vs=>∃ v vs',vs=v::vs'∧Sm w E β s v∧Sms w E β r vs'
end
def blk:Value→Option Nat
 | .slice (some a) _ _=>some a.block
 | .pointer (some a)=>some a.block
 | .map (some r)=>some r
 | _=>none
structure Base where
 w:World
 foot:Nat→Prop
 β0:Nat→Value
def Base.may (B:Base) (b:Nat):Prop:=B.w.heap.size≤b∨B.foot b
def Base.of (w:World):Base:=⟨w,fun _=>False,fun _=>.pointer none⟩
structure Kept (B:Base) (w:World):Prop where
 os:w.os=B.w.os
 tape:w.tape=B.w.tape
 output:w.output=B.w.output
 size:B.w.heap.size≤w.heap.size
 block : ∀ k,¬ B.may k→w.heap[k]?=B.w.heap[k]?
 drawn:Drw B.w w
theorem Kept.refl (B:Base):Kept B B.w:=⟨rfl,rfl,rfl,Nat.le_refl _,fun _ _=>rfl,Drw.refl _⟩
theorem Base.lt {B:Base} {k:Nat} (h:¬ B.may k):k<B.w.heap.size:=by
 rcases Nat.lt_or_ge k B.w.heap.size with h' | h'
 ·exact h'
 ·exact absurd (.inl h') h
theorem Kept.next {B:Base} {w w':World} (h:Kept B w) (hb:Below w.heap.size w w'):Kept B w':=
 ⟨hb.os.trans h.os,hb.tape.trans h.tape,hb.output.trans h.output,Nat.le_trans h.size hb.size,fun k hk=>(hb.block k (Nat.lt_of_lt_of_le (Base.lt hk) h.size)).trans (h.block k hk),h.drawn.trans hb.drawn⟩
theorem Kept.turn {B:Base} {w w':World} (h:Kept B w) (os:w'.os=w.os) (tape:w'.tape=w.tape) (output:w'.output=w.output) (size:w.heap.size≤w'.heap.size)
  (block : ∀ k,k<w.heap.size→¬ B.may k→w'.heap[k]?=w.heap[k]?) (drawn:Drw w w'):Kept B w':=
 ⟨os.trans h.os,tape.trans h.tape,output.trans h.output,Nat.le_trans h.size size,fun k hk=>(block k (Nat.lt_of_lt_of_le (Base.lt hk) h.size) hk).trans (h.block k hk),h.drawn.trans drawn⟩
theorem Kept.below {w w':World} (h:Kept (.of w) w'):Below w.heap.size w w':=
 ⟨⟨h.os,h.tape,h.output,h.size,fun k hk=>h.block k (fun hm=>hm.elim (fun h'=>by have:w.heap.size≤k:=h';omega) (fun h'=>h'))⟩,h.drawn⟩
def zcv (w:World) (b:Nat):Prop:=∀ (arr:Array Value) (T:Nat) (fz:Nat×Nat),w.heap[b]?=some (.cells arr T fz)→∀ u∈arr.toList,u.oneCell'=true
theorem zcv.same {w w':World} {b:Nat} (h:zcv w b) (e:w'.heap[b]?=w.heap[b]?):zcv w' b:=by
 intro arr T fz ha;exact h arr T fz (e▸ha)
theorem zcv.of {w:World} {b:Nat} {arr:Array Value} {T:Nat} {fz:Nat×Nat} (h:w.heap[b]?=some (.cells arr T fz)) (h1 : ∀ u∈arr.toList,u.oneCell'=true):zcv w b:=by
 intro arr' T' fz' ha
 rw [h] at ha;cases ha;exact h1
def Owns (N:Nat→Prop) (w:World) (T sz:Nat) (v:Value) (n:Nat) (xs:List Value):Prop:=w.ownsRow 0 T sz v n xs∧∀ b,blk v=some b→N b∧zcv w b
theorem Owns.row {N:Nat→Prop} {w:World} {T sz n base:Nat} {v:Value} {xs:List Value} (h:Owns N w T sz v n xs) (hN : ∀ b,N b→base≤b):w.ownsRow base T sz v n xs:=by
 refine ⟨h.1.1,?_⟩
 rcases h.1.2 with hn | ⟨g,cap,cur,h1,h2,h3⟩
 ·exact .inl hn
 ·exact .inr ⟨g,cap,cur,h1,hN g (h.2 g (by rw [h1];rfl)).1,h3⟩
theorem Owns.yfl {N:Nat→Prop} {w:World} {T sz n base:Nat} {v:Value} {xs:List Value} (h:w.ownsRow base T sz v n xs) (h1s : ∀ b,blk v=some b→zcv w b) (hN : ∀ b,base≤b→N b):Owns N w T sz v n xs:=by
 refine ⟨⟨h.1,?_⟩,?_⟩
 ·rcases h.2 with hn | ⟨g,cap,cur,h1,h2,h3⟩
  ·exact .inl hn
  ·exact .inr ⟨g,cap,cur,h1,Nat.zero_le _,h3⟩
 ·intro b hb
  rcases h.2 with ⟨hn,_⟩ | ⟨g,cap,cur,h1,h2,h3⟩
  ·rw [hn] at hb;simp [blk] at hb
  ·exact ⟨by rw [h1] at hb;simp [blk] at hb;subst hb;exact hN g h2,h1s b hb⟩
def zc9 (w:World) (N:Nat→Prop) (E:Nat→Prop) (β:Nat→Value) (id:Nat):Obj'→Prop
 | .box T cells=>∃ b vs,β id = .pointer (some ⟨b,0,none⟩)∧N b∧w.heap[b]?=some (.cells vs.toArray T (0,0))∧Sms w E β cells vs∧(∀ v∈vs,v.oneCell'=true)
 | .arr T sz rows=>∃ xs,Owns N w T sz (β id) rows.length xs∧zae w E rows.flatten xs∧(∀ r∈rows,r.length=sz)
 | .map _ rows=>∃ r es clock,β id = .map (some r)∧N r∧w.heap[r]?=some (.map es clock)∧zci w E rows es.toList
 | .raw k cells=>∃ b fn D vs,β id = .pointer (some ⟨b,0,none⟩)∧N b∧w.heap[b]?=some (k.obj fn D vs)∧Sms w E β cells vs
def Ex (X:Nat→Prop) (β:Nat→Value) (own:List (Nat×Obj')) (b:Nat):Prop:=X b∨∃ id o,(id,o)∈own∧blk (β id)=some b
structure Mods (X:Nat→Prop) (w0:Base) (st:St) (β:Nat→Value) (a:Act) (w:World):Prop where
 outer:(∀ b,X b→¬ w0.may b)∧Glob w0.w (fun b=>X b∨w0.foot b)
 still:st.base≤st.next∧∀ id,id<st.base→id∉st.moved→β id=w0.β0 id
 one : ∀ id,(β id).oneCell'=true
 defers:a.defers=[]
 size:a.tmps.size=st.n
 below:Kept w0 w
 keys:(st.own.map (·.1)).Nodup
 own : ∀ id o,(id,o)∈st.own→id<st.next∧o.lo st.next∧zc9 w w0.may (Ex X β st.own) β id o
 apart : ∀ id o id' o' b,(id,o)∈st.own→(id',o')∈st.own→blk (β id)=some b→blk (β id')=some b→id=id'
 slots : ∀ t s,zab st.slots t=some s→Sym.lo st.next s∧Sm w (Ex X β st.own) β s (a.tmps.getD t undef)
def callable (P:Program) (f:Nat):Bool:=match P.funcs[f]? with
 | some fn => fn.name != "runtime.NumGoroutine" && fn.body.isSome
 | none=>false
def zay (P:Program) (f:Nat) (args:List D) (r:D):Prop:=
 callable P f=true∧∀ (w:World) (E:Nat→Prop) (vs:List Value),Seen w E→za9 w E args vs →
  Calls P f vs.toArray w fun e w'=>∃ v,e = .returned v∧Below w.heap.size w w'∧R w' E r v
mutual
def D.scalar:D→Bool
 | .int _ _ | .bool _ | .str _=>true
 | .tup l=>D.scalars l
 | .agg l=>D.scalars l
 | _=>false
def D.scalars:List D→Bool
 | []=>true
 | d::r=>D.scalar d&&D.scalars r
end
def zt3 (look:Nat→Option Obj'):Sym→Option D
 | .d x=>some x
 | .nils=>some (.sl [])
 | .ar id=>match look id with
  | some (.arr _ _ rows)=>some (.sl rows)
  | _=>none
 | _=>none
def cellsD (look:Nat→Option Obj'):List Sym→Option (List D)
 | []=>some []
 | s::r=>match zt3 look s,cellsD look r with
  | some x,some xs=>some (x::xs)
  | _,_=>none
mutual
def lend (look:Nat→Option Obj'):Sym→Option (D×Bool)
 | .d x=>some (x,false)
 | .nils=>some (.sl [],false)
 | .bp id off=>match look id with
  | some (.box _ cells)=>match cellsD look cells with
   | some ds=>some (.ptr (ds.drop off),true)
   | none=>none
  | _=>none
 | .ar id=>match look id with
  | some (.arr _ _ rows)=>some (.sl rows,true)
  | _=>none
 | .mp id=>match look id with
  | some (.map _ rows)=>some (.mp rows,true)
  | _=>none
 | .agg l=>match zid look l with
  | some (ds,b)=>some (.agg ds,b)
  | none=>none
 | .fn f l=>match zid look l with
  | some (ds,b)=>some (.fn f ds,b)
  | none=>none
 | _=>none
def zid (look:Nat→Option Obj'):List Sym→Option (List D×Bool)
 | []=>some ([],false)
 | s::r=>match lend look s,zid look r with
  | some (d,b),some (ds,c)=>some (d::ds,b || c)
  | _,_=>none
end
def unD:Sym→Option D
 | .d x=>some x
 | .nils=>some (.sl [])
 | _=>none
def allD:List Sym→Option (List D)
 | []=>some []
 | s::r=>match unD s,allD r with
  | some x,some xs=>some (x::xs)
  | _,_=>none
def zlf (l:List Sym):Sym:=match allD l with
 | some ds=>.d (.agg ds)
 | none=>.agg l
def headD (ti:TI) (l:List D) (k:Sym→Prop):Prop:=
 if ti.agg=true then ti.size≤l.length∧k (.d (.agg (l.take ti.size)))
 else match l with
  | x::_=>k (.d x)
  | []=>False
def zq6 (ti:TI) (l:List Sym) (k:Sym→Prop):Prop:=
 if ti.agg=true then ti.size≤l.length∧k (zlf (l.take ti.size))
 else match l with
  | x::_=>k x
  | []=>False
def zkh (look:Nat→Option Obj') (ti:TI):Sym→(Sym→Prop)→Prop
 | .d (.ptr l),k=>headD ti l k
 | .bp id off,k=>match look id with
  | some (.box _ cells)=>zq6 ti (cells.drop off) k
  | _=>False
 | .ap id sz i off,k=>match look id with
  | some (.arr _ sz' rows)=>sz=sz'∧i<rows.length∧headD ti ((rows.getD i []).drop off) k
  | _=>False
 | _,_=>False
def zdq (kd:TK) (x:Sym) (f:Nat) (k:Sym→Prop):Prop:=
 match kd with
 | .struct fs=>match fs[f]?,x with
  | some (off,sz,_),.d (.ptr l)=>sz≠0∧k (.d (.ptr (l.drop off)))
  | some (off,sz,_),.bp id o=>sz≠0∧k (.bp id (o+off))
  | some (off,sz,_),.ap id s i o=>sz≠0∧k (.ap id s i (o+off))
  | _,_=>False
 | _=>False
def znl (kd:TK) (x:Sym) (f:Nat) (k:Sym→Prop):Prop:=
 match kd with
 | .struct fs=>match fs[f]?,x with
  | some (off,sz,agg),.d (.agg l)=>if agg=true then off+sz≤l.length∧k (.d (.agg ((l.drop off).take sz))) else (match l.drop off with
   | x::_=>k (.d x)
   | []=>False)
  | some (off,sz,agg),.agg l=>if agg=true then off+sz≤l.length∧k (zlf ((l.drop off).take sz)) else (match l.drop off with
   | x::_=>k x
   | []=>False)
  | _,_=>False
 | _=>False
def zce (look:Nat→Option Obj') (esz:Nat):Sym→Sym→(Sym→Prop)→Prop
 | .d (.sl l),.d (.int _ n),k=>(0≤n∧n<l.length)∧(l.getD n.toNat []).length=esz∧k (.d (.ptr (l.getD n.toNat [])))
 | .ar id,.d (.int _ n),k=>match look id with
  | some (.arr _ sz rows)=>(0≤n∧n<rows.length)∧sz=esz∧k (.ap id sz n.toNat 0)
  | _=>False
 | _,_,_=>False
def byteAt (s:ByteArray) (n:Int):Int:=((s.data.toList.getD n.toNat 0).toNat:Int)
def znm:Sym→Sym→(Sym→Prop)→Prop
 | .d (.str s),.d (.int _ n),k=>(0≤n∧n<s.size)∧k (.d (.int .u8 (byteAt s n)))
 | _,_,_=>False
def I64 (n:Int):Prop:=-9223372036854775808≤n∧n≤9223372036854775807
def zhb (op:BinOp) (k:IntKind) (x y:Int):Int:=
 let a:=BitVec.ofInt k.bits x
 let b:=BitVec.ofInt k.bits y
 match op with
 | .and=>k.wrap (a &&& b).toNat
 | .or=>k.wrap (a ||| b).toNat
 | .xor=>k.wrap (a ^^^ b).toNat
 | _=>k.wrap (a &&& ~~~b).toNat
def arith (kd:IntKind) (n:Int) (k:Sym→Prop):Prop:=
 match kd with
 | .i64=>if Ov.ov=true then k (.d (.int .i64 (IntKind.i64.wrap n))) else I64 n∧k (.d (.int .i64 n))
 | kd=>k (.d (.int kd (kd.wrap n)))
def zmn (kd:IntKind) (a b:Int) (k:Sym→Prop):BinOp→Prop
 | .add=>arith kd (a+b) k
 | .sub=>arith kd (a-b) k
 | .mul=>arith kd (a*b) k
 | .quo=>b≠0∧arith kd (a.tdiv b) k
 | .rem=>b≠0∧k (.d (.int kd (a.tmod b)))
 | .and=>k (.d (.int kd (zhb .and kd a b)))
 | .or=>k (.d (.int kd (zhb .or kd a b)))
 | .xor=>k (.d (.int kd (zhb .xor kd a b)))
 | .andNot=>k (.d (.int kd (zhb .andNot kd a b)))
 | .eql=>k (.d (.bool (decide (a=b))))
 | .neq=>k (.d (.bool (!decide (a=b))))
 | .lss=>k (.d (.bool (decide (a<b))))
 | .leq=>k (.d (.bool (decide (a≤b))))
 | .gtr=>k (.d (.bool (decide (b<a))))
 | .geq=>k (.d (.bool (decide (b≤a))))
 | _=>False
def zmo (a b:ByteArray) (k:Sym→Prop):BinOp→Prop
 | .add=>(a.size+b.size:Int)≤9223372036854775807∧k (.d (.str (a++b)))
 | .eql=>k (.d (.bool (a.toList==b.toList)))
 | .neq=>k (.d (.bool !(a.toList==b.toList)))
 | .lss=>k (.d (.bool (Op.bytesLess a.toList b.toList)))
 | .leq=>k (.d (.bool (Op.bytesLess a.toList b.toList || a.toList==b.toList)))
 | .gtr=>k (.d (.bool (!(Op.bytesLess a.toList b.toList || a.toList==b.toList))))
 | .geq=>k (.d (.bool (!Op.bytesLess a.toList b.toList)))
 | _=>False
def zjc (a b:Bool) (k:Sym→Prop):BinOp→Prop
 | .eql=>k (.d (.bool (a==b)))
 | .neq=>k (.d (.bool (!(a==b))))
 | _=>False
def zjy (op:BinOp) (kd:IntKind) (a b:Int):Int:=
 match op with
 | .shl=>kd.wrap (a*2^(min b.toNat kd.bits))
 | _=>a.fdiv (2^(min b.toNat kd.bits))
def sbin (op:BinOp):Sym→Sym→(Sym→Prop)→Prop
 | .d (.int ka a),.d (.int kb b),k=>match op with
  | .shl=>0≤b∧k (.d (.int ka (zjy .shl ka a b)))
  | .shr=>0≤b∧k (.d (.int ka (zjy .shr ka a b)))
  | op=>ka=kb∧zmn ka a b k op
 | .d (.str a),.d (.str b),k=>zmo a b k op
 | .d (.bool a),.d (.bool b),k=>zjc a b k op
 | .d (.sl l),.nils,k=>match op with
  | .eql=>∀ b:Bool,(b=true→l=[])→k (.d (.bool b))
  | .neq=>∀ b:Bool,(b=true→l=[])→k (.d (.bool !b))
  | _=>False
 | .nils,.nils,k=>match op with
  | .eql=>k (.d (.bool true))
  | .neq=>k (.d (.bool false))
  | _=>False
 | _,_,_=>False
def zie:TK→Bool
 | .slice _=>true
 | _=>false
def zki (kd:TK):Sym→Bool
 | .d (.bool _)=>match kd with | .bool=>true | _=>false
 | .d (.sl _)=>zie kd
 | .nils=>zie kd
 | _=>true
def sun (op:UnOp):Sym→(Sym→Prop)→Prop
 | .d (.bool b),k=>match op with
  | .not=>k (.d (.bool !b))
  | _=>False
 | .d (.int kd n),k=>match op with
  | .neg=>arith kd (0-n) k
  | _=>False
 | _,_=>False
def ze2:TK→Sym→(Sym→Prop)→Prop
 | .int kd,.d (.int _ n),k=>k (.d (.int kd (kd.wrap n)))
 | .str,.d (.str s),k=>k (.d (.str s))
 | _,_,_=>False
def ze3:Sym→Nat→(Sym→Prop)→Prop
 | .d (.tup l),i,k=>match l[i]? with
  | some x=>k (.d x)
  | none=>False
 | .tup l,i,k=>match l[i]? with
  | some x=>k x
  | none=>False
 | _,_,_=>False
def slen (look:Nat→Option Obj'):TK→Sym→(Sym→Prop)→Prop
 | .slice _,.d (.sl l),k=>k (.d (.int .i64 l.length))
 | .str,.d (.str s),k=>k (.d (.int .i64 s.size))
 | .slice _,.nils,k=>k (.d (.int .i64 0))
 | .slice _,.ar id,k=>match look id with
  | some (.arr _ _ rows)=>k (.d (.int .i64 rows.length))
  | _=>False
 | .slice _,.aS _ _ _ n,k=>k (.d (.int .i64 n))
 | .slice _,.av _ _ _ n,k=>k (.d (.int .i64 n))
 | _,_,_=>False
def zhc (mx:Bool):List Sym→(Sym→Prop)→Prop
 | [.d (.int ka a),.d (.int _ b)],k=>k (.d (.int ka (if mx=true then (if b>a then b else a) else (if b<a then b else a))))
 | _,_=>False
def bnd (d:Int):Option Sym→Option Int
 | none=>some d
 | some (.d (.int _ n))=>some n
 | _=>none
def elemSize (P:Program) (e:Nat):Nat:=match TI.of P e with
 | some te=>te.size
 | none=>1
def zpm (P:Program):TK→Bool
 | .slice e=>(TI.of P e).isSome
 | _=>true
def zgr (P:Program) (look:Nat→Option Obj'):TK→Sym→Option Sym→Option Sym→(Sym→Prop)→Prop
 | .slice e,.d (.sl l),lo,hi,k=>match bnd 0 lo,bnd l.length hi with
  | some o,some h=>(0≤o∧o≤h∧h≤l.length)∧(∀ r∈l,r.length=elemSize P e)∧k (.d (.sl ((l.take h.toNat).drop o.toNat)))
  | _,_=>False
 | .slice e,.ar id,lo,hi,k=>match look id with
  | some (.arr _ sz rows)=>match bnd 0 lo,bnd rows.length hi with
   | some o,some h=>(0≤o∧o≤h∧h≤rows.length)∧sz=elemSize P e∧k (if o=h then .d (.sl []) else .aS id sz o.toNat (h.toNat-o.toNat))
   | _,_=>False
  | _=>False
 | .slice e,.av id sz lo1 n,lo,hi,k=>match look id with
  | some (.arr _ sz' rows)=>match bnd 0 lo,bnd n hi with
   | some o,some h=>(0≤o∧o≤h∧lo1+h≤rows.length)∧sz=elemSize P e∧k (if lo1+o.toNat<rows.length then .av id sz (lo1+o.toNat) (h.toNat-o.toNat) else .d (.sl []))
   | _,_=>False
  | _=>False
 | .str,.d (.str s),lo,hi,k=>match bnd 0 lo,bnd s.size hi with
  | some o,some h=>(0≤o∧o≤h∧h≤s.size)∧k (.d (.str (s.extract o.toNat h.toNat)))
  | _,_=>False
 | _,_,_,_,_=>False
def zhd (P:Program) (look:Nat→Option Obj'):TK→Sym→Sym→Sym→Sym→(Sym→Prop)→Prop
 | .slice e,.ar id,.d (.int _ a),.d (.int _ b),.d (.int _ c),k=>match look id with
  | some (.arr _ _ rows)=>(0≤a∧a≤b∧b≤c∧c≤rows.length)∧(TI.of P e).isSome=true∧k .junk
  | _=>False
 | _,_,_,_,_,_=>False
def snil:Sym→(Sym→Prop)→Prop
 | .d (.ptr l),k=>k (.d (.ptr l))
 | .bp id off,k=>k (.bp id off)
 | .ap id s i off,k=>k (.ap id s i off)
 | .fn f l,k=>k (.fn f l)
 | .d (.fn f l),k=>k (.d (.fn f l))
 | _,_=>False
def ygl (P:Program) (f:Nat) (args:List D) (r:D):Prop:=
 callable P f=true∧∀ (w:World) (E:Nat→Prop) (vs:List Value),Seen w E→za9 w E args vs →
  Calls P f vs.toArray w fun e w'=>∃ v,e = .returned v∧Below w.heap.size w w'∧R w' (fun b=>E b∨b<w.heap.size) r v
def yfm (P:Program) (f:Nat) (ds:List D) (lent:Bool) (r:D):Prop:=lent=true→r.scalar=true∨ygl P f ds r
def zpn (P:Program) (f:Nat) (a:Option (List D×Bool)) (k:Sym→Prop):Prop:=
 match a with
 | some (ds,lent)=>∃ r,zay P f ds r∧yfm P f ds lent r∧k (.d r)
 | none=>False
def zbi:Sym→Option (Nat×List Sym)
 | .fn f caps=>some (f,caps)
 | .d (.fn f ds)=>some (f,ds.map .d)
 | _=>none
def zn8 (P:Program) (look:Nat→Option Obj') (callee:Sym) (args:List Sym) (k:Sym→Prop):Prop:=
 match zbi callee with
 | some (f,caps)=>zpn P f (zid look (args++caps)) k
 | none=>False
def zy5:Sym→Sym→Sym→(Sym→Prop)→Prop
 | .d (.bool c),a,b,k=>k (if c=true then a else b)
 | _,_,_,_=>False
def zfit (P:Program) (t:Nat):Bool:=
 match TI.of P t,P.info? t with
 | some ti,some i=>match i.zero with
  | some (.agg _)=>ti.agg
  | some _=>!ti.agg
  | none=>false
 | _,_=>false
def zwi:D→D→Option Bool
 | .int ka a,.int kb b=>if ka=kb then some (decide (a=b)) else none
 | .str a,.str b=>some (decide (a=b))
 | _,_=>none
def zn9 (x:D):List (List D)→Option (Option D)
 | []=>some none
 | [k,v]::r=>match zwi x k with
  | some true=>some (some v)
  | some false=>zn9 x r
  | none=>none
 | _=>none
def putD (x v:D):List (List D)→Option (List (List D))
 | []=>some [[x,v]]
 | [k,u]::r=>match zwi x k with
  | some true=>some ([x,v]::r)
  | some false=>match putD x v r with
   | some r'=>some ([k,u]::r')
   | none=>none
  | none=>none
 | _=>none
def zif (look:Nat→Option Obj'):Sym→Option (List (List D))
 | .mp id=>match look id with
  | some (.map _ rows)=>some rows
  | _=>none
 | .d (.mp rows)=>some rows
 | _=>none
def zeroS (ti:TI) (k:Sym→Prop):Prop:=
 if ti.agg=true then ti.zero.all (·.oneCell')=true∧k (zlf (ti.zero.map ofConst)) else match ti.zero with
  | [v]=>k (ofConst v)
  | _=>False
def zfw:TK→D→Bool
 | .int k,.int k' _=>decide (k=k')
 | .str,.str _=>true
 | _,_=>false
def zfj (look:Nat→Option Obj') (kk:TK) (te:TI) (commaOk:Bool) (m x:Sym) (k:Sym→Prop):Prop:=
 match zif look m,x with
 | some rows,.d x=>zfw kk x=true∧match zn9 x rows with
  | some (some v)=>k (if commaOk=true then .d (.tup [v,.bool true]) else .d v)
  | some none=>zeroS te fun z=>k (if commaOk=true then .tup [z,.d (.bool false)] else z)
  | none=>False
 | _,_=>False
def zc5 (P:Program) (sub:List Field→Option (List TK)):Nat→List Field→Option (List TK)
 | _,[]=>some []
 | n, f :: r => if f.name != "_" && f.offset == n then (match P.underlying f.type, P.info? f.type with
  | some (.int k),some _=>(zc5 P sub (n+1) r).map (.int k :: ·)
  | some .bool,some _=>(zc5 P sub (n+1) r).map (.bool :: ·)
  | some .string,some _=>(zc5 P sub (n+1) r).map (.str :: ·)
  | some (.struct fs),some i=>if P.stoodInHeld f.type==false then (match sub fs.toList with
   | some ks=>if i.size==ks.length then (zc5 P sub (n+ks.length) r).map (ks ++ ·) else none
   | none=>none) else none
  | _,_=>none) else none
def zt4 (P:Program):Nat→List Field→Option (List TK)
 | 0=>zc5 P (fun _=>none) 0
 | e+1=>zc5 P (zt4 P e) 0
def eqKinds (P:Program) (t:Nat):Option (List TK):=
 match P.underlying t with
 | some (.struct fs)=>if P.stoodInHeld t==false&&P.eqGuardType P.depth t==false then zt4 P 2 fs.toList else none
 | _=>none
def zbp:List TK→List D→List D→Option Bool
 | [],_,_=>some true
 | .int k::ks,.int k1 a::xs,.int k2 b::ys=>if k1=k∧k2=k then (zbp ks xs ys).map (decide (a=b) && ·) else none
 | .bool::ks,.bool a::xs,.bool b::ys=>(zbp ks xs ys).map (decide (a=b) && ·)
 | .str::ks,.str a::xs,.str b::ys=>(zbp ks xs ys).map (decide (a=b) && ·)
 | _,_,_=>none
def znn (P:Program) (op:BinOp) (t:Nat):Sym→Sym→(Sym→Prop)→Prop
 | .d (.agg a),.d (.agg b),k=>match eqKinds P t with
  | some ks=>match zbp ks a b with
   | some r=>match op with
    | .eql=>k (.d (.bool r))
    | .neq=>k (.d (.bool (!r)))
    | _=>False
   | none=>False
  | none=>False
 | _,_,_=>False
def sop (P:Program) (look:Nat→Option Obj') (ρ:Operand→Sym) (op:Op) (k:Sym→Prop):Prop:=
 match op with
 | .move x=>k (ρ x)
 | .assign x=>k (ρ x)
 | .pick c a b=>zy5 (ρ c) (ρ a) (ρ b) k
 | .load t x=>match TI.of P t with
  | some ti=>zkh look ti (ρ x) k
  | none=>False
 | .fieldAddr t x f=>match TI.of P t with
  | some ti=>zdq ti.kind (ρ x) f k
  | none=>False
 | .field t x f=>match TI.of P t with
  | some ti=>znl ti.kind (ρ x) f k
  | none=>False
 | .indexAddr t x i=>match TI.of P t with
  | some ⟨.slice e,_,_,_,_⟩=>match TI.of P e with
   | some te=>zce look te.size (ρ x) (ρ i) k
   | none=>False
  | _=>False
 | .index t x i=>match TI.of P t with
  | some ⟨.str,_,_,_,_⟩=>znm (ρ x) (ρ i) k
  | _=>False
 | .slice t x lo hi none=>match TI.of P t with
  | some ti=>zpm P ti.kind=true∧zgr P look ti.kind (ρ x) (lo.map ρ) (hi.map ρ) k
  | none=>False
 | .slice t x (some lo) (some hi) (some mx)=>match TI.of P t with
  | some ti=>zhd P look ti.kind (ρ x) (ρ lo) (ρ hi) (ρ mx) k
  | none=>False
 | .binOp op t x y _=>match TI.of P t with
  | some ti=>(zki ti.kind (ρ x)=true∧sbin op (ρ x) (ρ y) k)∨znn P op t (ρ x) (ρ y) k
  | none=>False
 | .unOp op _ x=>sun op (ρ x) k
 | .convert s t x=>match TI.of P s,TI.of P t with
  | some _,some ti=>ze2 ti.kind (ρ x) k
  | _,_=>False
 | .extract t i=>ze3 (ρ t) i k
 | .lookup t m x c=>match TI.of P t with
  | some ⟨.map kt et,_,_,_,_⟩=>match TI.of P kt,TI.of P et with
   | some tk,some te=>zfit P et=true∧zfj look tk.kind te c (ρ m) (ρ x) k
   | _,_=>False
  | _=>False
 | .nilCheck x=>snil (ρ x) k
 | .call {callee:=.builtin .len,args:=a,argTypes:=ts}=>match a.toList,ts.toList with
  | [x],[t]=>match TI.of P t with
   | some ti=>slen look ti.kind (ρ x) k
   | none=>False
  | _,_=>False
 | .call {callee:=.builtin .max,args:=a,argTypes:=_}=>zhc true (a.toList.map ρ) k
 | .call {callee:=.builtin .min,args:=a,argTypes:=_}=>zhc false (a.toList.map ρ) k
 | .call {callee:=.value f,args:=a,argTypes:=_}=>zn8 P look (ρ f) (a.toList.map ρ) k
 | _=>False
end Go.V
namespace Go.V
variable [Dr] [Ov]
open Go.RowKit
section
variable {P:Program} {X:Nat→Prop} {w0:Base} {st:St} {β:Nat→Value} {a:Act} {w:World}
theorem zjd (w:World) (E:Nat→Prop) (β:Nat→Value) (v:Value):Sm w E β (ofConst v) v:=by
 unfold ofConst
 split <;> simp [Sm,R]
theorem zmp (m:Nat) (v:Value):Sym.lo m (ofConst v):=by
 unfold ofConst
 split <;> simp [Sym.lo]
theorem Mods.may0 (hm:Mods X w0 st β a w) {id:Nat} {o:Obj'} {b:Nat} (h:(id,o)∈st.own) (hb:blk (β id)=some b):w0.may b:=by
 obtain ⟨_,_,ho⟩:=hm.own id o h
 cases o with
 | box T cells=>
  obtain ⟨b',vs,hβ,hN,_⟩:=ho;rw [hβ] at hb;simp [blk] at hb;subst hb;exact hN
 | arr T sz rows=>
  obtain ⟨xs,hx,_⟩:=ho;exact (hx.2 b hb).1
 | map T rows=>
  obtain ⟨r,es,clock,hβ,hN,_⟩:=ho;rw [hβ] at hb;simp [blk] at hb;subst hb;exact hN
 | raw k cells=>
  obtain ⟨b',fn,D,vs,hβ,hN,_⟩:=ho;rw [hβ] at hb;simp [blk] at hb;subst hb;exact hN
theorem Mods.ygm (hm:Mods X w0 st β a w):Over w0.w (fun b=>X b∨w0.foot b) w (Ex X β st.own):=by
 intro b hb he
 have hnm:¬ w0.may b:=fun h=>h.elim (fun h=>absurd hb (by omega)) (fun h=>he (.inr h))
 refine ⟨fun h=>?_,hm.below.block b hnm⟩
 rcases h with h | ⟨id,o,h1,h2⟩
 ·exact he (.inl h)
 ·exact hnm (hm.may0 h1 h2)
theorem Mods.glob (hm:Mods X w0 st β a w):Glob w (Ex X β st.own):=hm.outer.2.over hm.ygm
theorem Mods.ygn (hm:Mods X w0 st β a w):Glob w X:=hm.glob.over (Over.less fun _ h=>.inl h)
theorem zaw {α:Type} : ∀ {l:List (Nat×α)} {t:Nat} {v:α},zab l t=some v→(t,v)∈l
 | [],_,_,h=>by simp [zab] at h
 | (k,u)::r,t,v,h=>by
  simp only [zab] at h;split at h
  ·rename_i e;simp at h;subst e;subst h;exact List.mem_cons_self
  ·exact List.mem_cons_of_mem _ (zaw h)
theorem Mods.val (hm:Mods X w0 st β a w) (x:Operand):Sym.lo st.next (st.val x)∧Sm w (Ex X β st.own) β (st.val x) (a.eval x):=by
 cases x with
 | tmp t=>
  simp only [St.val,Act.eval];cases h:zab st.slots t with
  | none=>simp [Sym.lo,Sm]
  | some s=>simpa using hm.slots t s h
 | const v=>exact ⟨zmp _ v,zjd _ _ _ v⟩
 | global g=>
  simp only [St.val,Act.eval];cases h:zab GT g with
  | none=>simp [Sym.lo,Sm]
  | some l=>exact ⟨by simp [Sym.lo],by simpa [Sm] using hm.glob g l (zaw h)⟩
 | func f=>exact ⟨by simp [St.val,Sym.lo,Sym.los],by simp [St.val,Sm,Sms,Act.eval]⟩
theorem zat {t:Nat} {ti:TI} (h:TI.of P t=some ti) : ∃ i u z,P.info? t=some i∧P.underlying t=some u∧i.zero=some z ∧
  ti.kind=zc4 P u∧ti.size=i.size∧ti.bytes=i.bytes∧ti.agg=zml u∧ti.zero=z.cells.toList:=by
 unfold TI.of at h
 cases hi:P.info? t with
 | none=>simp [hi] at h
 | some i=>
  cases hu:P.underlying t with
  | none=>simp [hi,hu] at h
  | some u=>
   cases hz:i.zero with
   | none=>simp [hi,hu,hz] at h
   | some z=>
    simp [hi,hu,hz] at h;exact ⟨i,u,z,rfl,rfl,hz,by rw [← h],by rw [← h],by rw [← h],by rw [← h],by rw [← h]⟩
theorem za5 {u:TypeDesc} {e:Nat} (h:zc4 P u = .slice e):u = .slice e:=by
 cases u <;> simp [zc4] at h <;> first | (subst h;rfl) | (split at h <;> simp at h)
theorem z05 {u:TypeDesc} {k e:Nat} (h:zc4 P u = .map k e):u = .map k e:=by
 cases u <;> simp [zc4] at h <;> first | (obtain ⟨rfl,rfl⟩:=h;rfl) | (split at h <;> simp at h)
theorem zek {u:TypeDesc} (h:zc4 P u = .str):u = .string:=by
 cases u <;> simp [zc4] at h <;> first | rfl | (split at h <;> simp at h)
theorem kind_int {u:TypeDesc} {k:IntKind} (h:zc4 P u = .int k):u = .int k:=by
 cases u <;> simp [zc4] at h <;> first | (subst h;rfl) | (split at h <;> simp at h)
theorem zpo {u:TypeDesc} {l:List (Nat×Nat×Bool)} (h:zc4 P u = .struct l) : ∃ fs,u = .struct fs∧fs.toList.mapM (zmm P)=some l:=by
 cases u <;> simp [zc4] at h
 rename_i fs
 split at h
 ·rename_i l' hl
  simp at h
  subst h;exact ⟨fs,rfl,hl⟩
 ·simp at h
theorem ybv {A B:Type} {f:A→Option B} {l:List A} : ∀ {m:List B},l.mapM f=some m→∀ (i:Nat) (y:B),m[i]?=some y→∃ x,l[i]?=some x∧f x=some y:=by
 induction l with
 | nil=>intro m h i y hy;simp at h;subst h;simp at hy
 | cons x xs ih=>
  intro m h i y hy;simp only [List.mapM_cons] at h;cases hx:f x with
  | none=>simp [hx] at h
  | some z=>
   cases hm:xs.mapM f with
   | none=>simp [hx,hm] at h
   | some m'=>
    simp [hx,hm] at h;subst h;cases i with
    | zero=>simp at hy;subst hy;exact ⟨x,by simp,hx⟩
    | succ i=>simpa using ih hm i y (by simpa using hy)
theorem zsk {u:TypeDesc} {l:List (Nat×Nat×Bool)} (h:zc4 P u = .struct l) {f:Nat} {off sz:Nat} {agg:Bool} (hf:l[f]?=some (off,sz,agg)) :
  ∃ fs fd i v,u = .struct fs∧fs[f]?=some fd∧fd.offset=off∧P.info? fd.type=some i∧i.size=sz∧P.underlying fd.type=some v∧zml v=agg:=by
 obtain ⟨fs,rfl,hl⟩:=zpo h
 obtain ⟨fd,hfd,hti⟩:=ybv hl f _ hf
 unfold zmm at hti
 cases hi:P.info? fd.type with
 | none=>simp [hi] at hti
 | some i=>
  cases hv:P.underlying fd.type with
  | none=>simp [hi,hv] at hti
  | some v=>
   simp [hi,hv] at hti;exact ⟨fs,fd,i,v,rfl,by simpa using hfd,hti.1,hi,hti.2.1,hv,hti.2.2⟩
theorem add_lit (b off n:Nat):(⟨b,off,none⟩:Addr).add n=⟨b,off+n,none⟩:=by
 unfold Addr.add;split
 ·rename_i h;subst h;rfl
 ·rfl
theorem zgs {t:Nat} {u:TypeDesc} (h:P.underlying t=some u) (w:World):(isAgg t).run P w = .ok (zml u) w:=by
 unfold isAgg
 simp only [Sem.run_bind,run_underlying h,Result.andThen_ok]
 cases u <;> rfl
theorem run_sizeOf {t:Nat} {i:TypeInfo} (h:P.info? t=some i) (w:World):(sizeOf t).run P w = .ok i.size w:=by
 simp [sizeOf,typeInfo,h]
theorem zf7 {t:Nat} {ti:TI} (ht:TI.of P t=some ti) (hag:ti.agg=false) {b off:Nat} {v:Value} (h:w.cell? ⟨b,off,none⟩=some v) :
  (Instr.loadAt t (.pointer (some ⟨b,off,none⟩))).run P w = .ok v w:=by
 obtain ⟨i,u,z,hi,hu,hz,_,_,_,h4,_⟩:=zat ht
 rw [hag] at h4
 simp [Instr.loadAt,Instr.sureAddr,loadVar,zgs hu,← h4,h]
theorem zf8 {t:Nat} {ti:TI} (ht:TI.of P t=some ti) (hag:ti.agg=true) {b off:Nat} {vs:List Value} (hl:vs.length=ti.size)
  (h : ∀ j v,vs[j]?=some v→w.cell? ⟨b,off+j,none⟩=some v) :
  (Instr.loadAt t (.pointer (some ⟨b,off,none⟩))).run P w = .ok (.agg vs.toArray) w:=by
 obtain ⟨i,u,z,hi,hu,hz,_,h2,_,h4,_⟩:=zat ht
 rw [hag] at h4
 have hc:=run_loadCells_list (P:=P) (w:=w) ⟨b,off,none⟩ vs (fun j v hv=>by rw [add_lit];exact h j v hv)
 rw [hl,h2] at hc
 simp [Instr.loadAt,Instr.sureAddr,loadVar,zgs hu,← h4,run_sizeOf hi,hc]
section
variable {E:Nat→Prop}
theorem Sms.length : ∀ {l:List Sym} {vs:List Value},Sms w E β l vs→vs.length=l.length
 | [],vs,h=>by simp only [Sms] at h;simp [h]
 | s::r,vs,h=>by simp only [Sms] at h;obtain ⟨v,vs',rfl,_,h⟩:=h;simp [Sms.length h]
theorem Sms.drop : ∀ {l:List Sym} {vs:List Value} (n:Nat),Sms w E β l vs→Sms w E β (l.drop n) (vs.drop n)
 | [],vs,n,h=>by simp only [Sms] at h;subst h;simp [Sms]
 | s::r,vs,0,h=>by simpa using h
 | s::r,vs,n+1,h=>by simp only [Sms] at h;obtain ⟨v,vs',rfl,_,h⟩:=h;simpa using Sms.drop n h
theorem Sms.take : ∀ {l:List Sym} {vs:List Value} (n:Nat),Sms w E β l vs→Sms w E β (l.take n) (vs.take n)
 | [],vs,n,h=>by simp only [Sms] at h;subst h;simp [Sms]
 | s::r,vs,0,h=>by simp [Sms]
 | s::r,vs,n+1,h=>by simp only [Sms] at h;obtain ⟨v,vs',rfl,h1,h⟩:=h;simp only [List.take_succ_cons,Sms];exact ⟨v,_,rfl,h1,Sms.take n h⟩
theorem Sms.get : ∀ {l:List Sym} {vs:List Value} {j:Nat} {s:Sym},Sms w E β l vs→l[j]?=some s→∃ v,vs[j]?=some v∧Sm w E β s v
 | [],vs,j,s,h,hj=>by simp at hj
 | x::r,vs,0,s,h,hj=>by simp only [Sms] at h;obtain ⟨v,vs',rfl,h1,h⟩:=h;simp at hj;subst hj;exact ⟨v,by simp,h1⟩
 | x::r,vs,j+1,s,h,hj=>by simp only [Sms] at h;obtain ⟨v,vs',rfl,h1,h⟩:=h;simpa using Sms.get h (by simpa using hj)
theorem Sms.append : ∀ {l m:List Sym} {vs us:List Value},Sms w E β l vs→Sms w E β m us→Sms w E β (l++m) (vs++us)
 | [],m,vs,us,h,h'=>by simp only [Sms] at h;subst h;simpa using h'
 | s::r,m,vs,us,h,h'=>by simp only [Sms] at h;obtain ⟨v,vs',rfl,h1,h⟩:=h;simp only [List.cons_append,Sms];exact ⟨v,_,rfl,h1,Sms.append h h'⟩
theorem Sms.zf9 : ∀ {l:List D} {vs:List Value},za9 w E l vs→Sms w E β (l.map Sym.d) vs
 | [],vs,h=>by simpa [za9,Sms] using h
 | d::r,vs,h=>by simp only [za9] at h;obtain ⟨v,vs',rfl,h1,h⟩:=h;simp only [List.map_cons,Sms];exact ⟨v,_,rfl,by simpa [Sm] using h1,Sms.zf9 h⟩
theorem Sym.zlg {m:Nat} : ∀ {l:List Sym} (n:Nat),Sym.los m l→Sym.los m (l.drop n)
 | [],n,h=>by simpa using h
 | s::r,0,h=>by simpa using h
 | s::r,n+1,h=>by simp only [Sym.los] at h;simpa using Sym.zlg n h.2
theorem Sym.zok {m:Nat} : ∀ {l:List Sym} (n:Nat),Sym.los m l→Sym.los m (l.take n)
 | [],n,h=>by simpa using h
 | s::r,0,h=>by simp [Sym.los]
 | s::r,n+1,h=>by simp only [Sym.los] at h;simp only [List.take_succ_cons,Sym.los];exact ⟨h.1,Sym.zok n h.2⟩
theorem Sym.zmq {m:Nat} : ∀ {l r:List Sym},Sym.los m l→Sym.los m r→Sym.los m (l++r)
 | [],r,_,h=>by simpa using h
 | s::l,r,h,h'=>by simp only [Sym.los,List.cons_append] at h ⊢;exact ⟨h.1,Sym.zmq h.2 h'⟩
theorem Sym.zy6 {m:Nat} : ∀ {l:List Sym} {s:Sym},Sym.los m l→s∈l→Sym.lo m s
 | [],s,_,h=>by cases h
 | x::l,s,h,h'=>by
  simp only [Sym.los] at h;rcases List.mem_cons.1 h' with e | e
  ·subst e;exact h.1
  ·exact Sym.zy6 h.2 e
theorem Sym.z06 (m:Nat) : ∀ (l:List D),Sym.los m (l.map Sym.d)
 | []=>by simp [Sym.los]
 | _::r=>by simp only [List.map_cons,Sym.los];exact ⟨by simp [Sym.lo],Sym.z06 m r⟩
theorem zpp {s:Sym} {d:D} {v:Value} (h:unD s=some d) (hs:Sm w E β s v):R w E d v:=by
 cases s <;> simp [unD] at h
 ·subst h;simpa [Sm] using hs
 ·subst h;simp only [Sm] at hs;subst hs;simp only [R];exact ⟨none,0,rfl,by simp,Nat.zero_le _,fun _=>rfl,fun h=>absurd rfl h⟩
theorem zje : ∀ {l:List Sym} {ds:List D} {vs:List Value},allD l=some ds→Sms w E β l vs→(∀ v∈vs,v.oneCell'=true)→zae w E ds vs
 | [],ds,vs,h,hs,_=>by simp [allD] at h;subst h;simpa [Sms,zae] using hs
 | s::r,ds,vs,h,hs,h1=>by
  simp only [Sms] at hs;obtain ⟨v,vs',rfl,hv,hs⟩:=hs;simp only [allD] at h;cases hu:unD s with
  | none=>simp [hu] at h
  | some x=>
   cases ha:allD r with
   | none=>simp [hu,ha] at h
   | some xs=>
    simp [hu,ha] at h;subst h;simp only [zae];exact ⟨v,vs',rfl,h1 v (by simp),zpp hu hv,zje ha hs (fun u hu=>h1 u (by simp [hu]))⟩
theorem zfk {l:List Sym} {vs:List Value} (hs:Sms w E β l vs) (h1 : ∀ v∈vs,v.oneCell'=true):Sm w E β (zlf l) (.agg vs.toArray):=by
 unfold zlf
 split
 ·rename_i ds h
  simp only [Sm,R];exact ⟨vs,rfl,zje h hs h1⟩
 ·simp only [Sm];exact ⟨vs,rfl,hs,h1⟩
theorem zlh {l:List Sym} {m:Nat} (h:Sym.los m l):Sym.lo m (zlf l):=by
 unfold zlf
 split <;> simp [Sym.lo,h]
end
def YV (P:Program) (w:World) (E:Nat→Prop) (β:Nat→Value) (m:Nat) (c:Sem Value) (k:Sym→Prop):Prop:=
 ∃ s v,k s∧Sym.lo m s∧Sm w E β s v∧c.run P w = .ok v w
section
variable {E:Nat→Prop} {m:Nat} {k:Sym→Prop}
theorem zpq {t:Nat} {ti:TI} (ht:TI.of P t=some ti) {l:List D} {b off:Nat} (hr:Rrow w E b l off) (h:headD ti l k) :
  YV P w E β m (Instr.loadAt t (.pointer (some ⟨b,off,none⟩))) k:=by
 unfold headD at h
 split at h
 ·rename_i hag
  obtain ⟨vs,hvs,hc⟩:=(Rrow.take ti.size hr).cells;refine ⟨_,_,h.2,by simp [Sym.lo],?_,zf8 ht hag (vs:=vs) ?_ hc⟩
  ·simp only [Sm,R];exact ⟨vs,rfl,hvs⟩
  ·rw [hvs.length];simp;omega
 ·rename_i hag
  cases l with
  | nil=>simp at h
  | cons x xs=>
   simp only [Rrow] at hr;obtain ⟨⟨v,hc,_,hv⟩,_⟩:=hr;exact ⟨_,v,h,by simp [Sym.lo],by simpa [Sm] using hv,zf7 ht (by simpa using hag) hc⟩
theorem zpr {t:Nat} {ti:TI} (ht:TI.of P t=some ti) {l:List Sym} {b off:Nat} {vs:List Value} (hs:Sms w E β l vs) (h1 : ∀ v∈vs,v.oneCell'=true)
  (hc : ∀ j v,vs[j]?=some v→w.cell? ⟨b,off+j,none⟩=some v) (hl:Sym.los m l) (h:zq6 ti l k) :
  YV P w E β m (Instr.loadAt t (.pointer (some ⟨b,off,none⟩))) k:=by
 unfold zq6 at h
 split at h
 ·rename_i hag
  refine ⟨_,_,h.2,zlh (Sym.zok _ hl),zfk (Sms.take ti.size hs) (fun v hv=>h1 v (List.mem_of_mem_take hv)),zf8 ht hag (vs:=vs.take ti.size) ?_ ?_⟩
  ·have:=hs.length;simp;omega
  ·intro j v hj
   rw [List.getElem?_take] at hj;split at hj
   ·exact hc j v hj
   ·cases hj
 ·rename_i hag
  cases l with
  | nil=>simp at h
  | cons x xs=>
   simp only [Sms] at hs;obtain ⟨v,vs',rfl,hv,hs⟩:=hs;simp only [Sym.los] at hl;exact ⟨_,v,h,hl.1,hv,zf7 ht (by simpa using hag) (by simpa using hc 0 v (by simp))⟩
end
end
end Go.V
namespace Go.V
variable [Dr] [Ov]
open Go.RowKit
section
variable {P:Program} {X:Nat→Prop} {w0:Base} {st:St} {β:Nat→Value} {a:Act} {w:World} {k:Sym→Prop}
theorem Mods.obj (hm:Mods X w0 st β a w) {id:Nat} {o:Obj'} (h:st.look id=some o):id<st.next∧o.lo st.next∧zc9 w w0.may (Ex X β st.own) β id o:=
 hm.own id o (zaw h)
theorem zli {b:Nat} {vs:List Value} {T:Nat} (h:w.heap[b]?=some (.cells vs.toArray T (0,0))) {j:Nat} {v:Value} (hj:vs[j]?=some v):w.cell? ⟨b,j,none⟩=some v:=by
 simp [World.cell?,h,hj]
theorem zps {base T sz n:Nat} {v:Value} {xs:List Value} (h:w.ownsRow base T sz v n xs) {b:Nat} {len c:Nat} (hv:v = .slice (some ⟨b,0,none⟩) len c) {j:Nat} {u:Value} (hj:xs[j]?=some u):w.cell? ⟨b,j,none⟩=some u:=by
 have:=h.cells (g:=b) (by rw [hv];rfl) j u hj
 rwa [add_lit,Nat.zero_add] at this
theorem zy7 (hm:Mods X w0 st β a w) {t:Nat} {ti:TI} (ht:TI.of P t=some ti) {s:Sym} {v:Value} (hs:Sm w (Ex X β st.own) β s v) (h:zkh st.look ti s k) :
  YV P w (Ex X β st.own) β st.next (Instr.loadAt t v) k:=by
 unfold zkh at h
 split at h
 ·rename_i l
  simp only [Sm,R] at hs;obtain ⟨b,off,rfl,_,_,hr⟩:=hs;exact zpq ht hr h
 ·rename_i id off
  split at h
  ·rename_i T cells ho
   obtain ⟨_,hlo,b,vs,hb,_,hh,hsm,h1⟩:=hm.obj ho;simp only [Sm] at hs;obtain ⟨b',hb',rfl⟩:=hs;rw [hb] at hb';cases hb';refine zpr ht (Sms.drop off hsm) (fun u hu=>h1 u (List.mem_of_mem_drop hu)) ?_ (Sym.zlg off hlo) h
   intro j u hj;exact zli hh (by simpa [List.getElem?_drop] using hj)
  ·exact h.elim
 ·rename_i id sz i off
  split at h
  ·rename_i T sz' rows ho
   obtain ⟨_,_,xs,hx,hc,hsz⟩:=hm.obj ho;simp only [Sm] at hs;obtain ⟨b,n,c,hb,rfl⟩:=hs;obtain ⟨rfl,hi,h⟩:=h;have hrow:Rrow w (Ex X β st.own) b rows.flatten 0:=Rrow.of_cells hc fun j u hj=>by
    rw [Nat.zero_add];exact zps hx.1 hb hj
   have hrr:=(zb2.get (zb2.of_flat hsz hrow) (i:=i) (r:=rows.getD i []) (by simp [List.getD_eq_getElem?_getD,hi])).2
   rw [Nat.zero_add] at hrr;exact zpq ht (Rrow.drop off hrr) h
  ·exact h.elim
 ·exact h.elim
theorem zoa {t:Nat} {ti:TI} (ht:TI.of P t=some ti) {E:Nat→Prop} {m:Nat} {s:Sym} {v:Value} (hl:Sym.lo m s) (hs:Sm w E β s v) {f:Nat} (h:zdq ti.kind s f k) :
  YV P w E β m (Instr.fieldAt t v f) k:=by
 obtain ⟨i,u,z,hi,hu,hz,hk,_⟩:=zat ht
 unfold zdq at h
 split at h
 ·rename_i fs hkd
  have place : ∀ {off sz:Nat} {ag:Bool} {b o:Nat},fs[f]?=some (off,sz,ag)→sz≠0→(Instr.fieldAt t (.pointer (some ⟨b,o,none⟩)) f).run P w = .ok (.pointer (some ⟨b,o+off,none⟩)) w:=by
   intro off sz ag b o hf hsz;obtain ⟨fs',fd,j,u',rfl,hfd,rfl,hj,hjs,_⟩:=zsk (hk.symm.trans hkd) hf;have hne:¬ j.size=0:=by rw [hjs];exact hsz
   simp [Instr.fieldAt,run_underlying hu,hfd,Instr.sureAddr,fieldPlace,run_sizeOf hj,hne,add_lit]
  split at h
  ·rename_i off sz ag l hf
   simp only [Sm,R] at hs;obtain ⟨b,o,rfl,he,hlt,hr⟩:=hs;exact ⟨_,_,h.2,by simp [Sym.lo],by simp only [Sm,R];exact ⟨b,o+off,rfl,he,hlt,Rrow.drop off hr⟩,place hf h.1⟩
  ·rename_i off sz ag id o hf
   simp only [Sm] at hs;obtain ⟨b,hb,rfl⟩:=hs;exact ⟨_,_,h.2,by simpa [Sym.lo] using hl,by simp only [Sm];exact ⟨b,hb,rfl⟩,place hf h.1⟩
  ·rename_i off sz ag id s' i' o hf
   simp only [Sm] at hs;obtain ⟨b,n,c,hb,rfl⟩:=hs;exact ⟨_,_,h.2,by simpa [Sym.lo] using hl,by simp only [Sm];exact ⟨b,n,c,hb,by rw [Nat.add_assoc]⟩,place hf h.1⟩
  ·exact h.elim
 ·exact h.elim
theorem zwj {t:Nat} {ti:TI} (ht:TI.of P t=some ti) {E:Nat→Prop} {m:Nat} {s:Sym} {v:Value} (hl:Sym.lo m s) (hs:Sm w E β s v) {f:Nat} (h:znl ti.kind s f k) :
  YV P w E β m (Instr.field t v f) k:=by
 obtain ⟨i,u,z,hi,hu,hz,hk,_⟩:=zat ht
 unfold znl at h
 split at h
 ·rename_i fs hkd
  have place : ∀ {off sz:Nat} {ag:Bool} {cs:Array Value},fs[f]?=some (off,sz,ag) →
    (ag=true→(Instr.field t (.agg cs) f).run P w = .ok (.agg (cs.extract off (off+sz))) w) ∧
    (ag=false→∀ x,cs[off]?=some x→(Instr.field t (.agg cs) f).run P w = .ok x w):=by
   intro off sz ag cs hf;obtain ⟨fs',fd,j,u',rfl,hfd,rfl,hj,hjs,hv,hag⟩:=zsk (hk.symm.trans hkd) hf;constructor
   ·intro e;rw [e] at hag
    simp [Instr.field,run_underlying hu,hfd,asAgg,part,zgs hv,hag,run_sizeOf hj,hjs]
   ·intro e x hx;rw [e] at hag
    simp [Instr.field,run_underlying hu,hfd,asAgg,part,zgs hv,hag,hx]
  split at h
  ·rename_i off sz ag l hf
   simp only [Sm,R] at hs;obtain ⟨vs,rfl,hc⟩:=hs;split at h
   ·rename_i hag
    refine ⟨_,_,h.2,by simp [Sym.lo],?_,(place hf).1 hag⟩
    simp only [Sm,R];refine ⟨(vs.drop off).take sz,by simp,zae.extract off sz hc⟩
   ·rename_i hag
    cases hd:l.drop off with
    | nil=>rw [hd] at h;exact h.elim
    | cons x xs=>
     rw [hd] at h;have hx:l[off]?=some x:=by rw [← Nat.add_zero off,← List.getElem?_drop,hd];rfl
     obtain ⟨v,hv,_,hr⟩:=zae.get hc hx;exact ⟨_,v,h,by simp [Sym.lo],by simpa [Sm] using hr,(place hf).2 (by simpa using hag) v (by simpa using hv)⟩
  ·rename_i off sz ag l hf
   simp only [Sm] at hs;obtain ⟨vs,rfl,hc,h1⟩:=hs;simp only [Sym.lo] at hl;split at h
   ·rename_i hag
    refine ⟨_,_,h.2,zlh (Sym.zok _ (Sym.zlg _ hl)),zfk (Sms.take sz (Sms.drop off hc)) (fun u hu=>h1 u (List.mem_of_mem_drop (List.mem_of_mem_take hu))),?_⟩
    have:=(place (cs:=vs.toArray) hf).1 hag
    simpa using this
   ·rename_i hag
    cases hd:l.drop off with
    | nil=>rw [hd] at h;exact h.elim
    | cons x xs=>
     rw [hd] at h;have hx:l[off]?=some x:=by rw [← Nat.add_zero off,← List.getElem?_drop,hd];rfl
     obtain ⟨v,hv,hr⟩:=Sms.get hc hx;exact ⟨_,v,h,Sym.zy6 hl (List.mem_of_getElem? hx),hr,(place hf).2 (by simpa using hag) v (by simpa using hv)⟩
  ·exact h.elim
 ·exact h.elim
end
end Go.V
namespace Go.V
variable [Dr] [Ov]
open Go.RowKit
section
variable {P:Program} {X:Nat→Prop} {w0:Base} {st:St} {β:Nat→Value} {a:Act} {w:World} {k:Sym→Prop}
variable {E:Nat→Prop} {m:Nat}
theorem YV.int {c:Sem Value} {kd:IntKind} {n:Int} (h:k (.d (.int kd n))) (hr:c.run P w = .ok (.int kd n) w):YV P w E β m c k:=
 ⟨_,_,h,by simp [Sym.lo],by simp only [Sm,R],hr⟩
theorem YV.bool {c:Sem Value} {b:Bool} (h:k (.d (.bool b))) (hr:c.run P w = .ok (.bool b) w):YV P w E β m c k:=
 ⟨_,_,h,by simp [Sym.lo],by simp only [Sm,R],hr⟩
theorem YV.str {c:Sem Value} {b:ByteArray} (h:k (.d (.str b))) (hr:c.run P w = .ok (.string b) w):YV P w E β m c k:=
 ⟨_,_,h,by simp [Sym.lo],by simp only [Sm,R],hr⟩
theorem z7r (op:BinOp) (t:Nat) (x y:Operand) (ka kb:IntKind) (p q:Int):(eqGuard op t x y (.int ka p) (.int kb q)).run P w = .ok () w:=by
 cases op <;> rfl
theorem z7s (op:BinOp) (t:Nat) (x y:Operand) (p q:ByteArray):(eqGuard op t x y (.string p) (.string q)).run P w = .ok () w:=by
 cases op <;> rfl
theorem z3u (op:BinOp) (t:Nat) (x y:Operand) (p q:Bool):(eqGuard op t x y (.bool p) (.bool q)).run P w = .ok () w:=by
 cases op <;> rfl
theorem zhe (op:BinOp) (t:Nat) (x y:Operand) (a b:Option Addr) (n c n' c':Nat):(eqGuard op t x y (.slice a n c) (.slice b n' c')).run P w = .ok () w:=by
 cases op <;> rfl
theorem z7t {u:TypeDesc} (h:zc4 P u = .bool):u = .bool:=by
 cases u <;> simp [zc4] at h <;> first | rfl | (split at h <;> simp at h)
theorem zno {kd:TK} (h:zie kd=true) : ∃ e,kd = .slice e:=by
 cases kd <;> simp [zie] at h
 exact ⟨_,rfl⟩
theorem run_indexAt {t e:Nat} (hu:P.underlying t=some (.slice e)) {b off len cap:Nat} {kd:IntKind} {n:Int} (h0:0≤n) (h1:n<len) {i:TypeInfo} (hi:P.info? e=some i) :
  (Instr.indexAt t (.slice (some ⟨b,off,none⟩) len cap) (.int kd n)).run P w = .ok (.pointer (some ⟨b,off+n.toNat*i.size,none⟩)) w:=by
 simp [Instr.indexAt,asIntOf,run_underlying hu,h0,h1,run_sizeOf hi,add_lit]
theorem zob (hm:Mods X w0 st β a w) {t e:Nat} (hu:P.underlying t=some (.slice e)) {te:TI} (hte:TI.of P e=some te) {s s':Sym} {v v':Value} (hl:Sym.lo st.next s)
  (hs:Sm w (Ex X β st.own) β s v) (hs':Sm w (Ex X β st.own) β s' v') (h:zce st.look te.size s s' k) :
  YV P w (Ex X β st.own) β st.next (Instr.indexAt t v v') k:=by
 obtain ⟨i,_,_,hi,_,_,_,hsz,_⟩:=zat hte
 rw [hsz] at h
 unfold zce at h
 split at h
 ·rename_i l kd n
  obtain ⟨⟨h0,h1⟩,h2,h⟩:=h;simp only [Sm,R] at hs hs';subst hs';obtain ⟨ad,cap,rfl,_,_,_,hr⟩:=hs;have hne:l≠[]:=by intro e;subst e;simp at h1;omega
  obtain ⟨b,off,rfl,hE,hlt,hr⟩:=hr hne;have hn:n.toNat<l.length:=by omega
  have hg:=zb2.get hr (i:=n.toNat) (r:=l.getD n.toNat []) (by simp [List.getD_eq_getElem?_getD,hn])
  have hlen:i.size=rowLen l:=by rw [← h2,hg.1]
  refine ⟨_,_,h,by simp [Sym.lo],?_,run_indexAt hu h0 h1 hi⟩
  simp only [Sm,R];refine ⟨b,_,rfl,hE,hlt,?_⟩
  rw [hlen];exact hg.2
 ·rename_i id kd n
  split at h
  ·rename_i T sz rows ho
   obtain ⟨⟨h0,h1⟩,rfl,h⟩:=h;obtain ⟨hid,_,xs,hx,hc,hsz'⟩:=hm.obj ho;simp only [Sm] at hs hs';simp only [R] at hs';subst hs';rcases hx.1.2 with ⟨_,hn⟩ | ⟨g,cap,cur,hg,hb,hh,_⟩
   ·omega
   ·rw [hg] at hs;subst hs
    exact ⟨_,_,h,by simpa [Sym.lo] using hid,by simp only [Sm];exact ⟨g,_,_,hg,rfl⟩,by simpa using run_indexAt (off:=0) hu h0 h1 hi⟩
  ·exact h.elim
 ·exact h.elim
theorem zwk {t:Nat} (hu:P.underlying t=some .string) {s s':Sym} {v v':Value} (hs:Sm w E β s v) (hs':Sm w E β s' v') (h:znm s s' k) :
  YV P w E β m (Instr.index t v v') k:=by
 unfold znm at h
 split at h
 ·rename_i b kd n
  obtain ⟨⟨h0,h1⟩,h⟩:=h;simp only [Sm,R] at hs hs';subst hs;subst hs';refine YV.int h ?_
  have hn:n.toNat<b.size:=by omega
  have hg:b[n.toNat]?=some b[n.toNat]:=by simp [hn]
  have hb:byteAt b n=(b[n.toNat].toNat:Int):=by
   unfold byteAt;have:b.data.toList.getD n.toNat 0=b[n.toNat]:=by
    rw [List.getD_eq_getElem?_getD];have h2:n.toNat<b.data.toList.length:=by simpa using hn
    rw [List.getElem?_eq_getElem h2];rfl
   rw [this]
  rw [hb];simp [Instr.index,asIntOf,run_underlying hu,h0,hg]
 ·exact h.elim
theorem zfl {kd:IntKind} {n:Int} (h:arith kd n k) : ∃ s,k s∧s = .d (.int kd (kd.wrap n)):=by
 unfold arith at h
 split at h
 ·split at h
  ·exact ⟨_,h,rfl⟩
  ·refine ⟨_,h.2,?_⟩
   have:IntKind.i64.wrap n=n:=IntWalk.i64_in n (by unfold I64 at h;omega)
   rw [this]
 ·exact ⟨_,h,rfl⟩
theorem z3v {op:BinOp} {t:Nat} {s s':Sym} {v v':Value} {x y:Operand} (hs:Sm w E β s v) (hs':Sm w E β s' v')
  {ti:TI} (ht:TI.of P t=some ti) (hty:zki ti.kind s=true) (h:sbin op s s' k) :
  YV P w E β m (do eqGuard op t x y v v';binOp op t v v') k:=by
 obtain ⟨i,u,z,hi,hu,hz,hkd,_⟩:=zat ht
 unfold sbin at h
 split at h
 ·rename_i ka p kb q
  simp only [Sm,R] at hs hs';subst hs;subst hs';have g:=fun op=>z7r (P:=P) (w:=w) op t x y ka kb p q
  split at h
  ·refine YV.int h.2 ?_
   have:¬ q<0:=by omega
   simp [g,binOp,Op.shift,this,zjy]
  ·refine YV.int h.2 ?_
   have:¬ q<0:=by omega
   simp [g,binOp,Op.shift,this,zjy]
  ·rename_i op' h1 h2
   obtain ⟨rfl,h⟩:=h;unfold zmn at h;split at h
   ·obtain ⟨s,hk,rfl⟩:=zfl h
    exact YV.int hk (by simp [g,binOp,Op.intArith])
   ·obtain ⟨s,hk,rfl⟩:=zfl h
    exact YV.int hk (by simp [g,binOp,Op.intArith])
   ·obtain ⟨s,hk,rfl⟩:=zfl h
    exact YV.int hk (by simp [g,binOp,Op.intArith])
   ·obtain ⟨s,hk,rfl⟩:=zfl h.2
    exact YV.int hk (by simp [g,binOp,Op.intDiv,h.1])
   ·exact YV.int h.2 (by simp [g,binOp,Op.intDiv,h.1])
   ·exact YV.int h (by simp [g,binOp,Op.intBits,zhb])
   ·exact YV.int h (by simp [g,binOp,Op.intBits,zhb])
   ·exact YV.int h (by simp [g,binOp,Op.intBits,zhb])
   ·exact YV.int h (by simp [g,binOp,Op.intBits,zhb])
   ·exact YV.bool h (by simp [g,binOp,Op.intCmp];rfl)
   ·exact YV.bool h (by simp [g,binOp,Op.intCmp];rfl)
   ·exact YV.bool h (by simp [g,binOp,Op.intCmp])
   ·exact YV.bool h (by simp [g,binOp,Op.intCmp])
   ·exact YV.bool h (by simp [g,binOp,Op.intCmp])
   ·exact YV.bool h (by simp [g,binOp,Op.intCmp])
   ·exact h.elim
 ·rename_i p q
  simp only [Sm,R] at hs hs';subst hs;subst hs';have g:=fun op=>z7s (P:=P) (w:=w) op t x y p q
  unfold zmo at h;split at h
  ·refine YV.str h.2 ?_
   have:¬((p.size+q.size:Nat):Int)>IntKind.i64.max:=by
    have:=h.1
    simp [IntKind.max,IntKind.signed,IntKind.bits];omega
   simp [g,binOp,Op.stringOp];omega
  all_goals first | exact h.elim | exact YV.bool h (by simp [g,binOp,Op.stringOp])
 ·rename_i p q
  simp only [Sm,R] at hs hs';subst hs;subst hs';have g:=fun op=>z3u (P:=P) (w:=w) op t x y p q
  have hu:P.underlying t=some .bool:=by
   simp only [zki] at hty;split at hty
   ·rename_i hk;rw [hkd] at hk;rw [hu,z7t hk]
   ·cases hty
  unfold zjc at h;split at h
  ·exact YV.bool h (by simp [g,binOp,run_equal_bool w t p q hu])
  ·exact YV.bool h (by simp [g,binOp,run_equal_bool w t p q hu])
  ·exact h.elim
 ·rename_i l
  obtain ⟨e,he⟩ : ∃ e,P.underlying t=some (.slice e):=by
   simp only [zki] at hty;obtain ⟨e,hk⟩:=zno hty;rw [hkd] at hk;exact ⟨e,by rw [hu,za5 hk]⟩
  simp only [Sm,R] at hs hs';obtain ⟨ad,cap,rfl,h1,h2,h3,h4⟩:=hs;subst hs';have hb:ad.isNone=true→l=[]:=by
   intro hn;have:=h3 (by simpa using hn)
   exact List.eq_nil_of_length_eq_zero (by omega)
  split at h
  ·exact YV.bool (h ad.isNone hb) (by simp [zhe,binOp,run_equal_slice_nil w t e ad _ cap he])
  ·exact YV.bool (h ad.isNone hb) (by simp [zhe,binOp,run_equal_slice_nil w t e ad _ cap he])
  ·exact h.elim
 ·obtain ⟨e,he⟩ : ∃ e,P.underlying t=some (.slice e):=by
   simp only [zki] at hty;obtain ⟨e,hk⟩:=zno hty;rw [hkd] at hk;exact ⟨e,by rw [hu,za5 hk]⟩
  simp only [Sm] at hs hs';subst hs;subst hs';split at h
  ·exact YV.bool h (by simp [zhe,binOp,run_equal_slice_nil w t e none _ _ he])
  ·exact YV.bool h (by simp [zhe,binOp,run_equal_slice_nil w t e none _ _ he])
  ·exact h.elim
 ·exact h.elim
end
end Go.V
namespace Go.V
variable [Dr] [Ov]
open Go.RowKit
section
variable {P:Program} {X:Nat→Prop} {w0:Base} {st:St} {β:Nat→Value} {a:Act} {w:World} {k:Sym→Prop}
variable {E:Nat→Prop} {m:Nat}
theorem z7u {op:UnOp} {s:Sym} {v:Value} (hs:Sm w E β s v) (h:sun op s k):YV P w E β m (Op.unary op v) k:=by
 unfold sun at h
 split at h
 ·simp only [Sm,R] at hs;subst hs
  split at h
  ·exact YV.bool h (by simp [Op.unary])
  ·exact h.elim
 ·simp only [Sm,R] at hs;subst hs
  split at h
  ·obtain ⟨s,hk,rfl⟩:=zfl h
   exact YV.int hk (by simp [Op.unary,Op.intArith])
  ·exact h.elim
 ·exact h.elim
theorem zq7 {src dst:Nat} {ti ti':TI} (ht':TI.of P src=some ti') (ht:TI.of P dst=some ti) {s:Sym} {v:Value} (hs:Sm w E β s v) (h:ze2 ti.kind s k) :
  YV P w E β m (convert src dst v) k:=by
 obtain ⟨i,u,z,hi,hu,hz,hkd,_⟩:=zat ht
 obtain ⟨i',u',z',hi',hu',hz',hkd',_⟩:=zat ht'
 unfold ze2 at h
 split at h
 ·rename_i kd e kd' n hk
  rw [hkd] at hk;have:=kind_int hk;subst this
  simp only [Sm,R] at hs;subst hs;refine YV.int h ?_
  simp [convert,run_underlying hu,run_underlying hu',Conv.intToInt]
 ·rename_i e b hk
  rw [hkd] at hk;have:=zek hk;subst this
  simp only [Sm,R] at hs;subst hs;refine YV.str h ?_
  simp [convert,run_underlying hu,run_underlying hu']
 ·exact h.elim
theorem zq8 {s:Sym} {v:Value} {i:Nat} (hl:Sym.lo m s) (hs:Sm w E β s v) (h:ze3 s i k):YV P w E β m (Instr.extract v i) k:=by
 unfold ze3 at h
 split at h
 ·simp only [Sm,R] at hs
  obtain ⟨vs,rfl,hr⟩:=hs;split at h
  ·rename_i x hx
   obtain ⟨v,hv,hr⟩:=za9.get hr hx;exact ⟨_,v,h,by simp [Sym.lo],by simpa [Sm] using hr,by simp [Instr.extract,hv]⟩
  ·exact h.elim
 ·simp only [Sm] at hs
  simp only [Sym.lo] at hl;obtain ⟨vs,rfl,hr⟩:=hs;split at h
  ·rename_i x hx
   obtain ⟨v,hv,hr⟩:=Sms.get hr hx;exact ⟨_,v,h,Sym.zy6 hl (List.mem_of_getElem? hx),hr,by simp [Instr.extract,hv]⟩
  ·exact h.elim
 ·exact h.elim
theorem z3w (hm:Mods X w0 st β a w) {t ty:Nat} {ti:TI} (ht:TI.of P t=some ti) {s:Sym} {v:Value} (hs:Sm w (Ex X β st.own) β s v) (h:slen st.look ti.kind s k) :
  YV P w (Ex X β st.own) β st.next (Builtin.len_ #[t] ty #[v]) k:=by
 obtain ⟨i,u,z,hi,hu,hz,hkd,_⟩:=zat ht
 unfold slen at h
 split at h
 ·rename_i e l hk
  rw [hkd] at hk;have:=za5 hk;subst this;simp only [Sm,R] at hs;obtain ⟨ad,cap,rfl,_⟩:=hs;exact YV.int h (by simp [Builtin.len_,run_underlying hu,goInt])
 ·rename_i b hk
  rw [hkd] at hk;have:=zek hk;subst this;simp only [Sm,R] at hs;subst hs;exact YV.int h (by simp [Builtin.len_,run_underlying hu,goInt])
 ·rename_i e hk
  rw [hkd] at hk;have:=za5 hk;subst this;simp only [Sm] at hs;subst hs;exact YV.int h (by simp [Builtin.len_,run_underlying hu,goInt])
 ·rename_i e id hk
  rw [hkd] at hk;have:=za5 hk;subst this;split at h
  ·rename_i T sz rows ho
   obtain ⟨_,_,xs,hx,_,_⟩:=hm.obj ho;simp only [Sm] at hs;subst hs;rcases hx.1.2 with ⟨hn,h0⟩ | ⟨g,cap,cur,hg,_⟩
   ·rw [hn];rw [h0] at h;exact YV.int h (by simp [Builtin.len_,run_underlying hu,goInt])
   ·rw [hg];exact YV.int h (by simp [Builtin.len_,run_underlying hu,goInt])
  ·exact h.elim
 ·rename_i e _ _ _ n hk
  rw [hkd] at hk;have:=za5 hk;subst this;simp only [Sm] at hs;obtain ⟨b,m,c,k',_,rfl,_⟩:=hs;exact YV.int h (by simp [Builtin.len_,run_underlying hu,goInt])
 ·rename_i e _ _ _ n hk
  rw [hkd] at hk;have:=za5 hk;subst this;simp only [Sm] at hs;obtain ⟨b,c,_,rfl,_⟩:=hs;exact YV.int h (by simp [Builtin.len_,run_underlying hu,goInt])
 ·exact h.elim
theorem z3x {s:Sym} {v:Value} {o:Oper} {x:Operand} {ρ:Operand→Value} (ho:o.op = .nilCheck x) (hx:ρ x=v) (hl:Sym.lo m s) (hs:Sm w E β s v) (h:snil s k) :
  ∃ s v,k s∧Sym.lo m s∧Sm w E β s v∧(execOp ρ o).run P w = .ok (.value v) w:=by
 unfold snil at h
 split at h
 ·have hs':=hs
  simp only [Sm,R] at hs;obtain ⟨b,off,rfl,_⟩:=hs;exact ⟨_,_,h,hl,hs',by simp [execOp,ho,hx]⟩
 ·have hs':=hs
  simp only [Sm] at hs;obtain ⟨b,_,rfl⟩:=hs;exact ⟨_,_,h,hl,hs',by simp [execOp,ho,hx]⟩
 ·have hs':=hs
  simp only [Sm] at hs;obtain ⟨b,n,c,_,rfl⟩:=hs;exact ⟨_,_,h,hl,hs',by simp [execOp,ho,hx]⟩
 ·have hs':=hs
  simp only [Sm] at hs;obtain ⟨vs,rfl,_⟩:=hs;exact ⟨_,_,h,hl,hs',by simp [execOp,ho,hx]⟩
 ·have hs':=hs
  simp only [Sm,R] at hs;obtain ⟨vs,rfl,_⟩:=hs;exact ⟨_,_,h,hl,hs',by simp [execOp,ho,hx]⟩
 ·exact h.elim
end
end Go.V
namespace Go.V
variable [Dr] [Ov]
open Go.RowKit
section
variable {P:Program} {X:Nat→Prop} {w0:Base} {st:St} {β:Nat→Value} {a:Act} {w:World} {k:Sym→Prop}
variable {E:Nat→Prop} {m:Nat}
theorem zih {d n:Int} {s:Option Sym} {v:Option Value} (hv:s.isSome=v.isSome) (hs : ∀ x y,s=some x→v=some y→Sm w E β x y) (h:bnd d s=some n) :
  (s=none∧v=none∧n=d)∨∃ kd,v=some (.int kd n):=by
 unfold bnd at h
 split at h
 ·left;simp at h hv;exact ⟨rfl,by simpa using hv,h.symm⟩
 ·right
  simp at h;subst h
  cases v with
  | none=>simp at hv
  | some y=>have:=hs _ y rfl rfl;simp only [Sm,R] at this;exact ⟨_,by rw [this]⟩
 ·cases h
theorem zy8 {isS:Bool} {len cap:Nat} {lo hi:Int} {vlo vhi:Option Value} (h0:0≤lo) (h1:lo≤hi) (h2:hi≤cap)
  (hlo:(vlo=none∧lo=0)∨∃ kd,vlo=some (.int kd lo)) (hhi:(vhi=none∧hi=len)∨∃ kd,vhi=some (.int kd hi)) :
  (Instr.sliceBounds isS len cap vlo vhi none).run P w = .ok (lo.toNat,hi.toNat,cap) w:=by
 have e1:(lo.toNat:Int)=lo:=by omega
 have e2:(hi.toNat:Int)=hi:=by omega
 have l1:lo≤(hi.toNat:Int):=by omega
 have l3:0≤hi:=by omega
 rcases hhi with ⟨rfl,rfl⟩ | ⟨kd,rfl⟩ <;> rcases hlo with ⟨rfl,rfl⟩ | ⟨kd',rfl⟩ <;>
  simp [Instr.sliceBounds,Instr.sliceBound,asIntOf,h0,h2,l3]
 ·exact fun h=>absurd h1 (by omega)
 ·omega
theorem zmr {isS:Bool} {len cap:Nat} {lo hi:Int} {vlo vhi:Option Value} (h0:0≤lo) (h1:lo≤hi) (h2:hi≤len) (h3:len≤cap)
  (hlo:(vlo=none∧lo=0)∨∃ kd,vlo=some (.int kd lo)) (hhi:(vhi=none∧hi=len)∨∃ kd,vhi=some (.int kd hi)) :
  (Instr.sliceBounds isS len cap vlo vhi none).run P w = .ok (lo.toNat,hi.toNat,cap) w:=by
 have e1:(lo.toNat:Int)=lo:=by omega
 have e2:(hi.toNat:Int)=hi:=by omega
 have l1:lo≤(hi.toNat:Int):=by omega
 have l2:hi≤(cap:Int):=by omega
 have l3:0≤hi:=by omega
 rcases hhi with ⟨rfl,rfl⟩ | ⟨kd,rfl⟩ <;> rcases hlo with ⟨rfl,rfl⟩ | ⟨kd',rfl⟩ <;>
  simp [Instr.sliceBounds,Instr.sliceBound,asIntOf,h0,l2,l3]
 ·exact fun h=>absurd h1 (by omega)
 ·omega
theorem zt5 (hm:Mods X w0 st β a w) {t:Nat} {ti:TI} (ht:TI.of P t=some ti) {s sa sb sc:Sym} {v va vb vc:Value}
  (hs:Sm w E β s v) (ha:Sm w E β sa va) (hb:Sm w E β sb vb) (hc:Sm w E β sc vc) (h:zhd P st.look ti.kind s sa sb sc k) :
  YV P w E β m (Instr.sliceAt t v (some va) (some vb) (some vc)) k:=by
 obtain ⟨i,u,z,hi',hu,hz,hkd,_⟩:=zat ht
 unfold zhd at h
 split at h
 case h_2=>exact h.elim
 rename_i e id ka a' kb b' kc c' hk
 split at h
 case h_2=>exact h.elim
 rename_i T sz rows hob
 obtain ⟨⟨h0,h1,h2,h3⟩,hte,h⟩:=h
 obtain ⟨te,hte⟩:=Option.isSome_iff_exists.1 hte
 obtain ⟨ie,_,_,hie,_,_,_,hies,_⟩:=zat hte
 rw [hkd] at hk;have:=za5 hk;subst this
 simp only [Sm,R] at hs ha hb hc
 subst hs;subst ha;subst hb;subst hc
 obtain ⟨hid,_,xs,hx,_,_⟩:=hm.obj hob
 have hbd : ∀ cap:Nat,rows.length≤cap→(Instr.sliceBounds true rows.length cap (some (.int ka a')) (some (.int kb b')) (some (.int kc c'))).run P w = .ok (a'.toNat,b'.toNat,c'.toNat) w:=by
  intro cap hcap;have e2:(b'.toNat:Int)=b':=by omega
  have e3:(c'.toNat:Int)=c':=by omega
  have l1:c'≤(cap:Int):=by omega
  have l2:0≤b':=by omega
  have l3:0≤c':=by omega
  simp [Instr.sliceBounds,Instr.sliceBound,asIntOf,h0,h1,h2,l1,l2,l3,e2,e3]
 rcases hx.1.2 with ⟨hn,h00⟩ | ⟨g,cap,cur,hg,hge,hh0,hncap,hmax,_⟩
 ·have hb:=hbd 0 (by omega)
  rw [h00] at hb;rw [hn];exact ⟨_,_,h,by simp [Sym.lo],by simp [Sm],by simp [Instr.sliceAt,Instr.slice,run_underlying hu,hb,run_sizeOf hie];rfl⟩
 ·have hb:=hbd cap hncap
  rw [hg];exact ⟨_,_,h,by simp [Sym.lo],by simp [Sm],by simp [Instr.sliceAt,Instr.slice,run_underlying hu,hb,run_sizeOf hie];rfl⟩
theorem zwl (hm:Mods X w0 st β a w) (hE:E=Ex X β st.own) {t:Nat} {ti:TI} (ht:TI.of P t=some ti) (he:zpm P ti.kind=true) {s:Sym} {lo hi:Option Sym} {v:Value} {vlo vhi:Option Value}
  (hs:Sm w E β s v) (hlo:lo.isSome=vlo.isSome) (hhi:hi.isSome=vhi.isSome)
  (hl:Sym.lo m s) (hlo' : ∀ x y,lo=some x→vlo=some y→Sm w E β x y) (hhi' : ∀ x y,hi=some x→vhi=some y→Sm w E β x y) (h:zgr P st.look ti.kind s lo hi k) :
  YV P w E β m (Instr.sliceAt t v vlo vhi none) k:=by
 obtain ⟨i,u,z,hi',hu,hz,hkd,_⟩:=zat ht
 unfold zgr at h
 split at h
 ·rename_i e l hk
  rw [hk] at he;obtain ⟨te,hte⟩:=Option.isSome_iff_exists.1 (show (TI.of P e).isSome=true from he)
  obtain ⟨ie,_,_,hie,_,_,_,hies,_⟩:=zat hte;have hce:elemSize P e=ie.size:=by simp [elemSize,hte,hies]
  rw [hkd] at hk;have:=za5 hk;subst this;simp only [Sm,R] at hs;obtain ⟨ad,cap,rfl,h1,h2,h3,h4⟩:=hs;split at h
  ·rename_i o hh e1 e2
   obtain ⟨⟨b0,b1,b2⟩,hrl,h⟩:=h;have hb:=zmr (P:=P) (w:=w) (isS:=true) (len:=l.length) (cap:=cap) b0 b1 b2 h1
    (by rcases zih hlo hlo' e1 with ⟨_,x,y⟩ | x;exact .inl ⟨x,y⟩;exact .inr x)
    (by rcases zih hhi hhi' e2 with ⟨_,x,y⟩ | x;exact .inl ⟨x,y⟩;exact .inr x)
   have hlen:((l.take hh.toNat).drop o.toNat).length=hh.toNat-o.toNat:=by simp;omega
   refine ⟨_,.slice (if cap=o.toNat then ad else ad.map (·.add (o.toNat*ie.size))) (hh.toNat-o.toNat) (cap-o.toNat),h,by simp [Sym.lo],?_,?_⟩
   ·simp only [Sm,R]
    refine ⟨_,cap-o.toNat,by rw [hlen],by rw [hlen];omega,by omega,?_,?_⟩
    ·intro hn
     split at hn
     ·omega
     ·simp at hn;have:=h3 hn;omega
    ·intro hne
     have hne':l≠[]:=by intro e;subst e;simp at hne
     obtain ⟨b,off,rfl,hE,hlt,hr⟩:=h4 hne';have hlo:o.toNat<hh.toNat:=by
      have:((l.take hh.toNat).drop o.toNat).length≠0:=fun e=>hne (List.eq_nil_of_length_eq_zero e)
      omega
     have rl : ∀ {q:List (List D)},q≠[]→(∀ r∈q,r.length=elemSize P e)→rowLen q=ie.size:=by
      intro q hq hr;cases q with
      | nil=>exact absurd rfl hq
      | cons r rs=>rw [← hce];exact hr r (by simp)
     have hsz:=rl hne' hrl;refine ⟨b,off+o.toNat*ie.size,?_,hE,hlt,?_⟩
     ·rw [if_neg (by omega)];simp [add_lit]
     ·rw [rl hne (fun r hr'=>hrl r (List.mem_of_mem_take (List.mem_of_mem_drop hr')))]
      rw [hsz] at hr;exact zb2.drop o.toNat (zb2.take hh.toNat hr)
   ·simp [Instr.sliceAt,Instr.slice,run_underlying hu,hb,run_sizeOf hie]
  ·exact h.elim
 ·rename_i e id hk
  rw [hk] at he;obtain ⟨te,hte⟩:=Option.isSome_iff_exists.1 (show (TI.of P e).isSome=true from he)
  obtain ⟨ie,_,_,hie,_,_,_,hies,_⟩:=zat hte;have hce:elemSize P e=ie.size:=by simp [elemSize,hte,hies]
  rw [hkd] at hk;have:=za5 hk;subst this;simp only [Sm] at hs;subst hs;split at h
  ·rename_i T sz rows hob
   obtain ⟨hid,_,xs,hx,_,_⟩:=hm.obj hob;split at h
   ·rename_i o hh e1 e2
    obtain ⟨⟨b0,b1,b2⟩,hsz,h⟩:=h;have hbd:=fun (cap:Nat) (hc:rows.length≤cap)=>zmr (P:=P) (w:=w) (isS:=true) (len:=rows.length) (cap:=cap) b0 b1 b2 hc
     (by rcases zih hlo hlo' e1 with ⟨_,x,y⟩ | x;exact .inl ⟨x,y⟩;exact .inr x)
     (by rcases zih hhi hhi' e2 with ⟨_,x,y⟩ | x;exact .inl ⟨x,y⟩;exact .inr x)
    rcases hx.1.2 with ⟨hn,h0⟩ | ⟨g,cap,cur,hg,hge,hh0,hncap,hmax,_⟩
    ·have h00:o=0∧hh=0:=by omega
     obtain ⟨rfl,rfl⟩:=h00;have hb:=hbd 0 (by omega)
     rw [h0] at hb;rw [if_pos rfl] at h;refine ⟨_,.slice none 0 0,h,by simp [Sym.lo],by simp only [Sm,R];exact ⟨none,0,rfl,by simp,by simp,fun _=>rfl,by simp⟩,?_⟩
     rw [hn];simp [Instr.sliceAt,Instr.slice,run_underlying hu,hb,run_sizeOf hie]
    ·have hb:=hbd cap hncap
     have hrun:(Instr.sliceAt t (β id) vlo vhi none).run P w = .ok (.slice (if cap=o.toNat then some ⟨g,0,none⟩ else (some ⟨g,0,none⟩:Option Addr).map (·.add (o.toNat*ie.size))) (hh.toNat-o.toNat) (cap-o.toNat)) w:=by
      rw [hg];simp [Instr.sliceAt,Instr.slice,run_underlying hu,hb,run_sizeOf hie]
     by_cases heq:o=hh
     ·rw [if_pos heq] at h
      refine ⟨_,_,h,by simp [Sym.lo],?_,hrun⟩
      simp only [Sm,R];refine ⟨(if cap=o.toNat then some ⟨g,0,none⟩ else (some ⟨g,0,none⟩:Option Addr).map (·.add (o.toNat*ie.size))),cap-o.toNat,by rw [heq];simp,by simp,by omega,?_,by simp⟩
      intro hn;split at hn
      ·omega
      ·simp at hn
     ·rw [if_neg heq] at h
      refine ⟨_,_,h,by simpa [Sym.lo] using hl,?_,hrun⟩
      simp only [Sm];refine ⟨g,rows.length,cap,cap-o.toNat,hg,?_,by omega,by omega⟩
      rw [if_neg (by omega),hsz,hce]
      simp [add_lit]
   ·exact h.elim
  ·exact h.elim
 ·rename_i e id sz lo1 n hk
  rw [hk] at he;obtain ⟨te,hte⟩:=Option.isSome_iff_exists.1 (show (TI.of P e).isSome=true from he)
  obtain ⟨ie,_,_,hie,_,_,_,hies,_⟩:=zat hte;have hce:elemSize P e=ie.size:=by simp [elemSize,hte,hies]
  rw [hkd] at hk;have:=za5 hk;subst this;simp only [Sm] at hs;obtain ⟨b,c,hβ,rfl,hfit,hmx⟩:=hs;split at h
  ·rename_i T sz' rows hob
   obtain ⟨hid,_,xs,hx,_,_⟩:=hm.obj hob;have hc:rows.length=c:=by
    rcases hx.1.2 with ⟨hn,h0⟩ | ⟨g,cap,cur,hg,_⟩
    ·rw [hn] at hβ;cases hβ
    ·rw [hg] at hβ;simp at hβ;exact hβ.2.1
   split at h
   ·rename_i o hh e1 e2
    obtain ⟨⟨b0,b1,b2⟩,hsz,h⟩:=h;have hb:=zy8 (P:=P) (w:=w) (isS:=true) (len:=n) (cap:=c-lo1) b0 b1 (by omega)
     (by rcases zih hlo hlo' e1 with ⟨_,x,y⟩ | x;exact .inl ⟨x,y⟩;exact .inr x)
     (by rcases zih hhi hhi' e2 with ⟨_,x,y⟩ | x;exact .inl ⟨x,y⟩;exact .inr x)
    have hrun:(Instr.sliceAt t (.slice (some ⟨b,lo1*sz,none⟩) n (c-lo1)) vlo vhi none).run P w = .ok (.slice (if c-lo1=o.toNat then some ⟨b,lo1*sz,none⟩ else (some ⟨b,lo1*sz,none⟩:Option Addr).map (·.add (o.toNat*ie.size))) (hh.toNat-o.toNat) (c-lo1-o.toNat)) w:=by
     simp [Instr.sliceAt,Instr.slice,run_underlying hu,hb,run_sizeOf hie]
    by_cases heq:lo1+o.toNat<rows.length
    ·rw [if_pos heq] at h
     refine ⟨_,_,h,by simpa [Sym.lo] using hl,?_,hrun⟩
     simp only [Sm];refine ⟨b,c,hβ,?_,by omega,hmx⟩
     rw [if_neg (by omega)]
     simp only [Option.map_some,add_lit,Value.slice.injEq,Option.some.injEq,Addr.mk.injEq,and_true,true_and];refine ⟨?_,by omega⟩
     rw [Nat.add_mul,← hce,← hsz]
    ·rw [if_neg heq] at h
     have heq:o=hh:=by omega
     refine ⟨_,_,h,by simp [Sym.lo],?_,hrun⟩
     simp only [Sm,R];refine ⟨_,c-lo1-o.toNat,by rw [heq];simp;rfl,by simp,by omega,?_,by simp⟩
     intro hn;split at hn
     ·omega
     ·simp at hn
   ·exact h.elim
  ·exact h.elim
 ·rename_i e b hk
  rw [hkd] at hk;have:=zek hk;subst this;simp only [Sm,R] at hs;subst hs;split at h
  ·rename_i o hh e1 e2
   obtain ⟨⟨b0,b1,b2⟩,h⟩:=h;have hb:=zmr (P:=P) (w:=w) (isS:=false) (len:=b.size) (cap:=b.size) b0 b1 b2 (Nat.le_refl _)
    (by rcases zih hlo hlo' e1 with ⟨_,x,y⟩ | x;exact .inl ⟨x,y⟩;exact .inr x)
    (by rcases zih hhi hhi' e2 with ⟨_,x,y⟩ | x;exact .inl ⟨x,y⟩;exact .inr x)
   exact YV.str h (by simp [Instr.sliceAt,Instr.slice,run_underlying hu,hb])
  ·exact h.elim
 ·exact h.elim
end
end Go.V
namespace Go.V
variable [Dr] [Ov]
open Go.RowKit
section
variable {P:Program} {X:Nat→Prop} {w0:Base} {st:St} {β:Nat→Value} {a:Act} {w:World} {k:Sym→Prop}
variable {E:Nat→Prop} {m:Nat}
theorem Mods.lt (hm:Mods X w0 st β a w) : ∀ b,Ex X β st.own b→b<w.heap.size:=by
 intro b hb
 rcases hb with hb | ⟨id,o,hmem,hb⟩
 ·exact Nat.lt_of_lt_of_le (Base.lt (hm.outer.1 b hb)) hm.below.size
 ·obtain ⟨_,_,ho⟩:=hm.own id o hmem
  cases o with
  | box T cells=>
   obtain ⟨b',vs,hβ,_,hh,_⟩:=ho;rw [hβ] at hb;simp [blk] at hb;subst hb;exact (Array.getElem?_eq_some_iff.1 hh).1
  | arr T sz rows=>
   obtain ⟨xs,hx,_⟩:=ho;rcases hx.1.2 with ⟨hn,_⟩ | ⟨g,cap,cur,hg,_,hh,_⟩
   ·rw [hn] at hb;simp [blk] at hb
   ·rw [hg] at hb;simp [blk] at hb;subst hb
    exact (Array.getElem?_eq_some_iff.1 hh).1
  | map T rows=>
   obtain ⟨r,es,clock,hβ,_,hh,_⟩:=ho;rw [hβ] at hb;simp [blk] at hb;subst hb;exact (Array.getElem?_eq_some_iff.1 hh).1
  | raw k cells=>
   obtain ⟨b',fn,D,vs,hβ,_,hh,_⟩:=ho;rw [hβ] at hb;simp [blk] at hb;subst hb;exact (Array.getElem?_eq_some_iff.1 hh).1
theorem Mods.seen (hm:Mods X w0 st β a w):Seen w (Ex X β st.own):=⟨hm.lt,hm.glob⟩
theorem Mods.ybw (hm:Mods X w0 st β a w):Seen w X:=⟨fun b hb=>Nat.lt_of_lt_of_le (Base.lt (hm.outer.1 b hb)) hm.below.size,hm.ygn⟩
theorem Mods.outer' (_hm:Mods X w0 st β a w):Over w (Ex X β st.own) w X:=Over.less (fun _ h=>.inl h)
theorem Mods.notX (hm:Mods X w0 st β a w) {b:Nat} (h:w0.may b):¬ X b:=fun hx=>absurd h (hm.outer.1 b hx)
theorem zwm {N:Nat→Prop} {T sz:Nat} {rows:List (List D)} {v:Value} {xs:List Value} {E E':Nat→Prop} (hx:Owns N w T sz v rows.length xs) (hc:zae w E rows.flatten xs) (hsz : ∀ r∈rows,r.length=sz)
  (hE : ∀ b,N b→¬ E' b) (hov:Over w E w E'):R w E' (.sl rows) v:=by
 simp only [R]
 rcases hx.1.2 with ⟨hn,h0⟩ | ⟨g,cap,cur,hg,_,hh,hcap,hmax,_⟩
 ·refine ⟨none,0,by rw [hn,h0],by omega,Nat.zero_le _,fun _=>rfl,fun h=>absurd (List.eq_nil_of_length_eq_zero h0) h⟩
 ·refine ⟨_,cap,hg,hcap,hmax,by simp,fun hne=>⟨g,0,rfl,hE g (hx.2 g (by rw [hg];rfl)).1,(Array.getElem?_eq_some_iff.1 hh).1,?_⟩⟩
  have hrl:rowLen rows=sz:=by
   cases rows with
   | nil=>exact absurd rfl hne
   | cons r rs=>exact hsz r (by simp)
  rw [hrl];refine zb2.of_flat hsz (Rrow.of_cells (zae.over hov _ _ hc) fun j u hj=>?_)
  rw [Nat.zero_add];exact zps hx.1 hg hj
theorem zpt (hm:Mods X w0 st β a w) {s:Sym} {d:D} {v:Value} (h:zt3 st.look s=some d) (hs:Sm w (Ex X β st.own) β s v):R w X d v:=by
 cases s <;> simp only [zt3] at h
 case d x=>simp at h;subst h;exact R.over hm.outer' _ _ (by simpa [Sm] using hs)
 case nils=>simp at h;subst h;simp only [Sm] at hs;subst hs;simp only [R];exact ⟨none,0,rfl,by simp,Nat.zero_le _,fun _=>rfl,fun h=>absurd rfl h⟩
 case ar id=>
  split at h
  ·rename_i T sz rows ho
   simp at h;subst h
   obtain ⟨_,_,xs,hx,hc,hsz⟩:=hm.obj ho;simp only [Sm] at hs;subst hs;exact zwm hx hc hsz (fun b hb=>hm.notX hb) hm.outer'
  ·cases h
 all_goals cases h
theorem zii (hm:Mods X w0 st β a w) : ∀ {l:List Sym} {ds:List D} {vs:List Value},cellsD st.look l=some ds→Sms w (Ex X β st.own) β l vs→(∀ v∈vs,v.oneCell'=true)→zae w X ds vs
 | [],ds,vs,h,hs,_=>by simp [cellsD] at h;subst h;simpa [Sms,zae] using hs
 | s::r,ds,vs,h,hs,h1=>by
  simp only [Sms] at hs;obtain ⟨v,vs',rfl,hv,hs⟩:=hs;simp only [cellsD] at h;cases hu:zt3 st.look s with
  | none=>simp [hu] at h
  | some x=>
   cases ha:cellsD st.look r with
   | none=>simp [hu,ha] at h
   | some xs=>
    simp [hu,ha] at h;subst h;simp only [zae];exact ⟨v,vs',rfl,h1 v (by simp),zpt hm hu hv,zii hm ha hs (fun u hu=>h1 u (by simp [hu]))⟩
mutual
theorem zms (hm:Mods X w0 st β a w) : ∀ {s:Sym} {d:D} {b:Bool} {v:Value},lend st.look s=some (d,b)→Sm w (Ex X β st.own) β s v→R w X d v∧(b=false→R w (Ex X β st.own) d v)
 | .d x,d,b,v,h,hs=>by
  simp [lend] at h;obtain ⟨rfl,rfl⟩:=h;simp only [Sm] at hs;exact ⟨R.over hm.outer' _ _ hs,fun _=>hs⟩
 | .nils,d,b,v,h,hs=>by
  simp [lend] at h;obtain ⟨rfl,rfl⟩:=h;simp only [Sm] at hs;subst hs;have : ∀ E,R w E (.sl []) (.slice none 0 0):=fun E=>by simp only [R];exact ⟨none,0,rfl,by simp,Nat.zero_le _,fun _=>rfl,fun h=>absurd rfl h⟩
  exact ⟨this _,fun _=>this _⟩
 | .bp id off,d,b,v,h,hs=>by
  simp only [lend] at h;split at h
  ·rename_i T cells ho
   split at h
   ·rename_i ds hds
    simp at h;obtain ⟨rfl,rfl⟩:=h
    refine ⟨?_,by simp⟩
    obtain ⟨_,hlo,b,vs,hb,hbase,hh,hsm,h1⟩:=hm.obj ho;simp only [Sm] at hs;obtain ⟨b',hb',rfl⟩:=hs;rw [hb] at hb';cases hb';have hc:=zii hm hds hsm h1;simp only [R];refine ⟨b,off,rfl,hm.notX hbase,(Array.getElem?_eq_some_iff.1 hh).1,?_⟩
    have:=Rrow.drop off (Rrow.of_cells (b:=b) (off:=0) hc fun j u hj=>by rw [Nat.zero_add];exact zli hh hj)
    simpa using this
   ·cases h
  ·cases h
 | .ar id,d,b,v,h,hs=>by
  simp only [lend] at h;split at h
  ·rename_i T sz rows ho
   simp at h;obtain ⟨rfl,rfl⟩:=h
   obtain ⟨_,_,xs,hx,hc,hsz⟩:=hm.obj ho;simp only [Sm] at hs;subst hs;exact ⟨zwm hx hc hsz (fun b hb=>hm.notX hb) hm.outer',by simp⟩
  ·cases h
 | .agg l,d,b,v,h,hs=>by
  simp only [lend] at h;split at h
  ·rename_i ds b' hl
   simp at h;obtain ⟨rfl,rfl⟩:=h
   simp only [Sm] at hs;obtain ⟨vs,rfl,hs,h1⟩:=hs;have:=zed hm hl hs
   simp only [R];exact ⟨⟨vs,rfl,za9.cells this.1 h1⟩,fun e=>⟨vs,rfl,za9.cells (this.2 e) h1⟩⟩
  ·cases h
 | .fn f l,d,b,v,h,hs=>by
  simp only [lend] at h;split at h
  ·rename_i ds b' hl
   simp at h;obtain ⟨rfl,rfl⟩:=h
   simp only [Sm] at hs;obtain ⟨vs,rfl,hs⟩:=hs;have:=zed hm hl hs
   simp only [R];exact ⟨⟨vs,rfl,this.1⟩,fun e=>⟨vs,rfl,this.2 e⟩⟩
  ·cases h
 | .ap _ _ _ _,d,b,v,h,hs=>by simp [lend] at h
 | .aS _ _ _ _,d,b,v,h,hs=>by simp [lend] at h
 | .av _ _ _ _,d,b,v,h,hs=>by simp [lend] at h
 | .yd _,d,b,v,h,hs=>by simp [lend] at h
 | .mp id,d,b,v,h,hs=>by
  simp only [lend] at h;split at h
  ·rename_i T rows ho
   simp at h;obtain ⟨rfl,rfl⟩:=h
   obtain ⟨_,_,r,es,clock,hb,hN,hh,hents⟩:=hm.obj ho;simp only [Sm] at hs;subst hs;simp only [R];exact ⟨⟨r,es,clock,hb,hm.notX hN,(Array.getElem?_eq_some_iff.1 hh).1,hh,zci.over hm.outer' _ _ hents⟩,by simp⟩
  ·cases h
 | .tup _,d,b,v,h,hs=>by simp [lend] at h
 | .junk,d,b,v,h,hs=>by simp [lend] at h
theorem zed (hm:Mods X w0 st β a w) : ∀ {l:List Sym} {ds:List D} {b:Bool} {vs:List Value},zid st.look l=some (ds,b)→Sms w (Ex X β st.own) β l vs→za9 w X ds vs∧(b=false→za9 w (Ex X β st.own) ds vs)
 | [],ds,b,vs,h,hs=>by
  simp [zid] at h;obtain ⟨rfl,rfl⟩:=h;simp only [Sms] at hs;subst hs;simp [za9]
 | s::r,ds,b,vs,h,hs=>by
  simp only [Sms] at hs;obtain ⟨v,vs',rfl,hv,hs⟩:=hs;simp only [zid] at h;split at h
  ·rename_i d b1 ds' b2 h1 h2
   simp at h;obtain ⟨rfl,rfl⟩:=h
   have e1:=zms hm h1 hv;have e2:=zed hm h2 hs;simp only [za9];refine ⟨⟨v,vs',rfl,e1.1,e2.1⟩,fun e=>?_⟩
   simp at e
   exact ⟨v,vs',rfl,e1.2 e.1,e2.2 e.2⟩
  ·cases h
end
mutual
theorem zkj : ∀ {d:D} {w w':World} {E E':Nat→Prop} {v:Value},d.scalar=true→R w E d v→R w' E' d v
 | .int _ _,w,w',E,E',v,_,h=>by simpa [R] using h
 | .bool _,w,w',E,E',v,_,h=>by simpa [R] using h
 | .str _,w,w',E,E',v,_,h=>by simpa [R] using h
 | .tup l,w,w',E,E',v,hd,h=>by
  simp only [D.scalar] at hd;simp only [R] at h ⊢;obtain ⟨vs,rfl,h⟩:=h;exact ⟨vs,rfl,zfx hd h⟩
 | .agg l,w,w',E,E',v,hd,h=>by
  simp only [D.scalar] at hd;simp only [R] at h ⊢;obtain ⟨vs,rfl,h⟩:=h;exact ⟨vs,rfl,za9.cells (zfx hd h.vals) h.one⟩
 | .sl _,w,w',E,E',v,hd,h=>by simp [D.scalar] at hd
 | .ptr _,w,w',E,E',v,hd,h=>by simp [D.scalar] at hd
 | .fn _ _,w,w',E,E',v,hd,h=>by simp [D.scalar] at hd
 | .val _,w,w',E,E',v,hd,h=>by simp [D.scalar] at hd
 | .mp _,w,w',E,E',v,hd,h=>by simp [D.scalar] at hd
theorem zfx : ∀ {l:List D} {w w':World} {E E':Nat→Prop} {vs:List Value},D.scalars l=true→za9 w E l vs→za9 w' E' l vs
 | [],w,w',E,E',v,_,h=>by simpa [za9] using h
 | d::r,w,w',E,E',vs,hd,h=>by
  simp only [D.scalars,Bool.and_eq_true] at hd;simp only [za9] at h ⊢;obtain ⟨v,vs',rfl,h1,h2⟩:=h;exact ⟨v,vs',rfl,zkj hd.1 h1,zfx hd.2 h2⟩
end
end
end Go.V
namespace Go.V
variable [Dr] [Ov]
open Go.RowKit
section
variable {P:Program} {X:Nat→Prop} {w0:Base} {st:St} {β:Nat→Value} {a:Act} {w:World} {k:Sym→Prop}
def Yields (P:Program) (X:Nat→Prop) (st:St) (β:Nat→Value) (a:Act) (w:World) (o:Oper) (k:Sym→Prop):Prop:=
 ∀ (K:Act→World→Prop) (Q:Exit→Act→World→Prop),
  (∀ s v w',k s→Sym.lo st.next s→Below w.heap.size w w'→Sm w' (Ex X β st.own) β s v→K (a.put o.dst v) w')→o.wp P a w K Q
theorem zjf (w:World) (E:Nat→Prop) (β:Nat→Value) : ∀ (l:List Value),Sms w E β (l.map ofConst) l
 | []=>by simp [Sms]
 | v::r=>by simp only [List.map_cons,Sms];exact ⟨v,r,rfl,zjd _ _ _ v,zjf w E β r⟩
theorem zjg (m:Nat) : ∀ (l:List Value),Sym.los m (l.map ofConst)
 | []=>by simp [Sym.los]
 | v::r=>by simp only [List.map_cons,Sym.los];exact ⟨zmp m v,zjg m r⟩
theorem z07 {u:TypeDesc} {x:D} {v:Value} {w:World} {E:Nat→Prop} (h:zfw (zc4 P u) x=true) (hr:R w E x v):MapKept.IsKey u v:=by
 unfold zfw at h
 split at h
 ·rename_i k k' n hk
  have:=kind_int hk;subst this
  simp only [R] at hr;subst hr;simp at h;subst h
  simp [MapKept.IsKey]
 ·rename_i s hk
  have:=zek hk;subst this
  simp only [R] at hr;subst hr;simp [MapKept.IsKey]
 ·cases h
theorem zij {u:TypeDesc} {x y:D} {v v':Value} {w:World} {E:Nat→Prop} {b:Bool} (hk:zfw (zc4 P u) x=true) (hx:R w E x v) (hy:R w E y v') (h:zwi x y=some b) :
  Instr.sameNow u v v'=some b∧zfw (zc4 P u) y=true:=by
 unfold zfw at hk
 split at hk
 ·rename_i k k' n hkd
  have hu:=kind_int hkd;subst hu;cases y <;> simp [zwi] at h
  obtain ⟨rfl,rfl⟩:=h;simp only [R] at hx hy;subst hx;subst hy;simp [Instr.sameNow,zfw,zc4] at hk ⊢;subst hk;simp only [if_true];rename_i n2;by_cases e:n=n2 <;> simp [e]
 ·rename_i s hkd
  have hu:=zek hkd;subst hu;cases y <;> simp [zwi] at h
  subst h;simp only [R] at hx hy;subst hx;subst hy;simp only [Instr.sameNow,zfw,zc4,and_true,Option.some.injEq];rename_i s2;by_cases e:s=s2
  ·rw [decide_eq_true e];exact (MapKept.bytes_beq _ _).2 e
  ·rw [decide_eq_false e]
   exact Bool.eq_false_iff.2 fun h=>e ((MapKept.bytes_beq _ _).1 h)
 ·cases hk
theorem zpu {u:TypeDesc} {x:D} {v:Value} {w:World} {E:Nat→Prop} (hk:zfw (zc4 P u) x=true) (hx:R w E x v) :
  ∀ {rows:List (List D)} {es:List MapEntry} {i:Nat} {r:Option D},zci w E rows es→zn9 x rows=some r →
   match r with
   | none=>Instr.findNow u v es i=some none
   | some d=>∃ j t,Instr.findNow u v es i=some (some (j,t))∧R w E d t
 | [],es,i,r,he,h=>by
  simp only [zci] at he;subst he;simp [zn9] at h;subst h;rfl
 | []::_,es,i,r,he,h=>by simp [zn9] at h
 | [_]::_,es,i,r,he,h=>by simp [zn9] at h
 | (_::_::_::_)::_,es,i,r,he,h=>by simp [zn9] at h
 | [k,y]::rs,es,i,r,he,h=>by
  simp only [zci,za9] at he;obtain ⟨e,es',rfl,⟨v1,l1,e1,hr1,v2,l2,rfl,hr2,rfl⟩,hes⟩:=he;simp at e1
  obtain ⟨rfl,rfl⟩:=e1;simp only [zn9] at h;split at h
  ·rename_i hq
   simp at h;subst h
   have:=(zij hk hx hr1 hq).1
   exact ⟨i,e.val,by simp [Instr.findNow,this],hr2⟩
  ·rename_i hq
   have:=(zij hk hx hr1 hq).1
   have ih:=zpu hk hx (i:=i+1) hes h;cases r with
   | none=>simpa [Instr.findNow,this] using ih
   | some d=>simpa [Instr.findNow,this] using ih
  ·cases h
theorem z7v {t:Nat} {ti:TI} {i:TypeInfo} {z:Value} (ht:TI.of P t=some ti) (hi:P.info? t=some i) (hz:i.zero=some z) (h:zfit P t=true) :
  if ti.agg=true then z = .agg ti.zero.toArray else ∀ v,ti.zero=[v]→z=v:=by
 obtain ⟨i',u,z',hi',hu,hz',_,_,_,hag,hzl⟩:=zat ht
 rw [hi] at hi';cases hi'
 rw [hz] at hz';cases hz'
 unfold zfit at h
 rw [ht,hi] at h
 simp only [hz] at h
 rw [hzl]
 cases z <;> simp only [] at h <;> simp_all [Value.cells]
theorem zt6 (hm:Mods X w0 st β a w) {t kt et:Nat} (hu:P.underlying t=some (.map kt et)) {tk te:TI} (hk:TI.of P kt=some tk) (he:TI.of P et=some te) (hzf:zfit P et=true)
  {c:Bool} {m x:Operand} {k:Sym→Prop} (h:zfj st.look tk.kind te c (st.val m) (st.val x) k) :
  YV P w (Ex X β st.own) β st.next (Instr.lookup t (a.eval m) (a.eval x) c) k:=by
 unfold zfj at h
 split at h
 ·rename_i rows y hrows hy
  obtain ⟨hkey,h⟩:=h;obtain ⟨ik,uk,zk,hik,huk,hzk,hkk,_⟩:=zat hk;obtain ⟨ie,ue,ze,hie,hue,hze,_⟩:=zat he;rw [hkk] at hkey;have hxv:=(hm.val x).2;rw [hy] at hxv;simp only [Sm] at hxv;obtain ⟨r,es,clock,hmv,hh,hents⟩ : ∃ r es clock,a.eval m = .map (some r)∧w.heap[r]?=some (.map es clock)∧zci w (Ex X β st.own) rows es.toList:=by
   have hmm:=(hm.val m).2;cases hsm:st.val m <;> rw [hsm] at hrows hmm <;> simp only [zif] at hrows
   case d z=>
    cases z <;> simp at hrows
    subst hrows;simp only [Sm,R] at hmm;obtain ⟨r,es,clock,h1,_,_,h4,h5⟩:=hmm;exact ⟨r,es,clock,h1,h4,h5⟩
   case mp id=>
    split at hrows
    ·rename_i T rows' hob
     simp at hrows;subst hrows
     obtain ⟨_,_,r,es,clock,h1,_,h4,h5⟩:=hm.obj hob;simp only [Sm] at hmm;exact ⟨r,es,clock,by rw [hmm,h1],h4,h5⟩
    ·cases hrows
   all_goals cases hrows
  have hkv:=z07 hkey hxv;have hck:=fun e=>MapKept.run_checkKey (P:=P) (w:=w) huk hkv e 9999
  split at h
  ·rename_i d hd
   obtain ⟨j,t',hf,hr⟩:=zpu (P:=P) hkey hxv (i:=0) hents hd;have hrun:(Instr.lookup t (a.eval m) (a.eval x) c).run P w = .ok (if c then .tuple #[t',.bool true] else t') w:=by
    simp [Instr.lookup,run_underlying hu,hmv,MapKept.run_getObj_map hh,hck,MapKept.run_findKey huk hf]
   cases c with
   | false=>exact ⟨_,_,h,by simp [Sym.lo],by simpa [Sm] using hr,hrun⟩
   | true=>exact ⟨_,_,h,by simp [Sym.lo],by simp only [Sm,R,if_true];exact ⟨[t',.bool true],rfl,by simp only [za9];exact ⟨_,_,rfl,hr,_,_,rfl,by simp [R],rfl⟩⟩,hrun⟩
  ·rename_i hd
   have hf:=zpu (P:=P) hkey hxv (i:=0) hents hd;simp only [] at hf;have hrun:(Instr.lookup t (a.eval m) (a.eval x) c).run P w = .ok (if c then .tuple #[ze,.bool false] else ze) w:=by
    simp [Instr.lookup,run_underlying hu,hmv,MapKept.run_getObj_map hh,hck,MapKept.run_findKey huk hf,zeroValue,typeInfo,hie,hze]
   have hz:=z7v he hie hze hzf;have key : ∃ s,Sym.lo st.next s∧Sm w (Ex X β st.own) β s ze∧k (if c=true then .tup [s,.d (.bool false)] else s):=by
    unfold zeroS at h;split at h
    ·rename_i hag
     rw [if_pos hag] at hz;refine ⟨_,zlh (zjg _ te.zero),?_,h.2⟩
     rw [hz];exact zfk (zjf _ _ _ te.zero) (fun u hu=>by simpa using (List.all_eq_true.1 h.1) u hu)
    ·rename_i hag
     rw [if_neg hag] at hz;split at h
     ·rename_i v hv
      have:=hz v hv;subst this
      exact ⟨_,zmp _ ze,zjd _ _ _ ze,h⟩
     ·exact h.elim
   obtain ⟨s,hl,hs,hks⟩:=key;cases c with
   | false=>exact ⟨_,_,hks,hl,hs,hrun⟩
   | true=>exact ⟨_,_,hks,by simpa [Sym.lo,Sym.los] using hl,by simp only [Sm,if_true];exact ⟨[ze,.bool false],rfl,by simp only [Sms];exact ⟨_,_,rfl,hs,_,_,rfl,by simp [Sm,R],rfl⟩⟩,hrun⟩
  ·exact h.elim
 ·exact h.elim
theorem zel : ∀ {ks ks':List TK} {l m:List D} {r:Bool},zbp (ks++ks') l m=some r→∃ r1 r2,zbp ks (l.take ks.length) (m.take ks.length)=some r1∧zbp ks' (l.drop ks.length) (m.drop ks.length)=some r2∧r=(r1&&r2) ∧
  ks.length≤l.length∧ks.length≤m.length
 | [],ks',l,m,r,h=>⟨true,r,by simp [zbp],by simpa using h,by simp,by simp,by simp⟩
 | k0::ks,ks',l,m,r,h=>by
  rw [List.cons_append] at h;unfold zbp at h;split at h
  ·rename_i heq;cases heq
  ·rename_i _ k1 a l' k2 b m' heq
   cases heq;split at h
   ·rename_i hkk
    cases hr:zbp (ks++ks') l' m' with
    | none=>rw [hr] at h;cases h
    | some r'=>
     rw [hr] at h;simp at h;subst h;obtain ⟨r1,r2,h1,h2,rfl,h3,h4⟩:=zel hr;exact ⟨decide (a=b)&&r1,r2,by simp only [List.length_cons,List.take_succ_cons,zbp,if_pos hkk,h1];rfl,by simpa using h2,by cases decide (a=b) <;> simp,by simp only [List.length_cons];omega,by simp only [List.length_cons];omega⟩
   ·cases h
  ·rename_i _ a l' b m' heq
   cases heq;cases hr:zbp (ks++ks') l' m' with
   | none=>rw [hr] at h;cases h
   | some r'=>
    rw [hr] at h;simp at h;subst h;obtain ⟨r1,r2,h1,h2,rfl,h3,h4⟩:=zel hr;exact ⟨decide (a=b)&&r1,r2,by simp only [List.length_cons,List.take_succ_cons,zbp,h1];rfl,by simpa using h2,by cases decide (a=b) <;> simp,by simp only [List.length_cons];omega,by simp only [List.length_cons];omega⟩
  ·rename_i _ a l' b m' heq
   cases heq;cases hr:zbp (ks++ks') l' m' with
   | none=>rw [hr] at h;cases h
   | some r'=>
    rw [hr] at h;simp at h;subst h;obtain ⟨r1,r2,h1,h2,rfl,h3,h4⟩:=zel hr;exact ⟨decide (a=b)&&r1,r2,by simp only [List.length_cons,List.take_succ_cons,zbp,h1];rfl,by simpa using h2,by cases decide (a=b) <;> simp,by simp only [List.length_cons];omega,by simp only [List.length_cons];omega⟩
  ·cases h
theorem zjh {w:World} {E:Nat→Prop} {d:Nat} {xs0 ys0:Array Value} {sub:List Field→Option (List TK)}
  (hsub : ∀ {fs:List Field} {ks:List TK} {l m:List D} {xs ys:List Value} {r:Bool},sub fs=some ks→zae w E l xs→zae w E m ys→zbp ks l m=some r→(Op.eqFields d xs.toArray ys.toArray fs).run P w = .ok r w) :
  ∀ {fs:List Field} {n:Nat} {ks:List TK} {l m:List D} {xs ys:List Value} {r:Bool},zc5 P sub n fs=some ks →
  zae w E l xs→zae w E m ys→(∀ (j:Nat) v,xs[j]?=some v→xs0[n+j]?=some v)→(∀ (j:Nat) v,ys[j]?=some v→ys0[n+j]?=some v)→zbp ks l m=some r →
  (Op.eqFields (d+1) xs0 ys0 fs).run P w = .ok r w
 | [],n,ks,l,m,xs,ys,r,hf,hx,hy,h1,h2,h=>by
  simp [zc5] at hf;subst hf;simp [zbp] at h;subst h;simp [Op.eqFields]
 | f::fs,n,ks,l,m,xs,ys,r,hf,hx,hy,h1,h2,h=>by
  simp only [zc5] at hf;split at hf
  ·rename_i hc
   simp only [Bool.and_eq_true,bne_iff_ne,ne_eq,beq_iff_eq] at hc;obtain ⟨hname,hoff⟩:=hc;have key : ∀ (v v':Value) (l' m':List D) (xs' ys':List Value) (ks':List TK) (b r':Bool),xs=v::xs'→ys=v'::ys'→zae w E l' xs'→zae w E m' ys'→zc5 P sub (n+1) fs=some ks'→zbp ks' l' m'=some r' →
     (∀ cs:Array Value,∀ u,cs[n]?=some u→(part f.type cs n).run P w = .ok u w)→(Op.equalIn (d+1) f.type v v').run P w = .ok b w→(Op.eqFields (d+1) xs0 ys0 (f::fs)).run P w = .ok (b&&r') w:=by
    intro v v' l' m' xs' ys' ks' b r' ex ey hl hm hk hr hpart heq;have hx0:xs0[n]?=some v:=by have:=h1 0 v (by rw [ex];rfl);simpa using this
    have hy0:ys0[n]?=some v':=by have:=h2 0 v' (by rw [ey];rfl);simpa using this
    have ih:=zjh (d:=d) (n:=n+1) hsub hk hl hm (fun j u hj=>by have:=h1 (j+1) u (by rw [ex];simpa using hj);rw [← this];congr 1;omega) (fun j u hj=>by have:=h2 (j+1) u (by rw [ey];simpa using hj);rw [← this];congr 1;omega) hr
    simp only [Op.eqFields, if_pos (show f.name ≠ "_" from hname), Sem.run_bind, hoff, hpart _ _ hx0, hpart _ _ hy0, Result.andThen_ok, heq]
    cases b
    ·simp
    ·simp only [Bool.not_true,Bool.false_eq_true,if_false,Bool.true_and];exact ih
   have hpart : ∀ {u:TypeDesc} {i:TypeInfo},P.underlying f.type=some u→P.info? f.type=some i→zml u=false→∀ cs:Array Value,∀ x,cs[n]?=some x→(part f.type cs n).run P w = .ok x w:=by
    intro u i hu hi hag cs x hx;simp [part,zgs hu,hag,hx]
   split at hf
   ·rename_i k i hu hi
    cases hk:zc5 P sub (n+1) fs with
    | none=>rw [hk] at hf;cases hf
    | some ks'=>
     rw [hk] at hf;simp at hf;subst hf;unfold zbp at h;split at h
     ·rename_i heq;cases heq
     ·rename_i _ k1 a l' k2 b m' heq
      cases heq;split at h
      ·rename_i hkk
       obtain ⟨rfl,rfl⟩:=hkk;cases hr:zbp ks' l' m' with
       | none=>rw [hr] at h;cases h
       | some r'=>
        rw [hr] at h;simp at h;subst h;simp only [zae,R] at hx hy;obtain ⟨_,xs',ex,_,rfl,hl⟩:=hx;obtain ⟨_,ys',ey,_,rfl,hm⟩:=hy;exact key _ _ _ _ _ _ _ _ _ ex ey hl hm hk hr (hpart hu hi rfl) (by rw [run_equalIn_int w d f.type _ _ a b hu];congr 1)
      ·cases h
     ·rename_i heq;cases heq
     ·rename_i heq;cases heq
     ·cases h
   ·rename_i i hu hi
    cases hk:zc5 P sub (n+1) fs with
    | none=>rw [hk] at hf;cases hf
    | some ks'=>
     rw [hk] at hf;simp at hf;subst hf;unfold zbp at h;split at h
     ·rename_i heq;cases heq
     ·rename_i heq;cases heq
     ·rename_i _ a l' b m' heq
      cases heq;cases hr:zbp ks' l' m' with
      | none=>rw [hr] at h;cases h
      | some r'=>
       rw [hr] at h;simp at h;subst h;simp only [zae,R] at hx hy;obtain ⟨_,xs',ex,_,rfl,hl⟩:=hx;obtain ⟨_,ys',ey,_,rfl,hm⟩:=hy;exact key _ _ _ _ _ _ _ _ _ ex ey hl hm hk hr (hpart hu hi rfl) (by rw [run_equalIn_bool' w d f.type a b hu];cases a <;> cases b <;> rfl)
     ·rename_i heq;cases heq
     ·cases h
   ·rename_i i hu hi
    cases hk:zc5 P sub (n+1) fs with
    | none=>rw [hk] at hf;cases hf
    | some ks'=>
     rw [hk] at hf;simp at hf;subst hf;unfold zbp at h;split at h
     ·rename_i heq;cases heq
     ·rename_i heq;cases heq
     ·rename_i heq;cases heq
     ·rename_i _ a l' b m' heq
      cases heq;cases hr:zbp ks' l' m' with
      | none=>rw [hr] at h;cases h
      | some r'=>
       rw [hr] at h;simp at h;subst h;simp only [zae,R] at hx hy;obtain ⟨_,xs',ex,_,rfl,hl⟩:=hx;obtain ⟨_,ys',ey,_,rfl,hm⟩:=hy;refine key _ _ _ _ _ _ _ _ _ ex ey hl hm hk hr (hpart hu hi rfl) ?_
       rw [run_equalIn_string w d f.type a b hu,← beq_toListBytes];congr 1
       by_cases e:a=b
       ·rw [decide_eq_true e];exact (MapKept.bytes_beq _ _).2 e
       ·rw [decide_eq_false e];exact Bool.eq_false_iff.2 fun h=>e ((MapKept.bytes_beq _ _).1 h)
     ·cases h
   ·rename_i gs i hu hi
    split at hf
    ·rename_i hst
     simp only [beq_iff_eq] at hst;split at hf
     ·rename_i ks1 hks1
      split at hf
      ·rename_i hsz
       simp only [beq_iff_eq] at hsz;cases hk:zc5 P sub (n+ks1.length) fs with
       | none=>rw [hk] at hf;cases hf
       | some ks'=>
        rw [hk] at hf;simp at hf;subst hf;obtain ⟨r1,r2,e1,e2,rfl,hl1,hl2⟩:=zel h;have lx:=hx.length;have ly:=hy.length;have hin:=hsub hks1 (zae.extract 0 ks1.length hx) (zae.extract 0 ks1.length hy) (by simpa using e1)
        simp only [List.drop_zero] at hin;have hx2:=zae.extract ks1.length xs.length hx;have hy2:=zae.extract ks1.length ys.length hy;rw [List.take_of_length_le (by simp;omega),List.take_of_length_le (by simp)] at hx2 hy2
        have ih:=zjh (d:=d) (n:=n+ks1.length) hsub hk hx2 hy2 (fun j u hj=>by rw [List.getElem?_drop] at hj;have:=h1 _ u hj;rw [← this];congr 1;omega) (fun j u hj=>by rw [List.getElem?_drop] at hj;have:=h2 _ u hj;rw [← this];congr 1;omega) e2
        have hex : ∀ (cs:Array Value) (zs:List Value),(∀ (j:Nat) v,zs[j]?=some v→cs[n+j]?=some v)→ks1.length≤zs.length→(part f.type cs n).run P w = .ok (.agg (zs.take ks1.length).toArray) w:=by
         intro cs zs hz hl;have hag:(isAgg f.type).run P w = .ok true w:=by rw [zgs hu];rfl
         have:cs.extract n (n+ks1.length)=(zs.take ks1.length).toArray:=by
          apply Array.ext'
          simp only [Array.toList_extract,List.extract_eq_take_drop];apply List.ext_getElem?
          intro j;rw [show n+ks1.length-n=ks1.length by omega,List.getElem?_take,List.getElem?_take]
          by_cases hj:j<ks1.length
          ·simp only [hj,if_true,List.getElem?_drop]
           have:=hz j zs[j] (List.getElem?_eq_getElem (by omega))
           rw [List.getElem?_eq_getElem (by omega:j<zs.length),← this,Array.getElem?_toList]
          ·simp [hj]
         simp [part,Sem.run_bind,hag,sizeOf,typeInfo,hi,hsz,this]
        have heq:(Op.equalIn (d+1) f.type (.agg (xs.take ks1.length).toArray) (.agg (ys.take ks1.length).toArray)).run P w = .ok r1 w:=by
         have hfo:P.underlying f.type=some (.struct (P.fieldsOf f.type)):=by rw [hu];simp [Program.fieldsOf,hu]
         have hfl:(P.fieldsOf f.type).toList=gs.toList:=by simp [Program.fieldsOf,hu]
         rw [run_equalIn_agg (P:=P) w d f.type _ _ hfo hst,hfl];exact hin
        simp only [Op.eqFields, if_pos (show f.name ≠ "_" from hname), Sem.run_bind, hoff, hex _ _ h1 (by omega), hex _ _ h2 (by omega), Result.andThen_ok, heq]
        cases r1
        ·simp
        ·simp only [Bool.not_true,Bool.false_eq_true,if_false,Bool.true_and];exact ih
      ·cases hf
     ·cases hf
    ·cases hf
   ·cases hf
  ·cases hf
theorem zwn {w:World} {E:Nat→Prop} : ∀ {e d:Nat} {fs:List Field} {ks:List TK} {l m:List D} {xs ys:List Value} {r:Bool},zt4 P e fs=some ks →
  zae w E l xs→zae w E m ys→zbp ks l m=some r→(Op.eqFields (d+e+1) xs.toArray ys.toArray fs).run P w = .ok r w
 | 0,d,fs,ks,l,m,xs,ys,r,hf,hx,hy,h=>zjh (d:=d) (sub:=fun _=>none) (fun h=>by cases h) hf hx hy (fun j v hj=>by simpa using hj) (fun j v hj=>by simpa using hj) h
 | e+1,d,fs,ks,l,m,xs,ys,r,hf,hx,hy,h=>zjh (d:=d+e+1) (sub:=zt4 P e) (fun h1 h2 h3 h4=>zwn h1 h2 h3 h4) hf hx hy (fun j v hj=>by simpa using hj) (fun j v hj=>by simpa using hj) h
theorem zwo {op:BinOp} {t:Nat} {s s':Sym} {v v':Value} {x y:Operand} {w:World} {E:Nat→Prop} {m:Nat} {k:Sym→Prop} (hs:Sm w E β s v) (hs':Sm w E β s' v') (h:znn P op t s s' k) :
  YV P w E β m (do eqGuard op t x y v v';binOp op t v v') k:=by
 unfold znn at h
 split at h
 ·rename_i a b
  simp only [Sm,R] at hs hs';obtain ⟨xs,rfl,hx⟩:=hs;obtain ⟨ys,rfl,hy⟩:=hs';split at h
  ·rename_i ks hks
   split at h
   ·rename_i r hr
    unfold eqKinds at hks;split at hks
    ·rename_i fs hu
     split at hks
     ·rename_i hc
      simp only [Bool.and_eq_true,beq_iff_eq] at hc;have hfo:P.underlying t=some (.struct (P.fieldsOf t)):=by rw [hu];simp [Program.fieldsOf,hu]
      have hfl:(P.fieldsOf t).toList=fs.toList:=by simp [Program.fieldsOf,hu]
      have heq:=zwn (w:=w) (d:=9996) hks hx hy hr;have hrun:=run_equalIn_agg (P:=P) w 9999 t xs.toArray ys.toArray hfo hc.1;rw [hfl,heq] at hrun;have hg:=run_eqGuard_agg (P:=P) w op t x y xs.toArray ys.toArray hc.2;split at h
      ·exact ⟨_,.bool r,h,by simp [Sym.lo],by simp [Sm,R],by simp only [Sem.run_bind,hg,Result.andThen_ok,run_eql_struct,hrun]⟩
      ·exact ⟨_,.bool (!r),h,by simp [Sym.lo],by simp [Sm,R],by simp only [Sem.run_bind,hg,Result.andThen_ok,run_neq_struct,hrun]⟩
      ·exact h.elim
     ·cases hks
    ·cases hks
   ·exact h.elim
  ·exact h.elim
 ·exact h.elim
theorem Yields.za6 {o:Oper} {s:Sym} {v:Value} (hk:k s) (hl:Sym.lo st.next s) (hs:Sm w (Ex X β st.own) β s v) (hr:(execOp a.eval o).run P w = .ok (.value v) w) :
  Yields P X st β a w o k:=by
 intro K Q h
 unfold Oper.wp
 rw [hr]
 exact h s v w hk hl (Below.refl _ _) hs
theorem Yields.zik {o:Oper} {c:Sem Value} (h:YV P w (Ex X β st.own) β st.next c k) (hr : ∀ v,c.run P w = .ok v w→(execOp a.eval o).run P w = .ok (.value v) w) :
  Yields P X st β a w o k:=by
 obtain ⟨s,v,hk,hl,hs,hv⟩:=h
 exact .za6 hk hl hs (hr v hv)
theorem Sms.zjz (hm:Mods X w0 st β a w) : ∀ (l:List Operand),Sms w (Ex X β st.own) β (l.map st.val) (l.map a.eval)∧Sym.los st.next (l.map st.val)
 | []=>by simp [Sms,Sym.los]
 | x::r=>by
  have h:=Sms.zjz hm r;simp only [List.map_cons,Sms,Sym.los];exact ⟨⟨_,_,rfl,(hm.val x).2,h.1⟩,(hm.val x).1,h.2⟩
theorem zkk (hm:Mods X w0 st β a w) {o:Oper} {f:Operand} {args:Array Operand} {ts:Array TypeId} (ho:o.op = .call {callee:=.value f,args,argTypes:=ts})
  (h:zn8 P st.look (st.val f) (args.toList.map st.val) k):Yields P X st β a w o k:=by
 intro K Q hK
 unfold zn8 at h
 split at h
 ·rename_i g caps hc
  unfold zpn at h;split at h
  ·rename_i ds lent hl
   obtain ⟨r,hp,hsc,hk⟩:=h;obtain ⟨hcall,hp⟩:=hp
   -- the callee
   obtain ⟨cs,hev,hcs⟩ : ∃ cs:List Value,a.eval f = .func (.func g) #[] cs.toArray∧Sms w (Ex X β st.own) β caps cs:=by
    have hv:=(hm.val f).2;cases hf:st.val f <;> rw [hf] at hc hv <;> simp only [zbi] at hc
    case d x=>
     cases x <;> simp only [zbi] at hc
     case fn f' l=>
      simp at hc;obtain ⟨rfl,rfl⟩:=hc
      simp only [Sm,R] at hv;obtain ⟨vs,h1,h2⟩:=hv;exact ⟨vs,h1,Sms.zf9 h2⟩
     all_goals cases hc
    case fn f' l=>
     simp at hc;obtain ⟨rfl,rfl⟩:=hc
     simp only [Sm] at hv;exact hv
    all_goals cases hc
   have hargs:=(Sms.zjz hm args.toList).1;have hall:=Sms.append hargs hcs;obtain ⟨hx,hex⟩:=zed hm hl hall;unfold callable at hcall;cases hfn:P.funcs[g]? with
   | none=>simp [hfn] at hcall
   | some fn=>
    simp [hfn] at hcall;have hrun:(execOp a.eval o).run P w = .ok (.enter g (args.toList.map a.eval++cs).toArray) w:=by
     have e1:¬ fn.body=none:=by intro e;rw [e] at hcall;simp at hcall
     have e3:Array.map a.eval args++cs.toArray=(List.map a.eval args.toList++cs).toArray:=by simp
     rw [← e3];simp [execOp,ho,resolve,hev,Deferred.ofValue,invoke,callFunc,hfn,e1,hcall.1]
    unfold Oper.wp;rw [hrun];simp only [Oper.upon];cases lent with
    | false=>
     refine (hp w (Ex X β st.own) _ hm.seen (hex rfl)).mono fun e w' he=>?_
     obtain ⟨v,rfl,hb,hr⟩:=he;exact hK (.d r) v w' hk (by simp [Sym.lo]) hb (by simpa [Sm] using hr)
    | true=>
     rcases hsc rfl with hs1 | ⟨_,hn⟩
     ·refine (hp w X _ hm.ybw hx).mono fun e w' he=>?_
      obtain ⟨v,rfl,hb,hr⟩:=he;exact hK (.d r) v w' hk (by simp [Sym.lo]) hb (by simpa [Sm] using zkj hs1 hr)
     ·refine (hn w X _ hm.ybw hx).mono fun e w' he=>?_
      obtain ⟨v,rfl,hb,hr⟩:=he;refine hK (.d r) v w' hk (by simp [Sym.lo]) hb ?_
      have:R w' (Ex X β st.own) r v:=hr.over (Over.less fun b hbx=>.inr (hm.seen.1 b hbx)) _ _
      simpa [Sm] using this
  ·exact h.elim
 ·exact h.elim
theorem znp {mx:Bool} {l:List Operand} {ρ:Operand→Sym} (h:zhc mx (l.map ρ) k) : ∃ x y ka a kb b,l=[x,y]∧ρ x = .d (.int ka a)∧ρ y = .d (.int kb b) ∧
  k (.d (.int ka (if mx=true then (if b>a then b else a) else (if b<a then b else a)))):=by
 unfold zhc at h
 split at h
 ·rename_i ka a kb b heq
  cases l with
  | nil=>cases heq
  | cons x r=>
   cases r with
   | nil=>simp at heq
   | cons y r=>
    cases r with
    | nil=>simp at heq;exact ⟨x,y,ka,a,kb,b,rfl,heq.1,heq.2,h⟩
    | cons _ _=>simp at heq
 ·exact h.elim
theorem z7w (hm:Mods X w0 st β a w) (o:Oper) (h:sop P st.look st.val o.op k):Yields P X st β a w o k:=by
 unfold sop at h
 split at h
 ·rename_i x ho
  exact .za6 h (hm.val x).1 (hm.val x).2 (by simp [execOp,ho])
 ·rename_i x ho
  exact .za6 h (hm.val x).1 (hm.val x).2 (by simp [execOp,ho])
 ·rename_i c x y ho
  unfold zy5 at h;split at h
  ·rename_i b hb
   have hc:=(hm.val c).2;rw [hb] at hc;simp only [Sm,R] at hc;cases b
   ·exact .za6 h (hm.val y).1 (hm.val y).2 (by simp [execOp,ho,hc,asBool])
   ·exact .za6 h (hm.val x).1 (hm.val x).2 (by simp [execOp,ho,hc,asBool])
  ·exact h.elim
 ·rename_i t x ho
  split at h
  ·rename_i ti ht
   exact .zik (zy7 hm ht (hm.val x).2 h) (fun v hv=>by simp [execOp,ho,hv])
  ·exact h.elim
 ·rename_i t x f ho
  split at h
  ·rename_i ti ht
   exact .zik (zoa ht (hm.val x).1 (hm.val x).2 h) (fun v hv=>by simp [execOp,ho,hv])
  ·exact h.elim
 ·rename_i t x f ho
  split at h
  ·rename_i ti ht
   exact .zik (zwj ht (hm.val x).1 (hm.val x).2 h) (fun v hv=>by simp [execOp,ho,hv])
  ·exact h.elim
 ·rename_i t x i ho
  split at h
  ·rename_i e _ _ _ _ ht
   obtain ⟨j,u,z,hi,hu,hz,hkd,_⟩:=zat ht;have:=za5 hkd.symm;subst this
   split at h
   ·rename_i te hte
    exact .zik (zob hm hu hte (hm.val x).1 (hm.val x).2 (hm.val i).2 h) (fun v hv=>by simp [execOp,ho,hv])
   ·exact h.elim
  ·exact h.elim
 ·rename_i t x i ho
  split at h
  ·rename_i ht
   obtain ⟨j,u,z,hi,hu,hz,hkd,_⟩:=zat ht;have:=zek hkd.symm;subst this
   exact .zik (zwk hu (hm.val x).2 (hm.val i).2 h) (fun v hv=>by simp [execOp,ho,hv])
  ·exact h.elim
 ·rename_i t x lo hi ho
  split at h
  ·rename_i ti ht
   refine .zik (zwl hm rfl ht h.1 (vlo:=lo.map a.eval) (vhi:=hi.map a.eval) (hm.val x).2 (by cases lo <;> rfl) (by cases hi <;> rfl) (hm.val x).1 ?_ ?_ h.2) (fun v hv=>by simp [execOp,ho,hv])
   ·intro p q hp hq
    cases lo with
    | none=>cases hp
    | some y=>simp at hp hq;subst hp;subst hq;exact (hm.val y).2
   ·intro p q hp hq
    cases hi with
    | none=>cases hp
    | some y=>simp at hp hq;subst hp;subst hq;exact (hm.val y).2
  ·exact h.elim
 ·rename_i t x lo hi mx ho
  split at h
  ·rename_i ti ht
   exact .zik (zt5 hm ht (hm.val x).2 (hm.val lo).2 (hm.val hi).2 (hm.val mx).2 h) (fun v hv=>by simp [execOp,ho,hv])
  ·exact h.elim
 ·rename_i op t x y ty ho
  split at h
  ·rename_i ti ht
   have hy:YV P w (Ex X β st.own) β st.next (do eqGuard op t x y (a.eval x) (a.eval y);binOp op t (a.eval x) (a.eval y)) k:=by
    rcases h with h | h
    ·exact z3v (x:=x) (y:=y) (hm.val x).2 (hm.val y).2 ht h.1 h.2
    ·exact zwo (hm.val x).2 (hm.val y).2 h
   exact .zik hy (fun v hv=>by
    simp only [Sem.run_bind] at hv;simp only [execOp,ho,Sem.run_bind];generalize (eqGuard op t x y (a.eval x) (a.eval y)).run P w=r at *;cases r with
    | ok u w'=>simp only [Result.andThen_ok] at hv ⊢;rw [hv];rfl
    | halt e w'=>cases hv)
  ·exact h.elim
 ·rename_i op t x ho
  exact .zik (z7u (hm.val x).2 h) (fun v hv=>by simp [execOp,ho,hv])
 ·rename_i s t x ho
  split at h
  ·rename_i ti' ti ht' ht
   exact .zik (zq7 ht' ht (hm.val x).2 h) (fun v hv=>by simp [execOp,ho,hv])
  ·exact h.elim
 ·rename_i t i ho
  exact .zik (zq8 (hm.val t).1 (hm.val t).2 h) (fun v hv=>by simp [execOp,ho,hv])
 ·rename_i t m x c ho
  split at h
  ·rename_i kt et _ _ _ _ ht
   obtain ⟨j,u,z,hi,hu,hz,hkd,_⟩:=zat ht;have:=z05 hkd.symm;subst this
   split at h
   ·rename_i tk te hk he
    exact .zik (zt6 hm hu hk he h.1 h.2) (fun v hv=>by simp [execOp,ho,hv])
   ·exact h.elim
  ·exact h.elim
 ·rename_i x ho
  obtain ⟨s,v,hk,hl,hs,hr⟩:=z3x (P:=P) (ρ:=a.eval) ho rfl (hm.val x).1 (hm.val x).2 h;exact .za6 hk hl hs hr
 ·rename_i ar ts ho
  split at h
  ·rename_i x t hx ht
   split at h
   ·rename_i ti hti
    have e1:ar = #[x]:=by cases ar;simp at hx;rw [hx]
    have e2:ts = #[t]:=by cases ts;simp at ht;rw [ht]
    subst e1;subst e2;exact .zik (z3w (ty:=o.type) hm hti (hm.val x).2 h) (fun v hv=>by simp [execOp,ho,resolve,invoke,builtin,hv])
   ·exact h.elim
  ·exact h.elim
 ·rename_i ar ts ho
  obtain ⟨x,y,ka,a',kb,b',har,hx,hy,hk⟩:=znp h;have e1:ar = #[x,y]:=by cases ar;simp at har;rw [har]
  subst e1;have hvx:=(hm.val x).2;rw [hx] at hvx;simp only [Sm,R] at hvx;have hvy:=(hm.val y).2;rw [hy] at hvy;simp only [Sm,R] at hvy;have hyv:YV P w (Ex X β st.own) β st.next (Builtin.max_ ts o.type #[.int ka a',.int kb b']) k:=YV.int hk (by rw [run_max_int2];simp)
  exact .zik hyv (fun v hv=>by simp [execOp,ho,resolve,invoke,builtin,hvx,hvy,hv])
 ·rename_i ar ts ho
  obtain ⟨x,y,ka,a',kb,b',har,hx,hy,hk⟩:=znp h;have e1:ar = #[x,y]:=by cases ar;simp at har;rw [har]
  subst e1;have hvx:=(hm.val x).2;rw [hx] at hvx;simp only [Sm,R] at hvx;have hvy:=(hm.val y).2;rw [hy] at hvy;simp only [Sm,R] at hvy;have hyv:YV P w (Ex X β st.own) β st.next (Builtin.min_ ts o.type #[.int ka a',.int kb b']) k:=YV.int hk (by rw [run_min_int2];simp)
  exact .zik hyv (fun v hv=>by simp [execOp,ho,resolve,invoke,builtin,hvx,hvy,hv])
 ·rename_i f ar ts ho
  exact zkk hm ho h
 ·exact h.elim
end
end Go.V

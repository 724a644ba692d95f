/- A program logic of my own over the kit: part V1. It needs no conditions. -/
import GoSem.Core.Sem
import Derived.Below
import Derived.WalkKit
import Derived.ProofKit
import Derived.WalkLawsBesides
import Derived.WalkSpells
import Derived.Scope
import Derived.Laws.Small
import Derived.MapKept
import Derived.Laws.StructEq
set_option linter.unusedVariables false
set_option linter.unusedSimpArgs false
set_option linter.unusedSectionVars false
namespace Go.V
open Go
theorem ztp{p:Program}{w w':World}{x:Addr}{u:TypeId}{k:Addr}{v:Value}{at_:Bool}{l:List Addr}(h:w.viewStore p x u k v at_ = .ok (w',l)):w'.drawn=w.drawn:=by
 unfold World.viewStore at h
 simp only[bind,Except.bind,pure,Except.pure,throw,throwThe,MonadExceptOf.throw] at h
 repeat' (first | (split at h) | (cases h;done))
 all_goals first | (cases h;rfl) | (exact absurd h (by simp)) | skip
theorem zvd{p:Program}{w w':World}{a:Addr}{v:Value}{b:Bool}{l:List Addr}(h:w.farStore p a v b = .ok (w',l)):w'.drawn=w.drawn:=by
 unfold World.farStore at h
 split at h
 .split at h
  .rename_i r hr
   obtain⟨w2,l2⟩:=r;cases h;exact ztp hr
  .cases h
 .cases h
theorem ztq{α:Type}:∀ (q:Ask α) (w:World),w.drawn<=(w.ask q).2.drawn
 |.done a,w=>by simp[World.ask]
 |.ask what range k,w=>by
  simp only[World.ask];split
  .exact ztq _ w
  .exact Nat.le_trans (Nat.le_succ _) (ztq _ {w with drawn:=w.drawn+1})
theorem yft(w:World)(c:Sys):w.drawn<=(w.sys c).2.drawn:=by
 have h:=ztq (Kernel.perform c w.os) w
 unfold World.sys
 split
 .exact Nat.le_refl _
 .rename_i r os w2 he
  rw[he] at h;exact h
theorem zce{α:Type}(p:Program):∀ (s:Sem α) (w:World) (v:α) (w':World),s.run p w = .ok v w'->w.drawn<=w'.drawn
 |.pure a,w,v,w',h=>by simp only[Sem.run] at h;cases h;exact Nat.le_refl _
 |.load m a k,w,v,w',h=>by
  simp only[Sem.run] at h;split at h
  .exact zce p _ _ _ _ h
  .split at h
   .exact zce p _ _ _ _ h
   .cases h
 |.store m a x k,w,v,w',h=>by
  cases x <;> simp only[Sem.run] at h <;> (try (cases h;done)) <;>
  (split at h
   .split at h
    .cases h
    .have:=zce p _ _ _ _ h;simpa[World.setCell] using this
   .split at h
    .rename_i w2 _ hf;have:=zce p _ _ _ _ h;rw[<-zvd hf];exact this
    .cases h)
 |.new o k,w,v,w',h=>by simp only[Sem.run] at h;have:=zce p _ _ _ _ h;exact this
 |.shape r k,w,v,w',h=>by simp only[Sem.run] at h;exact zce p _ _ _ _ h
 |.freeze a n k,w,v,w',h=>by
  simp only[Sem.run] at h;have:=zce p _ _ _ _ h
  unfold World.freeze at this;split at this <;> exact this
 |.frozen a k,w,v,w',h=>by simp only[Sem.run] at h;exact zce p _ _ _ _ h
 |.getObj r k,w,v,w',h=>by
  simp only[Sem.run] at h;split at h
  .cases h
  .exact zce p _ _ _ _ h
  .cases h
 |.setObj r o k,w,v,w',h=>by
  simp only[Sem.run] at h;split at h
  .cases h
  .have:=zce p _ _ _ _ h;exact this
  .cases h
 |.choose q k,w,v,w',h=>by
  simp only[Sem.run] at h;split at h
  .exact zce p _ _ _ _ h
  .exact Nat.le_trans (Nat.le_succ _) (zce p _ _ _ _ h)
 |.sys c k,w,v,w',h=>by simp only[Sem.run] at h;exact Nat.le_trans (yft w c) (zce p _ _ _ _ h)
 |.program k,w,v,w',h=>by simp only[Sem.run] at h;exact zce p _ _ _ _ h
 |.mark m k,w,v,w',h=>by simp only[Sem.run] at h;exact zce p _ _ _ _ h
 |.halt e,w,v,w',h=>by simp only[Sem.run] at h;cases h
class Dr where
 dr:Bool
variable [Dr]
def Drw(w w':World):Prop:=Dr.dr=true->w.drawn<=w'.drawn
theorem Drw.refl(w:World):Drw w w:=λ_=>Nat.le_refl _
theorem Drw.trans{a b c:World}(h:Drw a b)(k:Drw b c):Drw a c:=λH=>Nat.le_trans (h H) (k H)
end Go.V
namespace Go.V
variable [Dr]
open Go.RowKit
structure Below(B:Nat)(w w':World):Prop extends Go.RowKit.Below B w w' where
 drawn:Drw w w'
theorem Below.refl(B:Nat)(w:World):Below B w w:=⟨Go.RowKit.Below.refl B w,Drw.refl _⟩
theorem Below.trans{B:Nat}{a b c:World}(h:Below B a b)(k:Below B b c):Below B a c:=⟨h.toBelow.trans k.toBelow,h.drawn.trans k.drawn⟩
theorem Below.mono{B B':Nat}{w w':World}(h:Below B w w')(H:B'<=B):Below B' w w':=⟨h.toBelow.mono H,h.drawn⟩
theorem Below.alloc{B:Nat}{w w':World}(h:Below B w w')(H:B<=w'.heap.size)(o:Obj):Below B w (w'.alloc o):=⟨h.toBelow.alloc H o,h.drawn⟩
inductive D where
 |int (k:IntKind) (n:Int)
 |bool (b:Bool)
 |str (s:ByteArray)
 |sl (l:List (List D))
 |agg (l:List D)
 |ptr (l:List D)
 |tup (l:List D)
 |fn (f:Nat) (caps:List D)
 |val (v:Value)
 |mp (l:List (List D))
 deriving Inhabited
def rowLen:List (List D)->Nat
 | []=>0
 |r::_=>r.length
mutual
def R(w:World)(E:Nat->Prop):D->Value->Prop
 |.int k n,v=>v = .int k n
 |.bool b,v=>v = .bool b
 |.str s,v=>v = .string s
 |.sl l,v=>∃ a cap,v = .slice a l.length cap/\l.length<=cap/\cap<=maxLen/\(a=none->cap=0) /\
   (l≠[]->∃ b off,a=some ⟨b,off,none⟩/\¬E b/\b<w.heap.size/\zcl w E b (rowLen l) l off)
 |.agg l,v=>∃ vs:List Value,v = .agg vs.toArray/\zah w E l vs
 |.ptr l,v=>∃ b off,v = .pointer (some ⟨b,off,none⟩)/\¬E b/\b<w.heap.size/\Rrow w E b l off
 |.tup l,v=>∃ vs:List Value,v = .tuple vs.toArray/\za9 w E l vs
 |.fn f l,v=>∃ vs:List Value,v = .func (.func f) #[] vs.toArray/\za9 w E l vs
 |.val u,v=>v=u
 |.mp l,v=>∃ r es clock,v = .map (some r)/\¬E r/\r<w.heap.size/\w.heap[r]?=some (.map es clock)/\zdb w E l es.toList
def zdb(w:World)(E:Nat->Prop):List (List D)->List MapEntry->Prop
 | [],es=>es=[]
 |row::rs,es=>∃ e es',es=e::es'/\za9 w E row [e.key,e.val]/\zdb w E rs es'
def zah(w:World)(E:Nat->Prop):List D->List Value->Prop
 | [],vs=>vs=[]
 |d::ds,vs=>∃ v vs',vs=v::vs'/\v.oneCell'=true/\R w E d v/\zah w E ds vs'
def za9(w:World)(E:Nat->Prop):List D->List Value->Prop
 | [],vs=>vs=[]
 |d::ds,vs=>∃ v vs',vs=v::vs'/\R w E d v/\za9 w E ds vs'
def zcl(w:World)(E:Nat->Prop)(b sz:Nat):List (List D)->Nat->Prop
 | [],_=>True
 |r::rs,off=>r.length=sz/\Rrow w E b r off/\zcl w E b sz rs (off+sz)
def Rrow(w:World)(E:Nat->Prop)(b:Nat):List D->Nat->Prop
 | [],_=>True
 |d::ds,off=>(∃ v,w.cell? ⟨b,off,none⟩=some v/\v.oneCell'=true/\R w E d v)/\Rrow w E b ds (off+1)
end
def Over(w:World)(E:Nat->Prop)(w':World)(E':Nat->Prop):Prop:=
 ∀ b,b<w.heap.size->¬E b->¬E' b/\w'.heap[b]?=w.heap[b]?
def GT:List (Nat×List D):=[]
def Glob(w:World)(E:Nat->Prop):Prop:=∀ g l,(g,l)∈GT->R w E (.ptr l) (.pointer (some ⟨g,0,none⟩))
def Seen(w:World)(E:Nat->Prop):Prop:=(∀ b,E b->b<w.heap.size)/\Glob w E
theorem Over.refl(w:World)(E:Nat->Prop):Over w E w E:=λ_ _ h=>⟨h,rfl⟩
theorem zpg{w w':World}{b:Nat}(h:b<w.heap.size)(e:w'.heap[b]?=w.heap[b]?):b<w'.heap.size:=by
 have:(w.heap[b]?).isSome=true:=by simp[h]
 rw[<-e] at this
 simpa using this
theorem Over.of_below{w w':World}(h:Below w.heap.size w w')(E:Nat->Prop):Over w E w' E:=λb H G=>⟨G,h.block b H⟩
theorem Over.less{w:World}{E E':Nat->Prop}(h:∀ b,E' b->E b):Over w E w E':=λb _ he=>⟨λH=>he (h b H),rfl⟩
theorem Over.cell{w w':World}{E E':Nat->Prop}(h:Over w E w' E'){b off:Nat}(H:¬E b)(G:b<w.heap.size):
  w'.cell? ⟨b,off,none⟩=w.cell? ⟨b,off,none⟩:=World.cell?_of_block (a:=⟨b,off,none⟩) (h b G H).2
mutual
theorem R.over{w w':World}{E E':Nat->Prop}(h:Over w E w' E'):∀ (d:D) (v:Value),R w E d v->R w' E' d v
 |.int _ _,_,J=>by simpa[R] using J
 |.bool _,_,J=>by simpa[R] using J
 |.str _,_,J=>by simpa[R] using J
 |.sl l,v,J=>by
  simp only[R] at J ⊢;obtain⟨a,cap,L,M,h2,O,Q⟩:=J;refine⟨a,cap,L,M,h2,O,λK=>?_⟩
  obtain⟨b,off,T,V,X,H⟩:=Q K;exact⟨b,off,T,(h b X V).1,zpg X (h b X V).2,zcl.over h b (rowLen l) V X l off H⟩
 |.agg l,v,J=>by
  simp only[R] at J ⊢;obtain⟨vs,L,Y⟩:=J;exact⟨vs,L,zah.over h l vs Y⟩
 |.ptr l,v,J=>by
  simp only[R] at J ⊢;obtain⟨b,off,T,V,X,F⟩:=J;exact⟨b,off,T,(h b X V).1,zpg X (h b X V).2,Rrow.over h b V X l off F⟩
 |.tup l,v,J=>by
  simp only[R] at J ⊢;obtain⟨vs,L,Y⟩:=J;exact⟨vs,L,za9.over h l vs Y⟩
 |.fn f l,v,J=>by
  simp only[R] at J ⊢;obtain⟨vs,L,Y⟩:=J;exact⟨vs,L,za9.over h l vs Y⟩
 |.val _,_,J=>by simpa[R] using J
 |.mp l,v,J=>by
  simp only[R] at J ⊢;obtain⟨r,es,clock,L,V,X,Z,G⟩:=J;exact⟨r,es,clock,L,(h r X V).1,zpg X (h r X V).2,(h r X V).2.trans Z,zdb.over h l _ G⟩
theorem zdb.over{w w':World}{E E':Nat->Prop}(h:Over w E w' E'):∀ (l:List (List D)) (es:List MapEntry),zdb w E l es->zdb w' E' l es
 | [],_,H=>by simpa[zdb] using H
 |row::rs,es,H=>by
  simp only[zdb] at H ⊢;obtain⟨e,es',G,h2,F⟩:=H;exact⟨e,es',G,za9.over h row _ h2,zdb.over h rs es' F⟩
theorem zah.over{w w':World}{E E':Nat->Prop}(h:Over w E w' E'):∀ (l:List D) (vs:List Value),zah w E l vs->zah w' E' l vs
 | [],_,H=>by simpa[zah] using H
 |d::ds,vs,H=>by
  simp only[zah] at H ⊢;obtain⟨v,vs',G,h2,F,K⟩:=H;exact⟨v,vs',G,h2,R.over h d v F,zah.over h ds vs' K⟩
theorem za9.over{w w':World}{E E':Nat->Prop}(h:Over w E w' E'):∀ (l:List D) (vs:List Value),za9 w E l vs->za9 w' E' l vs
 | [],_,H=>by simpa[za9] using H
 |d::ds,vs,H=>by
  simp only[za9] at H ⊢;obtain⟨v,vs',G,F,K⟩:=H;exact⟨v,vs',G,R.over h d v F,za9.over h ds vs' K⟩
theorem zcl.over{w w':World}{E E':Nat->Prop}(h:Over w E w' E')(b sz:Nat)(H:¬E b)(G:b<w.heap.size):∀ (l:List (List D)) (off:Nat),zcl w E b sz l off->zcl w' E' b sz l off
 | [],_,_=>by simp[zcl]
 |r::rs,off,F=>by
  simp only[zcl] at F ⊢;exact⟨F.1,Rrow.over h b H G r off F.2.1,zcl.over h b sz H G rs _ F.2.2⟩
theorem Rrow.over{w w':World}{E E':Nat->Prop}(h:Over w E w' E')(b:Nat)(H:¬E b)(G:b<w.heap.size):∀ (l:List D) (off:Nat),Rrow w E b l off->Rrow w' E' b l off
 | [],_,_=>by simp[Rrow]
 |d::ds,off,F=>by
  simp only[Rrow] at F ⊢;obtain⟨⟨v,K,J,h2⟩,F⟩:=F;exact⟨⟨v,(h.cell H G).trans K,J,R.over h d v h2⟩,Rrow.over h b H G ds _ F⟩
end
section
variable {w:World} {E:Nat->Prop} {b sz:Nat}
theorem Rrow.drop{l:List D}:∀ {off:Nat} (n:Nat),Rrow w E b l off->Rrow w E b (l.drop n) (off+n):=by
 induction l with
 |nil=>intro off n _;simp[Rrow]
 |cons x xs ih=>
  intro off n h;cases n with
  |zero=>simpa using h
  |succ n=>
   simp only[Rrow] at h;have:=ih n h.2
   simpa[Nat.add_assoc,Nat.add_comm 1 n] using this
theorem Rrow.take{l:List D}:∀ {off:Nat} (n:Nat),Rrow w E b l off->Rrow w E b (l.take n) off:=by
 induction l with
 |nil=>intro off n _;simp[Rrow]
 |cons x xs ih=>
  intro off n h;cases n with
  |zero=>simp[Rrow]
  |succ n=>
   simp only[Rrow,List.take_succ_cons] at h ⊢;exact⟨h.1,ih n h.2⟩
theorem Rrow.append{l m:List D}:∀ {off:Nat},Rrow w E b l off->Rrow w E b m (off+l.length)->Rrow w E b (l++m) off:=by
 induction l with
 |nil=>intro off _ h;simpa using h
 |cons x xs ih=>
  intro off h H;simp only[Rrow,List.cons_append] at h ⊢;refine⟨h.1,ih h.2 ?_⟩
  simpa[Nat.add_assoc,Nat.add_comm 1 xs.length] using H
theorem zcl.get{l:List (List D)}:∀ {off i:Nat} {r:List D},zcl w E b sz l off->l[i]?=some r->r.length=sz/\Rrow w E b r (off+i*sz):=by
 induction l with
 |nil=>intro off j d _ h;simp at h
 |cons x xs ih=>
  intro off i r h hi;simp only[zcl] at h;cases i with
  |zero=>simp at hi;subst hi;simpa using⟨h.1,h.2.1⟩
  |succ i=>
   have:=ih h.2.2 (by simpa using hi)
   refine⟨this.1,?_⟩
   have e:off+sz+i*sz=off+(i+1)*sz:=by rw[Nat.add_mul];omega
   rw[<-e];exact this.2
theorem zcl.drop{l:List (List D)}:∀ {off:Nat} (n:Nat),zcl w E b sz l off->zcl w E b sz (l.drop n) (off+n*sz):=by
 induction l with
 |nil=>intro off n _;simp[zcl]
 |cons x xs ih=>
  intro off n h;cases n with
  |zero=>simpa using h
  |succ n=>
   simp only[zcl] at h;have:=ih n h.2.2
   have e:off+sz+n*sz=off+(n+1)*sz:=by rw[Nat.add_mul];omega
   rw[e] at this;exact this
theorem zcl.take{l:List (List D)}:∀ {off:Nat} (n:Nat),zcl w E b sz l off->zcl w E b sz (l.take n) off:=by
 induction l with
 |nil=>intro off n _;simp[zcl]
 |cons x xs ih=>
  intro off n h;cases n with
  |zero=>simp[zcl]
  |succ n=>
   simp only[zcl,List.take_succ_cons] at h ⊢;exact⟨h.1,h.2.1,ih n h.2.2⟩
theorem zcl.length{l:List (List D)}:∀ {off:Nat},zcl w E b sz l off->∀ r∈l,r.length=sz:=by
 induction l with
 |nil=>intro off _ r h;cases h
 |cons x xs ih=>
  intro off h r H;simp only[zcl] at h;rcases List.mem_cons.1 H with e | H
  .subst e;exact h.1
  .exact ih h.2.2 r H
theorem zcl.flat{l:List (List D)}:∀ {off:Nat},zcl w E b sz l off->Rrow w E b l.flatten off:=by
 induction l with
 |nil=>intro off _;simp[Rrow]
 |cons x xs ih=>
  intro off h;simp only[zcl] at h;simp only[List.flatten_cons];refine Rrow.append h.2.1 ?_
  rw[h.1];exact ih h.2.2
theorem zcl.of_flat{l:List (List D)}:∀ {off:Nat},(∀ r∈l,r.length=sz)->Rrow w E b l.flatten off->zcl w E b sz l off:=by
 induction l with
 |nil=>intro off _ _;simp[zcl]
 |cons x xs ih=>
  intro off H h;simp only[List.flatten_cons] at h;have G:=H x (by simp)
  simp only[zcl];refine⟨G,?_,ih (λr hr=>H r (by simp[hr])) ?_⟩
  .have:=Rrow.take x.length h;simpa using this
  .have:=Rrow.drop x.length h;rw[G] at this;simpa[G] using this
theorem zah.length{l:List D}:∀ {vs:List Value},zah w E l vs->vs.length=l.length:=by
 induction l with
 |nil=>intro vs h;simp only[zah] at h;simp[h]
 |cons x xs ih=>intro vs h;simp only[zah] at h;obtain⟨v,vs',rfl,_,_,h⟩:=h;simp[ih h]
theorem za9.length{l:List D}:∀ {vs:List Value},za9 w E l vs->vs.length=l.length:=by
 induction l with
 |nil=>intro vs h;simp only[za9] at h;simp[h]
 |cons x xs ih=>intro vs h;simp only[za9] at h;obtain⟨v,vs',rfl,_,h⟩:=h;simp[ih h]
theorem zah.get{l:List D}:∀ {vs:List Value} {j:Nat} {d:D},zah w E l vs->l[j]?=some d->∃ v,vs[j]?=some v/\v.oneCell'=true/\R w E d v:=by
 induction l with
 |nil=>intro vs j d _ h;simp at h
 |cons x xs ih=>
  intro vs j d h H;simp only[zah] at h;obtain⟨v,vs',rfl,G,h2,h⟩:=h;cases j with
  |zero=>simp at H;subst H;exact⟨v,by simp,G,h2⟩
  |succ j=>have:=ih h (by simpa using H);simpa using this
theorem za9.get{l:List D}:∀ {vs:List Value} {j:Nat} {d:D},za9 w E l vs->l[j]?=some d->∃ v,vs[j]?=some v/\R w E d v:=by
 induction l with
 |nil=>intro vs j d _ h;simp at h
 |cons x xs ih=>
  intro vs j d h H;simp only[za9] at h;obtain⟨v,vs',rfl,h2,h⟩:=h;cases j with
  |zero=>simp at H;subst H;exact⟨v,by simp,h2⟩
  |succ j=>have:=ih h (by simpa using H);simpa using this
theorem zah.vals{l:List D}:∀ {vs:List Value},zah w E l vs->za9 w E l vs:=by
 induction l with
 |nil=>intro vs h;simpa[zah,za9] using h
 |cons x xs ih=>intro vs h;simp only[zah,za9] at h ⊢;obtain⟨v,vs',rfl,_,h2,h⟩:=h;exact⟨v,vs',rfl,h2,ih h⟩
theorem za9.cells{l:List D}:∀ {vs:List Value},za9 w E l vs->(∀ v∈vs,v.oneCell'=true)->zah w E l vs:=by
 induction l with
 |nil=>intro vs h _;simpa[zah,za9] using h
 |cons x xs ih=>
  intro vs h H;simp only[zah,za9] at h ⊢;obtain⟨v,vs',rfl,h2,h⟩:=h;exact⟨v,vs',rfl,H v (by simp),h2,ih h (λu hu=>H u (by simp[hu]))⟩
theorem zah.one{l:List D}:∀ {vs:List Value},zah w E l vs->∀ v∈vs,v.oneCell'=true:=by
 induction l with
 |nil=>intro vs h v H;simp only[zah] at h;subst h;cases H
 |cons x xs ih=>
  intro vs h v H;simp only[zah] at h;obtain⟨u,vs',rfl,G,h2,h⟩:=h;rcases List.mem_cons.1 H with e | H
  .subst e;exact G
  .exact ih h v H
theorem zah.extract{l:List D}:∀ {vs:List Value} (n m:Nat),zah w E l vs->zah w E ((l.drop n).take m) ((vs.drop n).take m):=by
 induction l with
 |nil=>intro vs n m h;simp only[zah] at h;subst h;simp[zah]
 |cons x xs ih=>
  intro vs n m h;simp only[zah] at h;obtain⟨u,vs',rfl,H,h2,h⟩:=h;cases n with
  |zero=>
   cases m with
   |zero=>simp[zah]
   |succ m=>
    have:=ih 0 m h
    simp only[List.drop_zero,List.take_succ_cons,zah] at this ⊢;exact⟨u,_,rfl,H,h2,this⟩
  |succ n=>simpa using ih n m h
theorem zah.append{l m:List D}:∀ {vs us:List Value},zah w E l vs->zah w E m us->zah w E (l++m) (vs++us):=by
 induction l with
 |nil=>intro vs us h H;simp only[zah] at h;subst h;simpa using H
 |cons x xs ih=>
  intro vs us h H;simp only[zah] at h;obtain⟨u,vs',rfl,G,h2,h⟩:=h;simp only[List.cons_append,zah];exact⟨u,_,rfl,G,h2,ih h H⟩
theorem Rrow.cells{l:List D}:∀ {off:Nat},Rrow w E b l off->∃ vs,zah w E l vs/\∀ j v,vs[j]?=some v->w.cell? ⟨b,off+j,none⟩=some v:=by
 induction l with
 |nil=>intro off _;exact⟨[],by simp[zah],by simp⟩
 |cons x xs ih=>
  intro off h;simp only[Rrow] at h;obtain⟨⟨v,G,F,h2⟩,h⟩:=h;obtain⟨vs,H,K⟩:=ih h;refine⟨v::vs,by simp only[zah];exact⟨v,vs,rfl,F,h2,H⟩,λj u J=>?_⟩
  cases j with
  |zero=>simp at J;subst J;exact G
  |succ j=>have:=K j u (by simpa using J);rw[<-this];congr 2;omega
theorem Rrow.of_cells{l:List D}:∀ {off:Nat} {vs:List Value},zah w E l vs->(∀ j v,vs[j]?=some v->w.cell? ⟨b,off+j,none⟩=some v)->Rrow w E b l off:=by
 induction l with
 |nil=>intro off vs _ _;simp[Rrow]
 |cons x xs ih=>
  intro off vs h H;simp only[zah] at h;obtain⟨u,vs',rfl,G,h2,h⟩:=h;simp only[Rrow];refine⟨⟨u,by simpa using H 0 u (by simp),G,h2⟩,ih h λj v F=>?_⟩
  have:=H (j+1) v (by simpa using F)
  rw[<-this];congr 2;omega
end
theorem Glob.over{w w':World}{E E':Nat->Prop}(h:Over w E w' E')(H:Glob w E):Glob w' E':=λg l G=>R.over h _ _ (H g l G)
theorem Glob.of_nil{w:World}{E:Nat->Prop}(h:GT=[]):Glob w E:=λg l hm=>by rw[h] at hm;cases hm
end Go.V
namespace Go.V
class Ov where
 ov:Bool
variable [Dr] [Ov]
open Go.RowKit
inductive TK where
 |int (k:IntKind)
 |bool
 |str
 |slice (elem:Nat)
 |struct (fs:List (Nat×Nat×Bool))
 |ptr (e:Nat)
 |map (k e:Nat)
 |other
structure TI where
 kind:TK
 size:Nat
 bytes:Nat
 agg:Bool
 zero:List Value
def zph:TypeDesc->Bool
 |.struct _ |.array _ _=>true
 |_=>false
def zpi(P:Program)(f:Field):Option (Nat×Nat×Bool):=do
 let i <-P.info? f.type
 let u <-P.underlying f.type
 pure (f.offset,i.size,zph u)
def zc2(P:Program):TypeDesc->TK
 |.int k=>.int k
 |.bool=>.bool
 |.string=>.str
 |.slice e=>.slice e
 |.struct fs=>match fs.toList.mapM (zpi P) with
  |some l=>.struct l
  |none=>.other
 |.pointer e=>.ptr e
 |.map k e=>.map k e
 |_=>.other
def TI.of(P:Program)(t:Nat):Option TI:=do
 let i <-P.info? t
 let u <-P.underlying t
 let z <-i.zero
 pure {kind:=zc2 P u,size:=i.size,bytes:=i.bytes,agg:=zph u,zero:=z.cells.toList}
inductive RK where
 |lp (ps:Array Tmp) (assign body:Code) (state:LoopState) (pend:Option Code)
 |it (s:ByteArray) (pos:Nat)
 |mq (keys:List Int)
instance:Inhabited RK:=⟨.it ByteArray.empty 0⟩
def RK.at:RK->Option Obj->Nat->Nat->List Value->Prop
 |.lp ps a b s p,o,fn,D,vs=>o=some (.loop {state:=s,pending:=p,fn,tmps:=vs.toArray,params:=ps,assign:=a,body:=b,defers:=D})
 |.it s pos,o,_,_,_=>o=some (.stringIter s pos)
 |.mq keys,o,_,_,vs=>∃ es clock,o=some (.map es clock)/\es.toList.map (·.key)=keys.map (λk=>.int .i64 k)/\es.toList.map (·.val)=vs
def RK.ptr:RK->Nat->Value
 |.mq _,b=>.map (some b)
 |_,b=>.pointer (some ⟨b,0,none⟩)
inductive Sym where
 |d (x:D)
 |nils
 |bp (id off:Nat)
 |ar (id:Nat)
 |ap (id sz i off:Nat)
 |aS (id sz lo n:Nat)
 |av (id sz lo n:Nat)
 |yd (id:Nat)
 |mp (id:Nat)
 |tup (l:List Sym)
 |agg (l:List Sym)
 |fn (f:Nat) (caps:List Sym)
 |junk
 deriving Inhabited
inductive Obj' where
 |box (T:Nat) (cells:List Sym)
 |arr (T:Nat) (sz:Nat) (rows:List (List D))
 |map (T:Nat) (rows:List (List D))
 |raw (k:RK) (cells:List Sym)
 deriving Inhabited
structure St where
 n:Nat
 next:Nat
 slots:List (Nat×Sym)
 own:List (Nat×Obj')
 base:Nat:=0
 moved:List Nat:=[]
def zac{α:Type}:List (Nat×α)->Nat->Option α
 | [],_=>none
 |(k,v)::r,t=>if k=t then some v else zac r t
def aset{α:Type}(t:Nat)(v:α):List (Nat×α)->List (Nat×α)
 | []=>[(t,v)]
 |(k,u)::r=>if k=t then (k,v)::r else (k,u)::aset t v r
def adel{α:Type}(t:Nat):List (Nat×α)->List (Nat×α)
 | []=>[]
 |(k,u)::r=>if k=t then adel t r else (k,u)::adel t r
def ofConst:Value->Sym
 |.int k n=>.d (.int k n)
 |.bool b=>.d (.bool b)
 |.string s=>.d (.str s)
 |.slice none 0 0=>.nils
 |v=>.d (.val v)
def St.val(st:St):Operand->Sym
 |.tmp t=>(zac st.slots t).getD .junk
 |.const v=>ofConst v
 |.func f=>.fn f []
 |.global g=>match zac GT g with
  |some l=>.d (.ptr l)
  |none=>.junk
def St.put(st:St)(dst:Option Tmp)(s:Sym):St:=
 match dst with
 |some t=>{st with slots:=(t,s)::st.slots}
 |none=>st
def St.look(st:St)(id:Nat):Option Obj':=zac st.own id
mutual
def Sym.lo(m:Nat):Sym->Prop
 |.bp id _ |.ar id |.ap id _ _ _ |.aS id _ _ _ |.av id _ _ _ |.mp id |.yd id=>id<m
 |.tup l |.agg l |.fn _ l=>Sym.los m l
 |_=>True
def Sym.los(m:Nat):List Sym->Prop
 | []=>True
 |s::r=>Sym.lo m s/\Sym.los m r
end
def Obj'.lo(m:Nat):Obj'->Prop
 |.box _ cells=>Sym.los m cells
 |.arr _ _ _=>True
 |.map _ _=>True
 |.raw _ cells=>Sym.los m cells
mutual
def Sm(w:World)(E:Nat->Prop)(β:Nat->Value):Sym->Value->Prop
 |.d x,v=>R w E x v
 |.nils,v=>v = .slice none 0 0
 |.bp id off,v=>∃ b,β id = .pointer (some ⟨b,0,none⟩)/\v = .pointer (some ⟨b,off,none⟩)
 |.ar id,v=>v=β id
 |.ap id sz i off,v=>∃ b n c,β id = .slice (some ⟨b,0,none⟩) n c/\v = .pointer (some ⟨b,i*sz+off,none⟩)
 |.aS id sz lo n,v=>∃ b m c k,β id = .slice (some ⟨b,0,none⟩) m c/\v = .slice (some ⟨b,lo*sz,none⟩) n k/\n<=k/\k<=maxLen
 |.av id sz lo n,v=>∃ b c,β id = .slice (some ⟨b,0,none⟩) c c/\v = .slice (some ⟨b,lo*sz,none⟩) n (c-lo)/\lo+n<=c/\c<=maxLen
 |.mp id,v=>v=β id
 |.yd id,v=>∃ b,β id = .pointer (some ⟨b,0,none⟩)/\v = .func (.yield b) #[] #[]
 |.tup l,v=>∃ vs:List Value,v = .tuple vs.toArray/\Sms w E β l vs
 |.agg l,v=>∃ vs:List Value,v = .agg vs.toArray/\Sms w E β l vs/\(∀ u∈vs,u.oneCell'=true)
 |.fn f l,v=>∃ vs:List Value,v = .func (.func f) #[] vs.toArray/\Sms w E β l vs
 |.junk,_=>True
def Sms(w:World)(E:Nat->Prop)(β:Nat->Value):List Sym->List Value->Prop
 | [],vs=>vs=[]
 |s::r,vs=>∃ v vs',vs=v::vs'/\Sm w E β s v/\Sms w E β r vs'
end
def blk:Value->Option Nat
 |.slice (some a) _ _=>some a.block
 |.pointer (some a)=>some a.block
 |.map (some r)=>some r
 |_=>none
theorem RK.zj5(k:RK)(b:Nat):blk (k.ptr b)=some b:=by cases k <;> rfl
theorem RK.ype{k:RK}{h:Array Obj}{b fn D:Nat}{vs:List Value}(H:k.at h[b]? fn D vs):b<h.size:=by
 cases k with
 |lp=>exact(Array.getElem?_eq_some_iff.1 H).1
 |it=>exact(Array.getElem?_eq_some_iff.1 H).1
 |mq=>obtain⟨es,clock,G,_⟩:=H;exact(Array.getElem?_eq_some_iff.1 G).1
structure Base where
 w:World
 foot:Nat->Prop
 β0:Nat->Value
 dfs:List Deferred
def Base.may(B:Base)(b:Nat):Prop:=B.w.heap.size<=b\/B.foot b
def Base.of(w:World):Base:=⟨w,λ_=>False,λ_=>.pointer none,[]⟩
structure Kept(B:Base)(w:World):Prop where
 os:w.os=B.w.os
 tape:w.tape=B.w.tape
 output:w.output=B.w.output
 size:B.w.heap.size<=w.heap.size
 block:∀ k,¬B.may k->w.heap[k]?=B.w.heap[k]?
 drawn:Drw B.w w
theorem Kept.refl(B:Base):Kept B B.w:=⟨rfl,rfl,rfl,Nat.le_refl _,λ_ _=>rfl,Drw.refl _⟩
theorem Base.lt{B:Base}{k:Nat}(h:¬B.may k):k<B.w.heap.size:=by
 rcases Nat.lt_or_ge k B.w.heap.size with H | H
 .exact H
 .exact absurd (.inl H) h
theorem Kept.next{B:Base}{w w':World}(h:Kept B w)(H:Below w.heap.size w w'):Kept B w':=
 ⟨H.os.trans h.os,H.tape.trans h.tape,H.output.trans h.output,Nat.le_trans h.size H.size,λk G=>(H.block k (Nat.lt_of_lt_of_le (Base.lt G) h.size)).trans (h.block k G),h.drawn.trans H.drawn⟩
theorem Kept.turn{B:Base}{w w':World}(h:Kept B w)(os:w'.os=w.os)(tape:w'.tape=w.tape)(output:w'.output=w.output)(size:w.heap.size<=w'.heap.size)
  (block:∀ k,k<w.heap.size->¬B.may k->w'.heap[k]?=w.heap[k]?) (drawn:Drw w w'):Kept B w':=
 ⟨os.trans h.os,tape.trans h.tape,output.trans h.output,Nat.le_trans h.size size,λk H=>(block k (Nat.lt_of_lt_of_le (Base.lt H) h.size) H).trans (h.block k H),h.drawn.trans drawn⟩
theorem Kept.below{w w':World}(h:Kept (.of w) w'):Below w.heap.size w w':=
 ⟨⟨h.os,h.tape,h.output,h.size,λk hk=>h.block k (λhm=>hm.elim (λH=>by have:w.heap.size<=k:=H;omega) (λH=>H))⟩,h.drawn⟩
def zcz(w:World)(b:Nat):Prop:=∀ (arr:Array Value) (T:Nat) (fz:Nat×Nat),w.heap[b]?=some (.cells arr T fz)->∀ u∈arr.toList,u.oneCell'=true
theorem zcz.same{w w':World}{b:Nat}(h:zcz w b)(e:w'.heap[b]?=w.heap[b]?):zcz w' b:=by
 intro arr T fz H;exact h arr T fz (e▸H)
theorem zcz.of{w:World}{b:Nat}{arr:Array Value}{T:Nat}{fz:Nat×Nat}(h:w.heap[b]?=some (.cells arr T fz))(H:∀ u∈arr.toList,u.oneCell'=true):zcz w b:=by
 intro arr' T' fz' G
 rw[h] at G;cases G;exact H
def Owns(N:Nat->Prop)(w:World)(T sz:Nat)(v:Value)(n:Nat)(xs:List Value):Prop:=w.ownsRow 0 T sz v n xs/\∀ b,blk v=some b->N b/\zcz w b
theorem Owns.row{N:Nat->Prop}{w:World}{T sz n base:Nat}{v:Value}{xs:List Value}(h:Owns N w T sz v n xs)(H:∀ b,N b->base<=b):w.ownsRow base T sz v n xs:=by
 refine⟨h.1.1,?_⟩
 rcases h.1.2 with G | ⟨g,cap,cur,F,h2,E⟩
 .exact .inl G
 .exact .inr ⟨g,cap,cur,F,H g (h.2 g (by rw[F];rfl)).1,E⟩
theorem Owns.yk4{N:Nat->Prop}{w:World}{T sz n base:Nat}{v:Value}{xs:List Value}(h:w.ownsRow base T sz v n xs)(H:∀ b,blk v=some b->zcz w b)(G:∀ b,base<=b->N b):Owns N w T sz v n xs:=by
 refine⟨⟨h.1,?_⟩,?_⟩
 .rcases h.2 with F | ⟨g,cap,cur,E,h2,K⟩
  .exact .inl F
  .exact .inr ⟨g,cap,cur,E,Nat.zero_le _,K⟩
 .intro b J
  rcases h.2 with⟨F,_⟩ | ⟨g,cap,cur,E,h2,K⟩
  .rw[F] at J;simp[blk] at J
  .exact⟨by rw[E] at J;simp[blk] at J;subst J;exact G g h2,H b J⟩
def zdi(w:World)(N:Nat->Prop)(E:Nat->Prop)(β:Nat->Value)(id:Nat):Obj'->Prop
 |.box T cells=>∃ b vs,β id = .pointer (some ⟨b,0,none⟩)/\N b/\w.heap[b]?=some (.cells vs.toArray T (0,0))/\Sms w E β cells vs/\(∀ v∈vs,v.oneCell'=true)
 |.arr T sz rows=>∃ xs,Owns N w T sz (β id) rows.length xs/\zah w E rows.flatten xs/\(∀ r∈rows,r.length=sz)
 |.map _ rows=>∃ r es clock,β id = .map (some r)/\N r/\w.heap[r]?=some (.map es clock)/\zdb w E rows es.toList
 |.raw k cells=>∃ b fn D vs,β id=k.ptr b/\N b/\k.at w.heap[b]? fn D vs/\Sms w E β cells vs
def Ex(X:Nat->Prop)(β:Nat->Value)(own:List (Nat×Obj'))(b:Nat):Prop:=X b\/∃ id o,(id,o)∈own/\blk (β id)=some b
structure Mods(X:Nat->Prop)(w0:Base)(st:St)(β:Nat->Value)(a:Act)(w:World):Prop where
 outer:(∀ b,X b->¬w0.may b)/\Glob w0.w (λb=>X b\/w0.foot b)
 still:st.base<=st.next/\∀ id,id<st.base->id∉st.moved->β id=w0.β0 id
 one:∀ id,(β id).oneCell'=true
 defers:a.defers=w0.dfs
 size:a.tmps.size=st.n
 below:Kept w0 w
 keys:(st.own.map (·.1)).Nodup
 own:∀ id o,(id,o)∈st.own->id<st.next/\o.lo st.next/\zdi w w0.may (Ex X β st.own) β id o
 apart:∀ id o id' o' b,(id,o)∈st.own->(id',o')∈st.own->blk (β id)=some b->blk (β id')=some b->id=id'
 slots:∀ t s,zac st.slots t=some s->Sym.lo st.next s/\Sm w (Ex X β st.own) β s (a.tmps.getD t undef)
def callable(P:Program)(f:Nat):Bool:=match P.funcs[f]? with
 | some fn => fn.name != "runtime.NumGoroutine" && fn.body.isSome
 |none=>false
def zan(P:Program)(f:Nat)(args:List D)(r:D):Prop:=
 callable P f=true/\∀ (w:World) (E:Nat->Prop) (vs:List Value),Seen w E->za9 w E args vs ->
  Calls P f vs.toArray w λe w'=>∃ v,e = .returned v/\Below w.heap.size w w'/\R w' E r v
mutual
def D.scalar:D->Bool
 |.int _ _ |.bool _ |.str _=>true
 |.tup l=>D.scalars l
 |.agg l=>D.scalars l
 |_=>false
def D.scalars:List D->Bool
 | []=>true
 |d::r=>D.scalar d&&D.scalars r
end
def zyp(look:Nat->Option Obj'):Sym->Option D
 |.d x=>some x
 |.nils=>some (.sl [])
 |.ar id=>match look id with
  |some (.arr _ _ rows)=>some (.sl rows)
  |_=>none
 |_=>none
def cellsD(look:Nat->Option Obj'):List Sym->Option (List D)
 | []=>some []
 |s::r=>match zyp look s,cellsD look r with
  |some x,some xs=>some (x::xs)
  |_,_=>none
mutual
def lend(look:Nat->Option Obj'):Sym->Option (D×Bool)
 |.d x=>some (x,false)
 |.nils=>some (.sl [],false)
 |.bp id off=>match look id with
  |some (.box _ cells)=>match cellsD look cells with
   |some ds=>some (.ptr (ds.drop off),true)
   |none=>none
  |_=>none
 |.ar id=>match look id with
  |some (.arr _ _ rows)=>some (.sl rows,true)
  |_=>none
 |.mp id=>match look id with
  |some (.map _ rows)=>some (.mp rows,true)
  |_=>none
 |.agg l=>match zjm look l with
  |some (ds,b)=>some (.agg ds,b)
  |none=>none
 |.fn f l=>match zjm look l with
  |some (ds,b)=>some (.fn f ds,b)
  |none=>none
 |_=>none
def zjm(look:Nat->Option Obj'):List Sym->Option (List D×Bool)
 | []=>some ([],false)
 |s::r=>match lend look s,zjm look r with
  |some (d,b),some (ds,c)=>some (d::ds,b ||c)
  |_,_=>none
end
def unD:Sym->Option D
 |.d x=>some x
 |.nils=>some (.sl [])
 |_=>none
def allD:List Sym->Option (List D)
 | []=>some []
 |s::r=>match unD s,allD r with
  |some x,some xs=>some (x::xs)
  |_,_=>none
def zj6(l:List Sym):Sym:=match allD l with
 |some ds=>.d (.agg ds)
 |none=>.agg l
def headD(ti:TI)(l:List D)(k:Sym->Prop):Prop:=
 if ti.agg=true then ti.size<=l.length/\k (.d (.agg (l.take ti.size)))
 else match l with
  |x::_=>k (.d x)
  | []=>False
def zve(ti:TI)(l:List Sym)(k:Sym->Prop):Prop:=
 if ti.agg=true then ti.size<=l.length/\k (zj6 (l.take ti.size))
 else match l with
  |x::_=>k x
  | []=>False
def zmn(look:Nat->Option Obj')(ti:TI):Sym->(Sym->Prop)->Prop
 |.d (.ptr l),k=>headD ti l k
 |.bp id off,k=>match look id with
  |some (.box _ cells)=>zve ti (cells.drop off) k
  |_=>False
 |.ap id sz i off,k=>match look id with
  |some (.arr _ sz' rows)=>sz=sz'/\i<rows.length/\headD ti ((rows.getD i []).drop off) k
  |_=>False
 |_,_=>False
def zeg(kd:TK)(x:Sym)(f:Nat)(k:Sym->Prop):Prop:=
 match kd with
 |.struct fs=>match fs[f]?,x with
  |some (off,sz,_),.d (.ptr l)=>sz≠0/\k (.d (.ptr (l.drop off)))
  |some (off,sz,_),.bp id o=>sz≠0/\k (.bp id (o+off))
  |some (off,sz,_),.ap id s i o=>sz≠0/\k (.ap id s i (o+off))
  |_,_=>False
 |_=>False
def zqr(kd:TK)(x:Sym)(f:Nat)(k:Sym->Prop):Prop:=
 match kd with
 |.struct fs=>match fs[f]?,x with
  |some (off,sz,agg),.d (.agg l)=>if agg=true then off+sz<=l.length/\k (.d (.agg ((l.drop off).take sz))) else (match l.drop off with
   |x::_=>k (.d x)
   | []=>False)
  |some (off,sz,agg),.agg l=>if agg=true then off+sz<=l.length/\k (zj6 ((l.drop off).take sz)) else (match l.drop off with
   |x::_=>k x
   | []=>False)
  |_,_=>False
 |_=>False
def zcs(look:Nat->Option Obj')(esz:Nat):Sym->Sym->(Sym->Prop)->Prop
 |.d (.sl l),.d (.int _ n),k=>(0<=n/\n<l.length)/\(l.getD n.toNat []).length=esz/\k (.d (.ptr (l.getD n.toNat [])))
 |.ar id,.d (.int _ n),k=>match look id with
  |some (.arr _ sz rows)=>(0<=n/\n<rows.length)/\sz=esz/\k (.ap id sz n.toNat 0)
  |_=>False
 |_,_,_=>False
def byteAt(s:ByteArray)(n:Int):Int:=((s.data.toList.getD n.toNat 0).toNat:Int)
def zqs:Sym->Sym->(Sym->Prop)->Prop
 |.d (.str s),.d (.int _ n),k=>(0<=n/\n<s.size)/\k (.d (.int .u8 (byteAt s n)))
 |_,_,_=>False
def I64(n:Int):Prop:=-9223372036854775808<=n/\n<=9223372036854775807
def zjn(op:BinOp)(k:IntKind)(x y:Int):Int:=
 let a:=BitVec.ofInt k.bits x
 let b:=BitVec.ofInt k.bits y
 match op with
 |.and=>k.wrap (a &&& b).toNat
 |.or=>k.wrap (a |||b).toNat
 |.xor=>k.wrap (a ^^^ b).toNat
 |_=>k.wrap (a &&& ~~~b).toNat
def arith(kd:IntKind)(n:Int)(k:Sym->Prop):Prop:=
 match kd with
 |.i64=>if Ov.ov=true then k (.d (.int .i64 (IntKind.i64.wrap n))) else I64 n/\k (.d (.int .i64 n))
 |kd=>k (.d (.int kd (kd.wrap n)))
def zpj(kd:IntKind)(a b:Int)(k:Sym->Prop):BinOp->Prop
 |.add=>arith kd (a+b) k
 |.sub=>arith kd (a-b) k
 |.mul=>arith kd (a*b) k
 |.quo=>b≠0/\arith kd (a.tdiv b) k
 |.rem=>b≠0/\k (.d (.int kd (a.tmod b)))
 |.and=>k (.d (.int kd (zjn .and kd a b)))
 |.or=>k (.d (.int kd (zjn .or kd a b)))
 |.xor=>k (.d (.int kd (zjn .xor kd a b)))
 |.andNot=>k (.d (.int kd (zjn .andNot kd a b)))
 |.eql=>k (.d (.bool (decide (a=b))))
 |.neq=>k (.d (.bool (!decide (a=b))))
 |.lss=>k (.d (.bool (decide (a<b))))
 |.leq=>k (.d (.bool (decide (a<=b))))
 |.gtr=>k (.d (.bool (decide (b<a))))
 |.geq=>k (.d (.bool (decide (b<=a))))
 |_=>False
def zpk(a b:ByteArray)(k:Sym->Prop):BinOp->Prop
 |.add=>(a.size+b.size:Int)<=9223372036854775807/\k (.d (.str (a++b)))
 |.eql=>k (.d (.bool (a.toList==b.toList)))
 |.neq=>k (.d (.bool !(a.toList==b.toList)))
 |.lss=>k (.d (.bool (Op.bytesLess a.toList b.toList)))
 |.leq=>k (.d (.bool (Op.bytesLess a.toList b.toList ||a.toList==b.toList)))
 |.gtr=>k (.d (.bool (!(Op.bytesLess a.toList b.toList ||a.toList==b.toList))))
 |.geq=>k (.d (.bool (!Op.bytesLess a.toList b.toList)))
 |_=>False
def zk6(a b:Bool)(k:Sym->Prop):BinOp->Prop
 |.eql=>k (.d (.bool (a==b)))
 |.neq=>k (.d (.bool (!(a==b))))
 |_=>False
def zlx(op:BinOp)(kd:IntKind)(a b:Int):Int:=
 match op with
 |.shl=>kd.wrap (a*2^(min b.toNat kd.bits))
 |_=>a.fdiv (2^(min b.toNat kd.bits))
def sbin(op:BinOp):Sym->Sym->(Sym->Prop)->Prop
 |.d (.int ka a),.d (.int kb b),k=>match op with
  |.shl=>0<=b/\k (.d (.int ka (zlx .shl ka a b)))
  |.shr=>0<=b/\k (.d (.int ka (zlx .shr ka a b)))
  |op=>ka=kb/\zpj ka a b k op
 |.d (.str a),.d (.str b),k=>zpk a b k op
 |.d (.bool a),.d (.bool b),k=>zk6 a b k op
 |.d (.sl l),.nils,k=>match op with
  |.eql=>∀ b:Bool,(b=true->l=[])->k (.d (.bool b))
  |.neq=>∀ b:Bool,(b=true->l=[])->k (.d (.bool !b))
  |_=>False
 |.nils,.nils,k=>match op with
  |.eql=>k (.d (.bool true))
  |.neq=>k (.d (.bool false))
  |_=>False
 |_,_,_=>False
def zj7:TK->Bool
 |.slice _=>true
 |_=>false
def zmo(kd:TK):Sym->Bool
 |.d (.bool _)=>match kd with |.bool=>true |_=>false
 |.d (.sl _)=>zj7 kd
 |.nils=>zj7 kd
 |_=>true
def sun(op:UnOp):Sym->(Sym->Prop)->Prop
 |.d (.bool b),k=>match op with
  |.not=>k (.d (.bool !b))
  |_=>False
 |.d (.int kd n),k=>match op with
  |.neg=>arith kd (0-n) k
  |_=>False
 |_,_=>False
def zf5:TK->Sym->(Sym->Prop)->Prop
 |.int kd,.d (.int _ n),k=>k (.d (.int kd (kd.wrap n)))
 |.str,.d (.str s),k=>k (.d (.str s))
 |_,_,_=>False
def zf6:Sym->Nat->(Sym->Prop)->Prop
 |.d (.tup l),i,k=>match l[i]? with
  |some x=>k (.d x)
  |none=>False
 |.tup l,i,k=>match l[i]? with
  |some x=>k x
  |none=>False
 |_,_,_=>False
def slen(look:Nat->Option Obj'):TK->Sym->(Sym->Prop)->Prop
 |.slice _,.d (.sl l),k=>k (.d (.int .i64 l.length))
 |.str,.d (.str s),k=>k (.d (.int .i64 s.size))
 |.slice _,.nils,k=>k (.d (.int .i64 0))
 |.slice _,.ar id,k=>match look id with
  |some (.arr _ _ rows)=>k (.d (.int .i64 rows.length))
  |_=>False
 |.slice _,.aS _ _ _ n,k=>k (.d (.int .i64 n))
 |.slice _,.av _ _ _ n,k=>k (.d (.int .i64 n))
 |_,_,_=>False
def ziu(mx:Bool):List Sym->(Sym->Prop)->Prop
 | [.d (.int ka a),.d (.int _ b)],k=>k (.d (.int ka (if mx=true then (if b>a then b else a) else (if b<a then b else a))))
 |_,_=>False
def bnd(d:Int):Option Sym->Option Int
 |none=>some d
 |some (.d (.int _ n))=>some n
 |_=>none
def elemSize(P:Program)(e:Nat):Nat:=match TI.of P e with
 |some te=>te.size
 |none=>1
def ztr(P:Program):TK->Bool
 |.slice e=>(TI.of P e).isSome
 |_=>true
def zh4(P:Program)(look:Nat->Option Obj'):TK->Sym->Option Sym->Option Sym->(Sym->Prop)->Prop
 |.slice e,.d (.sl l),lo,hi,k=>match bnd 0 lo,bnd l.length hi with
  |some o,some h=>(0<=o/\o<=h/\h<=l.length)/\(∀ r∈l,r.length=elemSize P e)/\k (.d (.sl ((l.take h.toNat).drop o.toNat)))
  |_,_=>False
 |.slice e,.ar id,lo,hi,k=>match look id with
  |some (.arr _ sz rows)=>match bnd 0 lo,bnd rows.length hi with
   |some o,some h=>(0<=o/\o<=h/\h<=rows.length)/\sz=elemSize P e/\k (if o=h then .d (.sl []) else .aS id sz o.toNat (h.toNat-o.toNat))
   |_,_=>False
  |_=>False
 |.slice e,.av id sz lo1 n,lo,hi,k=>match look id with
  |some (.arr _ sz' rows)=>match bnd 0 lo,bnd n hi with
   |some o,some h=>(0<=o/\o<=h/\lo1+h<=rows.length)/\sz=elemSize P e/\k (if lo1+o.toNat<rows.length then .av id sz (lo1+o.toNat) (h.toNat-o.toNat) else .d (.sl []))
   |_,_=>False
  |_=>False
 |.str,.d (.str s),lo,hi,k=>match bnd 0 lo,bnd s.size hi with
  |some o,some h=>(0<=o/\o<=h/\h<=s.size)/\k (.d (.str (s.extract o.toNat h.toNat)))
  |_,_=>False
 |_,_,_,_,_=>False
def ziv(P:Program)(look:Nat->Option Obj'):TK->Sym->Sym->Sym->Sym->(Sym->Prop)->Prop
 |.slice e,.ar id,.d (.int _ a),.d (.int _ b),.d (.int _ c),k=>match look id with
  |some (.arr _ _ rows)=>(0<=a/\a<=b/\b<=c/\c<=rows.length)/\(TI.of P e).isSome=true/\k .junk
  |_=>False
 |_,_,_,_,_,_=>False
def snil:Sym->(Sym->Prop)->Prop
 |.d (.ptr l),k=>k (.d (.ptr l))
 |.bp id off,k=>k (.bp id off)
 |.ap id s i off,k=>k (.ap id s i off)
 |.fn f l,k=>k (.fn f l)
 |.d (.fn f l),k=>k (.d (.fn f l))
 |_,_=>False
def zvf(P:Program)(f:Nat)(args:List D)(r:D):Prop:=
 callable P f=true/\∀ (w:World) (E:Nat->Prop) (vs:List Value),Seen w E->za9 w E args vs ->
  Calls P f vs.toArray w λe w'=>∃ v,e = .returned v/\Below w.heap.size w w'/\R w' (λb=>E b\/b<w.heap.size) r v
def yog(P:Program)(f:Nat)(ds:List D)(lent:Bool)(r:D):Prop:=lent=true->r.scalar=true\/zvf P f ds r
def zqu(P:Program)(f:Nat)(a:Option (List D×Bool))(k:Sym->Prop):Prop:=
 match a with
 |some (ds,lent)=>∃ r,zan P f ds r/\yog P f ds lent r/\k (.d r)
 |none=>False
def zbm:Sym->Option (Nat×List Sym)
 |.fn f caps=>some (f,caps)
 |.d (.fn f ds)=>some (f,ds.map .d)
 |_=>none
def zn0(P:Program)(look:Nat->Option Obj')(callee:Sym)(args:List Sym)(k:Sym->Prop):Prop:=
 match zbm callee with
 |some (f,caps)=>zqu P f (zjm look (args++caps)) k
 |none=>False
def z5o:Sym->Sym->Sym->(Sym->Prop)->Prop
 |.d (.bool c),a,b,k=>k (if c=true then a else b)
 |_,_,_,_=>False
def zfit(P:Program)(t:Nat):Bool:=
 match TI.of P t,P.info? t with
 |some ti,some i=>match i.zero with
  |some (.agg _)=>ti.agg
  |some _=>!ti.agg
  |none=>false
 |_,_=>false
def z1c:D->D->Option Bool
 |.int ka a,.int kb b=>if ka=kb then some (decide (a=b)) else none
 |.str a,.str b=>some (decide (a=b))
 |_,_=>none
def zro(x:D):List (List D)->Option (Option D)
 | []=>some none
 | [k,v]::r=>match z1c x k with
  |some true=>some (some v)
  |some false=>zro x r
  |none=>none
 |_=>none
def putD(x v:D):List (List D)->Option (List (List D))
 | []=>some [[x,v]]
 | [k,u]::r=>match z1c x k with
  |some true=>some ([x,v]::r)
  |some false=>match putD x v r with
   |some r'=>some ([k,u]::r')
   |none=>none
  |none=>none
 |_=>none
def zj8(look:Nat->Option Obj'):Sym->Option (List (List D))
 |.mp id=>match look id with
  |some (.map _ rows)=>some rows
  |_=>none
 |.d (.mp rows)=>some rows
 |_=>none
def zeroS(ti:TI)(k:Sym->Prop):Prop:=
 if ti.agg=true then ti.zero.all (·.oneCell')=true/\k (zj6 (ti.zero.map ofConst)) else match ti.zero with
  | [v]=>k (ofConst v)
  |_=>False
def zes:TK->D->Bool
 |.int k,.int k' _=>decide (k=k')
 |.str,.str _=>true
 |_,_=>false
def zgq(look:Nat->Option Obj')(kk:TK)(te:TI)(commaOk:Bool)(m x:Sym)(k:Sym->Prop):Prop:=
 match zj8 look m,x with
 |some rows,.d x=>zes kk x=true/\match zro x rows with
  |some (some v)=>k (if commaOk=true then .d (.tup [v,.bool true]) else .d v)
  |some none=>zeroS te λz=>k (if commaOk=true then .tup [z,.d (.bool false)] else z)
  |none=>False
 |_,_=>False
def zdh(P:Program)(sub:List Field->Option (List TK)):Nat->List Field->Option (List TK)
 |_,[]=>some []
 | n, f :: r => if f.name != "_" && f.offset == n then (match P.underlying f.type, P.info? f.type with
  |some (.int k),some _=>(zdh P sub (n+1) r).map (.int k :: ·)
  |some .bool,some _=>(zdh P sub (n+1) r).map (.bool :: ·)
  |some .string,some _=>(zdh P sub (n+1) r).map (.str :: ·)
  |some (.struct fs),some i=>if P.stoodInHeld f.type==false then (match sub fs.toList with
   |some ks=>if i.size==ks.length then (zdh P sub (n+ks.length) r).map (ks ++ ·) else none
   |none=>none) else none
  |_,_=>none) else none
def zyq(P:Program):Nat->List Field->Option (List TK)
 |0=>zdh P (λ_=>none) 0
 |e+1=>zdh P (zyq P e) 0
def eqKinds(P:Program)(t:Nat):Option (List TK):=
 match P.underlying t with
 |some (.struct fs)=>if P.stoodInHeld t==false&&P.eqGuardType P.depth t==false then zyq P 2 fs.toList else none
 |_=>none
def zb3:List TK->List D->List D->Option Bool
 | [],_,_=>some true
 |.int k::ks,.int k1 a::xs,.int k2 b::ys=>if k1=k/\k2=k then (zb3 ks xs ys).map (decide (a=b) && ·) else none
 |.bool::ks,.bool a::xs,.bool b::ys=>(zb3 ks xs ys).map (decide (a=b) && ·)
 |.str::ks,.str a::xs,.str b::ys=>(zb3 ks xs ys).map (decide (a=b) && ·)
 |_,_,_=>none
def zqv(P:Program)(op:BinOp)(t:Nat):Sym->Sym->(Sym->Prop)->Prop
 |.d (.agg a),.d (.agg b),k=>match eqKinds P t with
  |some ks=>match zb3 ks a b with
   |some r=>match op with
    |.eql=>k (.d (.bool r))
    |.neq=>k (.d (.bool (!r)))
    |_=>False
   |none=>False
  |none=>False
 |_,_,_=>False
def sop(P:Program)(look:Nat->Option Obj')(ρ:Operand->Sym)(op:Op)(k:Sym->Prop):Prop:=
 match op with
 |.move x=>k (ρ x)
 |.assign x=>k (ρ x)
 |.pick c a b=>z5o (ρ c) (ρ a) (ρ b) k
 |.load t x=>match TI.of P t with
  |some ti=>zmn look ti (ρ x) k
  |none=>False
 |.fieldAddr t x f=>match TI.of P t with
  |some ti=>zeg ti.kind (ρ x) f k
  |none=>False
 |.field t x f=>match TI.of P t with
  |some ti=>zqr ti.kind (ρ x) f k
  |none=>False
 |.indexAddr t x i=>match TI.of P t with
  |some ⟨.slice e,_,_,_,_⟩=>match TI.of P e with
   |some te=>zcs look te.size (ρ x) (ρ i) k
   |none=>False
  |_=>False
 |.index t x i=>match TI.of P t with
  |some ⟨.str,_,_,_,_⟩=>zqs (ρ x) (ρ i) k
  |_=>False
 |.slice t x lo hi none=>match TI.of P t with
  |some ti=>ztr P ti.kind=true/\zh4 P look ti.kind (ρ x) (lo.map ρ) (hi.map ρ) k
  |none=>False
 |.slice t x (some lo) (some hi) (some mx)=>match TI.of P t with
  |some ti=>ziv P look ti.kind (ρ x) (ρ lo) (ρ hi) (ρ mx) k
  |none=>False
 |.binOp op t x y _=>match TI.of P t with
  |some ti=>(zmo ti.kind (ρ x)=true/\sbin op (ρ x) (ρ y) k)\/zqv P op t (ρ x) (ρ y) k
  |none=>False
 |.unOp op _ x=>sun op (ρ x) k
 |.convert s t x=>match TI.of P s,TI.of P t with
  |some _,some ti=>zf5 ti.kind (ρ x) k
  |_,_=>False
 |.extract t i=>zf6 (ρ t) i k
 |.lookup t m x c=>match TI.of P t with
  |some ⟨.map kt et,_,_,_,_⟩=>match TI.of P kt,TI.of P et with
   |some tk,some te=>zfit P et=true/\zgq look tk.kind te c (ρ m) (ρ x) k
   |_,_=>False
  |_=>False
 |.nilCheck x=>snil (ρ x) k
 |.call {callee:=.builtin .len,args:=a,argTypes:=ts}=>match a.toList,ts.toList with
  | [x],[t]=>match TI.of P t with
   |some ti=>slen look ti.kind (ρ x) k
   |none=>False
  |_,_=>False
 |.call {callee:=.builtin .max,args:=a,argTypes:=_}=>ziu true (a.toList.map ρ) k
 |.call {callee:=.builtin .min,args:=a,argTypes:=_}=>ziu false (a.toList.map ρ) k
 |.call {callee:=.value f,args:=a,argTypes:=_}=>zn0 P look (ρ f) (a.toList.map ρ) k
 |_=>False
end Go.V
namespace Go.V
variable [Dr] [Ov]
open Go.RowKit
section
variable {P:Program} {X:Nat->Prop} {w0:Base} {st:St} {β:Nat->Value} {a:Act} {w:World}
theorem zk7(w:World)(E:Nat->Prop)(β:Nat->Value)(v:Value):Sm w E β (ofConst v) v:=by
 unfold ofConst
 split <;> simp[Sm,R]
theorem zpl(m:Nat)(v:Value):Sym.lo m (ofConst v):=by
 unfold ofConst
 split <;> simp[Sym.lo]
theorem Mods.may0(H:Mods X w0 st β a w){id:Nat}{o:Obj'}{b:Nat}(h:(id,o)∈st.own)(G:blk (β id)=some b):w0.may b:=by
 obtain⟨_,_,F⟩:=H.own id o h
 cases o with
 |box T cells=>
  obtain⟨b',vs,hβ,E,_⟩:=F;rw[hβ] at G;simp[blk] at G;subst G;exact E
 |arr T sz rows=>
  obtain⟨xs,K,_⟩:=F;exact(K.2 b G).1
 |map T rows=>
  obtain⟨r,es,clock,hβ,E,_⟩:=F;rw[hβ] at G;simp[blk] at G;subst G;exact E
 |raw k cells=>
  obtain⟨b',fn,D,vs,hβ,E,_⟩:=F;rw[hβ,RK.zj5] at G;cases G;exact E
theorem Mods.ypf(G:Mods X w0 st β a w):Over w0.w (λb=>X b\/w0.foot b) w (Ex X β st.own):=by
 intro b F E
 have H:¬w0.may b:=λh=>h.elim (λh=>absurd F (by omega)) (λh=>E (.inr h))
 refine⟨λh=>?_,G.below.block b H⟩
 rcases h with h | ⟨id,o,K,h2⟩
 .exact E (.inl h)
 .exact H (G.may0 K h2)
theorem Mods.glob(H:Mods X w0 st β a w):Glob w (Ex X β st.own):=H.outer.2.over H.ypf
theorem Mods.ypg(H:Mods X w0 st β a w):Glob w X:=H.glob.over (Over.less λ_ h=>.inl h)
theorem za0{α:Type}:∀ {l:List (Nat×α)} {t:Nat} {v:α},zac l t=some v->(t,v)∈l
 | [],_,_,h=>by simp[zac] at h
 |(k,u)::r,t,v,h=>by
  simp only[zac] at h;split at h
  .rename_i e;simp at h;subst e;subst h;exact List.mem_cons_self
  .exact List.mem_cons_of_mem _ (za0 h)
theorem Mods.val(H:Mods X w0 st β a w)(x:Operand):Sym.lo st.next (st.val x)/\Sm w (Ex X β st.own) β (st.val x) (a.eval x):=by
 cases x with
 |tmp t=>
  simp only[St.val,Act.eval];cases h:zac st.slots t with
  |none=>simp[Sym.lo,Sm]
  |some s=>simpa using H.slots t s h
 |const v=>exact⟨zpl _ v,zk7 _ _ _ v⟩
 |global g=>
  simp only[St.val,Act.eval];cases h:zac GT g with
  |none=>simp[Sym.lo,Sm]
  |some l=>exact⟨by simp[Sym.lo],by simpa[Sm] using H.glob g l (za0 h)⟩
 |func f=>exact⟨by simp[St.val,Sym.lo,Sym.los],by simp[St.val,Sm,Sms,Act.eval]⟩
theorem zay{t:Nat}{ti:TI}(h:TI.of P t=some ti):∃ i u z,P.info? t=some i/\P.underlying t=some u/\i.zero=some z /\
  ti.kind=zc2 P u/\ti.size=i.size/\ti.bytes=i.bytes/\ti.agg=zph u/\ti.zero=z.cells.toList:=by
 unfold TI.of at h
 cases hi:P.info? t with
 |none=>simp[hi] at h
 |some i=>
  cases H:P.underlying t with
  |none=>simp[hi,H] at h
  |some u=>
   cases G:i.zero with
   |none=>simp[hi,H,G] at h
   |some z=>
    simp[hi,H,G] at h;exact⟨i,u,z,rfl,rfl,G,by rw[<-h],by rw[<-h],by rw[<-h],by rw[<-h],by rw[<-h]⟩
theorem zbb{u:TypeDesc}{e:Nat}(h:zc2 P u = .slice e):u = .slice e:=by
 cases u <;> simp[zc2] at h <;> first | (subst h;rfl) | (split at h <;> simp at h)
theorem z8y{u:TypeDesc}{k e:Nat}(h:zc2 P u = .map k e):u = .map k e:=by
 cases u <;> simp[zc2] at h <;> first | (obtain⟨rfl,rfl⟩:=h;rfl) | (split at h <;> simp at h)
theorem zfg{u:TypeDesc}(h:zc2 P u = .str):u = .string:=by
 cases u <;> simp[zc2] at h <;> first | rfl | (split at h <;> simp at h)
theorem kind_int{u:TypeDesc}{k:IntKind}(h:zc2 P u = .int k):u = .int k:=by
 cases u <;> simp[zc2] at h <;> first | (subst h;rfl) | (split at h <;> simp at h)
theorem zts{u:TypeDesc}{l:List (Nat×Nat×Bool)}(h:zc2 P u = .struct l):∃ fs,u = .struct fs/\fs.toList.mapM (zpi P)=some l:=by
 cases u <;> simp[zc2] at h
 rename_i fs
 split at h
 .rename_i l' H
  simp at h
  subst h;exact⟨fs,rfl,H⟩
 .simp at h
theorem yjq{A B:Type}{f:A->Option B}{l:List A}:∀ {m:List B},l.mapM f=some m->∀ (i:Nat) (y:B),m[i]?=some y->∃ x,l[i]?=some x/\f x=some y:=by
 induction l with
 |nil=>intro m h i y H;simp at h;subst h;simp at H
 |cons x xs ih=>
  intro m h i y H;simp only[List.mapM_cons] at h;cases G:f x with
  |none=>simp[G] at h
  |some z=>
   cases F:xs.mapM f with
   |none=>simp[G,F] at h
   |some m'=>
    simp[G,F] at h;subst h;cases i with
    |zero=>simp at H;subst H;exact⟨x,by simp,G⟩
    |succ i=>simpa using ih F i y (by simpa using H)
theorem zwm{u:TypeDesc}{l:List (Nat×Nat×Bool)}(h:zc2 P u = .struct l){f:Nat}{off sz:Nat}{agg:Bool}(F:l[f]?=some (off,sz,agg)):
  ∃ fs fd i v,u = .struct fs/\fs[f]?=some fd/\fd.offset=off/\P.info? fd.type=some i/\i.size=sz/\P.underlying fd.type=some v/\zph v=agg:=by
 obtain⟨fs,rfl,E⟩:=zts h
 obtain⟨fd,G,H⟩:=yjq E f _ F
 unfold zpi at H
 cases hi:P.info? fd.type with
 |none=>simp[hi] at H
 |some i=>
  cases K:P.underlying fd.type with
  |none=>simp[hi,K] at H
  |some v=>
   simp[hi,K] at H;exact⟨fs,fd,i,v,rfl,by simpa using G,H.1,hi,H.2.1,K,H.2.2⟩
theorem add_lit(b off n:Nat):(⟨b,off,none⟩:Addr).add n=⟨b,off+n,none⟩:=by
 unfold Addr.add;split
 .rename_i h;subst h;rfl
 .rfl
theorem zh5{t:Nat}{u:TypeDesc}(h:P.underlying t=some u)(w:World):(isAgg t).run P w = .ok (zph u) w:=by
 unfold isAgg
 simp only[Sem.run_bind,run_underlying h,Result.andThen_ok]
 cases u <;> rfl
theorem run_sizeOf{t:Nat}{i:TypeInfo}(h:P.info? t=some i)(w:World):(sizeOf t).run P w = .ok i.size w:=by
 simp[sizeOf,typeInfo,h]
theorem zhj{t:Nat}{ti:TI}(G:TI.of P t=some ti)(H:ti.agg=false){b off:Nat}{v:Value}(h:w.cell? ⟨b,off,none⟩=some v):
  (Instr.loadAt t (.pointer (some ⟨b,off,none⟩))).run P w = .ok v w:=by
 obtain⟨i,u,z,hi,F,E,_,_,_,K,_⟩:=zay G
 rw[H] at K
 simp[Instr.loadAt,Instr.sureAddr,loadVar,zh5 F,<-K,h]
theorem zhk{t:Nat}{ti:TI}(G:TI.of P t=some ti)(H:ti.agg=true){b off:Nat}{vs:List Value}(F:vs.length=ti.size)
  (h:∀ j v,vs[j]?=some v->w.cell? ⟨b,off+j,none⟩=some v) :
  (Instr.loadAt t (.pointer (some ⟨b,off,none⟩))).run P w = .ok (.agg vs.toArray) w:=by
 obtain⟨i,u,z,hi,E,K,_,h2,_,J,_⟩:=zay G
 rw[H] at J
 have L:=run_loadCells_list (P:=P) (w:=w) ⟨b,off,none⟩ vs (λj v M=>by rw[add_lit];exact h j v M)
 rw[F,h2] at L
 simp[Instr.loadAt,Instr.sureAddr,loadVar,zh5 E,<-J,run_sizeOf hi,L]
section
variable {E:Nat->Prop}
theorem Sms.length:∀ {l:List Sym} {vs:List Value},Sms w E β l vs->vs.length=l.length
 | [],vs,h=>by simp only[Sms] at h;simp[h]
 |s::r,vs,h=>by simp only[Sms] at h;obtain⟨v,vs',rfl,_,h⟩:=h;simp[Sms.length h]
theorem Sms.drop:∀ {l:List Sym} {vs:List Value} (n:Nat),Sms w E β l vs->Sms w E β (l.drop n) (vs.drop n)
 | [],vs,n,h=>by simp only[Sms] at h;subst h;simp[Sms]
 |s::r,vs,0,h=>by simpa using h
 |s::r,vs,n+1,h=>by simp only[Sms] at h;obtain⟨v,vs',rfl,_,h⟩:=h;simpa using Sms.drop n h
theorem Sms.take:∀ {l:List Sym} {vs:List Value} (n:Nat),Sms w E β l vs->Sms w E β (l.take n) (vs.take n)
 | [],vs,n,h=>by simp only[Sms] at h;subst h;simp[Sms]
 |s::r,vs,0,h=>by simp[Sms]
 |s::r,vs,n+1,h=>by simp only[Sms] at h;obtain⟨v,vs',rfl,H,h⟩:=h;simp only[List.take_succ_cons,Sms];exact⟨v,_,rfl,H,Sms.take n h⟩
theorem Sms.get:∀ {l:List Sym} {vs:List Value} {j:Nat} {s:Sym},Sms w E β l vs->l[j]?=some s->∃ v,vs[j]?=some v/\Sm w E β s v
 | [],vs,j,s,h,H=>by simp at H
 |x::r,vs,0,s,h,H=>by simp only[Sms] at h;obtain⟨v,vs',rfl,G,h⟩:=h;simp at H;subst H;exact⟨v,by simp,G⟩
 |x::r,vs,j+1,s,h,H=>by simp only[Sms] at h;obtain⟨v,vs',rfl,G,h⟩:=h;simpa using Sms.get h (by simpa using H)
theorem Sms.append:∀ {l m:List Sym} {vs us:List Value},Sms w E β l vs->Sms w E β m us->Sms w E β (l++m) (vs++us)
 | [],m,vs,us,h,H=>by simp only[Sms] at h;subst h;simpa using H
 |s::r,m,vs,us,h,H=>by simp only[Sms] at h;obtain⟨v,vs',rfl,G,h⟩:=h;simp only[List.cons_append,Sms];exact⟨v,_,rfl,G,Sms.append h H⟩
theorem Sms.zd1:∀ {l:List D} {vs:List Value},za9 w E l vs->Sms w E β (l.map Sym.d) vs
 | [],vs,h=>by simpa[za9,Sms] using h
 |d::r,vs,h=>by simp only[za9] at h;obtain⟨v,vs',rfl,H,h⟩:=h;simp only[List.map_cons,Sms];exact⟨v,_,rfl,by simpa[Sm] using H,Sms.zd1 h⟩
theorem Sym.zn1{m:Nat}:∀ {l:List Sym} (n:Nat),Sym.los m l->Sym.los m (l.drop n)
 | [],n,h=>by simpa using h
 |s::r,0,h=>by simpa using h
 |s::r,n+1,h=>by simp only[Sym.los] at h;simpa using Sym.zn1 n h.2
theorem Sym.zr4{m:Nat}:∀ {l:List Sym} (n:Nat),Sym.los m l->Sym.los m (l.take n)
 | [],n,h=>by simpa using h
 |s::r,0,h=>by simp[Sym.los]
 |s::r,n+1,h=>by simp only[Sym.los] at h;simp only[List.take_succ_cons,Sym.los];exact⟨h.1,Sym.zr4 n h.2⟩
theorem Sym.zpm{m:Nat}:∀ {l r:List Sym},Sym.los m l->Sym.los m r->Sym.los m (l++r)
 | [],r,_,h=>by simpa using h
 |s::l,r,h,H=>by simp only[Sym.los,List.cons_append] at h ⊢;exact⟨h.1,Sym.zpm h.2 H⟩
theorem Sym.z5p{m:Nat}:∀ {l:List Sym} {s:Sym},Sym.los m l->s∈l->Sym.lo m s
 | [],s,_,h=>by cases h
 |x::l,s,h,H=>by
  simp only[Sym.los] at h;rcases List.mem_cons.1 H with e | e
  .subst e;exact h.1
  .exact Sym.z5p h.2 e
theorem Sym.zwn(m:Nat):∀ (l:List D),Sym.los m (l.map Sym.d)
 | []=>by simp[Sym.los]
 |_::r=>by simp only[List.map_cons,Sym.los];exact⟨by simp[Sym.lo],Sym.zwn m r⟩
theorem zn2{s:Sym}{d:D}{v:Value}(h:unD s=some d)(hs:Sm w E β s v):R w E d v:=by
 cases s <;> simp[unD] at h
 .subst h;simpa[Sm] using hs
 .subst h;simp only[Sm] at hs;subst hs;simp only[R];exact⟨none,0,rfl,by simp,Nat.zero_le _,λ_=>rfl,λh=>absurd rfl h⟩
theorem zk8:∀ {l:List Sym} {ds:List D} {vs:List Value},allD l=some ds->Sms w E β l vs->(∀ v∈vs,v.oneCell'=true)->zah w E ds vs
 | [],ds,vs,h,hs,_=>by simp[allD] at h;subst h;simpa[Sms,zah] using hs
 |s::r,ds,vs,h,hs,H=>by
  simp only[Sms] at hs;obtain⟨v,vs',rfl,G,hs⟩:=hs;simp only[allD] at h;cases F:unD s with
  |none=>simp[F] at h
  |some x=>
   cases K:allD r with
   |none=>simp[F,K] at h
   |some xs=>
    simp[F,K] at h;subst h;simp only[zah];exact⟨v,vs',rfl,H v (by simp),zn2 F G,zk8 K hs (λu F=>H u (by simp[F]))⟩
theorem zgr{l:List Sym}{vs:List Value}(hs:Sms w E β l vs)(H:∀ v∈vs,v.oneCell'=true):Sm w E β (zj6 l) (.agg vs.toArray):=by
 unfold zj6
 split
 .rename_i ds h
  simp only[Sm,R];exact⟨vs,rfl,zk8 h hs H⟩
 .simp only[Sm];exact⟨vs,rfl,hs,H⟩
theorem zn3{l:List Sym}{m:Nat}(h:Sym.los m l):Sym.lo m (zj6 l):=by
 unfold zj6
 split <;> simp[Sym.lo,h]
end
def YV(P:Program)(w:World)(E:Nat->Prop)(β:Nat->Value)(m:Nat)(c:Sem Value)(k:Sym->Prop):Prop:=
 ∃ s v,k s/\Sym.lo m s/\Sm w E β s v/\c.run P w = .ok v w
section
variable {E:Nat->Prop} {m:Nat} {k:Sym->Prop}
theorem ztt{t:Nat}{ti:TI}(F:TI.of P t=some ti){l:List D}{b off:Nat}(K:Rrow w E b l off)(h:headD ti l k):
  YV P w E β m (Instr.loadAt t (.pointer (some ⟨b,off,none⟩))) k:=by
 unfold headD at h
 split at h
 .rename_i H
  obtain⟨vs,G,J⟩:=(Rrow.take ti.size K).cells;refine⟨_,_,h.2,by simp[Sym.lo],?_,zhk F H (vs:=vs) ?_ J⟩
  .simp only[Sm,R];exact⟨vs,rfl,G⟩
  .rw[G.length];simp;omega
 .rename_i H
  cases l with
  |nil=>simp at h
  |cons x xs=>
   simp only[Rrow] at K;obtain⟨⟨v,J,_,L⟩,_⟩:=K;exact⟨_,v,h,by simp[Sym.lo],by simpa[Sm] using L,zhj F (by simpa using H) J⟩
theorem ztu{t:Nat}{ti:TI}(G:TI.of P t=some ti){l:List Sym}{b off:Nat}{vs:List Value}(hs:Sms w E β l vs)(F:∀ v∈vs,v.oneCell'=true)
  (K:∀ j v,vs[j]?=some v->w.cell? ⟨b,off+j,none⟩=some v) (J:Sym.los m l) (h:zve ti l k) :
  YV P w E β m (Instr.loadAt t (.pointer (some ⟨b,off,none⟩))) k:=by
 unfold zve at h
 split at h
 .rename_i H
  refine⟨_,_,h.2,zn3 (Sym.zr4 _ J),zgr (Sms.take ti.size hs) (λv L=>F v (List.mem_of_mem_take L)),zhk G H (vs:=vs.take ti.size) ?_ ?_⟩
  .have:=hs.length;simp;omega
  .intro j v hj
   rw[List.getElem?_take] at hj;split at hj
   .exact K j v hj
   .cases hj
 .rename_i H
  cases l with
  |nil=>simp at h
  |cons x xs=>
   simp only[Sms] at hs;obtain⟨v,vs',rfl,L,hs⟩:=hs;simp only[Sym.los] at J;exact⟨_,v,h,J.1,L,zhj G (by simpa using H) (by simpa using K 0 v (by simp))⟩
end
end
end Go.V
namespace Go.V
variable [Dr] [Ov]
open Go.RowKit
section
variable {P:Program} {X:Nat->Prop} {w0:Base} {st:St} {β:Nat->Value} {a:Act} {w:World} {k:Sym->Prop}
theorem Mods.obj(H:Mods X w0 st β a w){id:Nat}{o:Obj'}(h:st.look id=some o):id<st.next/\o.lo st.next/\zdi w w0.may (Ex X β st.own) β id o:=
 H.own id o (za0 h)
theorem zn4{b:Nat}{vs:List Value}{T:Nat}(h:w.heap[b]?=some (.cells vs.toArray T (0,0))){j:Nat}{v:Value}(H:vs[j]?=some v):w.cell? ⟨b,j,none⟩=some v:=by
 simp[World.cell?,h,H]
theorem zn5{base T sz n:Nat}{v:Value}{xs:List Value}(h:w.ownsRow base T sz v n xs){b:Nat}{len c:Nat}(H:v = .slice (some ⟨b,0,none⟩) len c){j:Nat}{u:Value}(G:xs[j]?=some u):w.cell? ⟨b,j,none⟩=some u:=by
 have:=h.cells (g:=b) (by rw[H];rfl) j u G
 rwa [add_lit,Nat.zero_add] at this
theorem z5q(L:Mods X w0 st β a w){t:Nat}{ti:TI}(M:TI.of P t=some ti){s:Sym}{v:Value}(hs:Sm w (Ex X β st.own) β s v)(h:zmn st.look ti s k):
  YV P w (Ex X β st.own) β st.next (Instr.loadAt t v) k:=by
 unfold zmn at h
 split at h
 .rename_i l
  simp only[Sm,R] at hs;obtain⟨b,off,rfl,_,_,O⟩:=hs;exact ztt M O h
 .rename_i id off
  split at h
  .rename_i T cells Q
   obtain⟨_,E,b,vs,V,_,Y,K,Z⟩:=L.obj Q;simp only[Sm] at hs;obtain⟨b',G,rfl⟩:=hs;rw[V] at G;cases G;refine ztu M (Sms.drop off K) (λu A=>Z u (List.mem_of_mem_drop A)) ?_ (Sym.zn1 off E) h
   intro j u B;exact zn4 Y (by simpa[List.getElem?_drop] using B)
  .exact h.elim
 .rename_i id sz i off
  split at h
  .rename_i T sz' rows Q
   obtain⟨_,_,xs,C,I,J⟩:=L.obj Q;simp only[Sm] at hs;obtain⟨b,n,c,V,rfl⟩:=hs;obtain⟨rfl,hi,h⟩:=h;have H:Rrow w (Ex X β st.own) b rows.flatten 0:=Rrow.of_cells I λj u B=>by
    rw[Nat.zero_add];exact zn5 C.1 V B
   have F:=(zcl.get (zcl.of_flat J H) (i:=i) (r:=rows.getD i []) (by simp[List.getD_eq_getElem?_getD,hi])).2
   rw[Nat.zero_add] at F;exact ztt M (Rrow.drop off F) h
  .exact h.elim
 .exact h.elim
theorem zrp{t:Nat}{ti:TI}(M:TI.of P t=some ti){E:Nat->Prop}{m:Nat}{s:Sym}{v:Value}(O:Sym.lo m s)(hs:Sm w E β s v){f:Nat}(h:zeg ti.kind s f k):
  YV P w E β m (Instr.fieldAt t v f) k:=by
 obtain⟨i,u,z,hi,Q,T,V,_⟩:=zay M
 unfold zeg at h
 split at h
 .rename_i fs H
  have place:∀ {off sz:Nat} {ag:Bool} {b o:Nat},fs[f]?=some (off,sz,ag)->sz≠0->(Instr.fieldAt t (.pointer (some ⟨b,o,none⟩)) f).run P w = .ok (.pointer (some ⟨b,o+off,none⟩)) w:=by
   intro off sz ag b o X G;obtain⟨fs',fd,j,u',rfl,F,rfl,Y,K,_⟩:=zwm (V.symm.trans H) X;have J:¬j.size=0:=by rw[K];exact G
   simp[Instr.fieldAt,run_underlying Q,F,Instr.sureAddr,fieldPlace,run_sizeOf Y,J,add_lit]
  split at h
  .rename_i off sz ag l X
   simp only[Sm,R] at hs;obtain⟨b,o,rfl,Z,L,A⟩:=hs;exact⟨_,_,h.2,by simp[Sym.lo],by simp only[Sm,R];exact⟨b,o+off,rfl,Z,L,Rrow.drop off A⟩,place X h.1⟩
  .rename_i off sz ag id o X
   simp only[Sm] at hs;obtain⟨b,B,rfl⟩:=hs;exact⟨_,_,h.2,by simpa[Sym.lo] using O,by simp only[Sm];exact⟨b,B,rfl⟩,place X h.1⟩
  .rename_i off sz ag id s' i' o X
   simp only[Sm] at hs;obtain⟨b,n,c,B,rfl⟩:=hs;exact⟨_,_,h.2,by simpa[Sym.lo] using O,by simp only[Sm];exact⟨b,n,c,B,by rw[Nat.add_assoc]⟩,place X h.1⟩
  .exact h.elim
 .exact h.elim
theorem z1d{t:Nat}{ti:TI}(J:TI.of P t=some ti){E:Nat->Prop}{m:Nat}{s:Sym}{v:Value}(L:Sym.lo m s)(hs:Sm w E β s v){f:Nat}(h:zqr ti.kind s f k):
  YV P w E β m (Instr.field t v f) k:=by
 obtain⟨i,u,z,hi,M,O,Q,_⟩:=zay J
 unfold zqr at h
 split at h
 .rename_i fs F
  have place:∀ {off sz:Nat} {ag:Bool} {cs:Array Value},fs[f]?=some (off,sz,ag) ->
    (ag=true->(Instr.field t (.agg cs) f).run P w = .ok (.agg (cs.extract off (off+sz))) w) /\
    (ag=false->∀ x,cs[off]?=some x->(Instr.field t (.agg cs) f).run P w = .ok x w):=by
   intro off sz ag cs T;obtain⟨fs',fd,j,u',rfl,G,rfl,V,K,X,H⟩:=zwm (Q.symm.trans F) T;constructor
   .intro e;rw[e] at H
    simp[Instr.field,run_underlying M,G,asAgg,part,zh5 X,H,run_sizeOf V,K]
   .intro e x Y;rw[e] at H
    simp[Instr.field,run_underlying M,G,asAgg,part,zh5 X,H,Y]
  split at h
  .rename_i off sz ag l T
   simp only[Sm,R] at hs;obtain⟨vs,rfl,Z⟩:=hs;split at h
   .rename_i H
    refine⟨_,_,h.2,by simp[Sym.lo],?_,(place T).1 H⟩
    simp only[Sm,R];refine⟨(vs.drop off).take sz,by simp,zah.extract off sz Z⟩
   .rename_i H
    cases A:l.drop off with
    |nil=>rw[A] at h;exact h.elim
    |cons x xs=>
     rw[A] at h;have Y:l[off]?=some x:=by rw[<-Nat.add_zero off,<-List.getElem?_drop,A];rfl
     obtain⟨v,X,_,B⟩:=zah.get Z Y;exact⟨_,v,h,by simp[Sym.lo],by simpa[Sm] using B,(place T).2 (by simpa using H) v (by simpa using X)⟩
  .rename_i off sz ag l T
   simp only[Sm] at hs;obtain⟨vs,rfl,Z,C⟩:=hs;simp only[Sym.lo] at L;split at h
   .rename_i H
    refine⟨_,_,h.2,zn3 (Sym.zr4 _ (Sym.zn1 _ L)),zgr (Sms.take sz (Sms.drop off Z)) (λu M=>C u (List.mem_of_mem_drop (List.mem_of_mem_take M))),?_⟩
    have:=(place (cs:=vs.toArray) T).1 H
    simpa using this
   .rename_i H
    cases A:l.drop off with
    |nil=>rw[A] at h;exact h.elim
    |cons x xs=>
     rw[A] at h;have Y:l[off]?=some x:=by rw[<-Nat.add_zero off,<-List.getElem?_drop,A];rfl
     obtain⟨v,X,B⟩:=Sms.get Z Y;exact⟨_,v,h,Sym.z5p L (List.mem_of_getElem? Y),B,(place T).2 (by simpa using H) v (by simpa using X)⟩
  .exact h.elim
 .exact h.elim
end
end Go.V
namespace Go.V
variable [Dr] [Ov]
open Go.RowKit
section
variable {P:Program} {X:Nat->Prop} {w0:Base} {st:St} {β:Nat->Value} {a:Act} {w:World} {k:Sym->Prop}
variable {E:Nat->Prop} {m:Nat}
theorem YV.int{c:Sem Value}{kd:IntKind}{n:Int}(h:k (.d (.int kd n)))(H:c.run P w = .ok (.int kd n) w):YV P w E β m c k:=
 ⟨_,_,h,by simp[Sym.lo],by simp only[Sm,R],H⟩
theorem YV.bool{c:Sem Value}{b:Bool}(h:k (.d (.bool b)))(H:c.run P w = .ok (.bool b) w):YV P w E β m c k:=
 ⟨_,_,h,by simp[Sym.lo],by simp only[Sm,R],H⟩
theorem YV.str{c:Sem Value}{b:ByteArray}(h:k (.d (.str b)))(H:c.run P w = .ok (.string b) w):YV P w E β m c k:=
 ⟨_,_,h,by simp[Sym.lo],by simp only[Sm,R],H⟩
theorem yfu(op:BinOp)(t:Nat)(x y:Operand)(ka kb:IntKind)(p q:Int):(eqGuard op t x y (.int ka p) (.int kb q)).run P w = .ok () w:=by
 cases op <;> rfl
theorem yfv(op:BinOp)(t:Nat)(x y:Operand)(p q:ByteArray):(eqGuard op t x y (.string p) (.string q)).run P w = .ok () w:=by
 cases op <;> rfl
theorem ybv(op:BinOp)(t:Nat)(x y:Operand)(p q:Bool):(eqGuard op t x y (.bool p) (.bool q)).run P w = .ok () w:=by
 cases op <;> rfl
theorem ziw(op:BinOp)(t:Nat)(x y:Operand)(a b:Option Addr)(n c n' c':Nat):(eqGuard op t x y (.slice a n c) (.slice b n' c')).run P w = .ok () w:=by
 cases op <;> rfl
theorem yfw{u:TypeDesc}(h:zc2 P u = .bool):u = .bool:=by
 cases u <;> simp[zc2] at h <;> first | rfl | (split at h <;> simp at h)
theorem zqw{kd:TK}(h:zj7 kd=true):∃ e,kd = .slice e:=by
 cases kd <;> simp[zj7] at h
 exact⟨_,rfl⟩
theorem run_indexAt{t e:Nat}(H:P.underlying t=some (.slice e)){b off len cap:Nat}{kd:IntKind}{n:Int}(G:0<=n)(F:n<len){i:TypeInfo}(hi:P.info? e=some i):
  (Instr.indexAt t (.slice (some ⟨b,off,none⟩) len cap) (.int kd n)).run P w = .ok (.pointer (some ⟨b,off+n.toNat*i.size,none⟩)) w:=by
 simp[Instr.indexAt,asIntOf,run_underlying H,G,F,run_sizeOf hi,add_lit]
theorem zrq(M:Mods X w0 st β a w){t e:Nat}(O:P.underlying t=some (.slice e)){te:TI}(F:TI.of P e=some te){s s':Sym}{v v':Value}(Q:Sym.lo st.next s)
  (hs:Sm w (Ex X β st.own) β s v) (H:Sm w (Ex X β st.own) β s' v') (h:zcs st.look te.size s s' k) :
  YV P w (Ex X β st.own) β st.next (Instr.indexAt t v v') k:=by
 obtain⟨i,_,_,hi,_,_,_,E,_⟩:=zay F
 rw[E] at h
 unfold zcs at h
 split at h
 .rename_i l kd n
  obtain⟨⟨V,Y⟩,h2,h⟩:=h;simp only[Sm,R] at hs H;subst H;obtain⟨ad,cap,rfl,_,_,_,Z⟩:=hs;have K:l≠[]:=by intro e;subst e;simp at Y;omega
  obtain⟨b,off,rfl,A,J,Z⟩:=Z K;have B:n.toNat<l.length:=by omega
  have C:=zcl.get Z (i:=n.toNat) (r:=l.getD n.toNat []) (by simp[List.getD_eq_getElem?_getD,B])
  have G:i.size=rowLen l:=by rw[<-h2,C.1]
  refine⟨_,_,h,by simp[Sym.lo],?_,run_indexAt O V Y hi⟩
  simp only[Sm,R];refine⟨b,_,rfl,A,J,?_⟩
  rw[G];exact C.2
 .rename_i id kd n
  split at h
  .rename_i T sz rows I
   obtain⟨⟨V,Y⟩,rfl,h⟩:=h;obtain⟨hid,_,xs,N,S,L⟩:=M.obj I;simp only[Sm] at hs H;simp only[R] at H;subst H;rcases N.1.2 with⟨_,B⟩ | ⟨g,cap,cur,C,W,hh,_⟩
   .omega
   .rw[C] at hs;subst hs
    exact⟨_,_,h,by simpa[Sym.lo] using hid,by simp only[Sm];exact⟨g,_,_,C,rfl⟩,by simpa using run_indexAt (off:=0) O V Y hi⟩
  .exact h.elim
 .exact h.elim
theorem z1e{t:Nat}(G:P.underlying t=some .string){s s':Sym}{v v':Value}(hs:Sm w E β s v)(H:Sm w E β s' v')(h:zqs s s' k):
  YV P w E β m (Instr.index t v v') k:=by
 unfold zqs at h
 split at h
 .rename_i b kd n
  obtain⟨⟨F,K⟩,h⟩:=h;simp only[Sm,R] at hs H;subst hs;subst H;refine YV.int h ?_
  have J:n.toNat<b.size:=by omega
  have L:b[n.toNat]?=some b[n.toNat]:=by simp[J]
  have M:byteAt b n=(b[n.toNat].toNat:Int):=by
   unfold byteAt;have:b.data.toList.getD n.toNat 0=b[n.toNat]:=by
    rw[List.getD_eq_getElem?_getD];have h2:n.toNat<b.data.toList.length:=by simpa using J
    rw[List.getElem?_eq_getElem h2];rfl
   rw[this]
  rw[M];simp[Instr.index,asIntOf,run_underlying G,F,L]
 .exact h.elim
theorem zgs{kd:IntKind}{n:Int}(h:arith kd n k):∃ s,k s/\s = .d (.int kd (kd.wrap n)):=by
 unfold arith at h
 split at h
 .split at h
  .exact⟨_,h,rfl⟩
  .refine⟨_,h.2,?_⟩
   have:IntKind.i64.wrap n=n:=IntWalk.i64_in n (by unfold I64 at h;omega)
   rw[this]
 .exact⟨_,h,rfl⟩
theorem ybw{op:BinOp}{t:Nat}{s s':Sym}{v v':Value}{x y:Operand}(hs:Sm w E β s v)(H:Sm w E β s' v')
  {ti:TI} (K:TI.of P t=some ti) (G:zmo ti.kind s=true) (h:sbin op s s' k) :
  YV P w E β m (do eqGuard op t x y v v';binOp op t v v') k:=by
 obtain⟨i,u,z,hi,J,L,F,_⟩:=zay K
 unfold sbin at h
 split at h
 .rename_i ka p kb q
  simp only[Sm,R] at hs H;subst hs;subst H;have g:=λop=>yfu (P:=P) (w:=w) op t x y ka kb p q
  split at h
  .refine YV.int h.2 ?_
   have:¬q<0:=by omega
   simp[g,binOp,Op.shift,this,zlx]
  .refine YV.int h.2 ?_
   have:¬q<0:=by omega
   simp[g,binOp,Op.shift,this,zlx]
  .rename_i op' M h2
   obtain⟨rfl,h⟩:=h;unfold zpj at h;split at h
   .obtain⟨s,O,rfl⟩:=zgs h
    exact YV.int O (by simp[g,binOp,Op.intArith])
   .obtain⟨s,O,rfl⟩:=zgs h
    exact YV.int O (by simp[g,binOp,Op.intArith])
   .obtain⟨s,O,rfl⟩:=zgs h
    exact YV.int O (by simp[g,binOp,Op.intArith])
   .obtain⟨s,O,rfl⟩:=zgs h.2
    exact YV.int O (by simp[g,binOp,Op.intDiv,h.1])
   .exact YV.int h.2 (by simp[g,binOp,Op.intDiv,h.1])
   .exact YV.int h (by simp[g,binOp,Op.intBits,zjn])
   .exact YV.int h (by simp[g,binOp,Op.intBits,zjn])
   .exact YV.int h (by simp[g,binOp,Op.intBits,zjn])
   .exact YV.int h (by simp[g,binOp,Op.intBits,zjn])
   .exact YV.bool h (by simp[g,binOp,Op.intCmp];rfl)
   .exact YV.bool h (by simp[g,binOp,Op.intCmp];rfl)
   .exact YV.bool h (by simp[g,binOp,Op.intCmp])
   .exact YV.bool h (by simp[g,binOp,Op.intCmp])
   .exact YV.bool h (by simp[g,binOp,Op.intCmp])
   .exact YV.bool h (by simp[g,binOp,Op.intCmp])
   .exact h.elim
 .rename_i p q
  simp only[Sm,R] at hs H;subst hs;subst H;have g:=λop=>yfv (P:=P) (w:=w) op t x y p q
  unfold zpk at h;split at h
  .refine YV.str h.2 ?_
   have:¬((p.size+q.size:Nat):Int)>IntKind.i64.max:=by
    have:=h.1
    simp[IntKind.max,IntKind.signed,IntKind.bits];omega
   simp[g,binOp,Op.stringOp];omega
  all_goals first | exact h.elim | exact YV.bool h (by simp[g,binOp,Op.stringOp])
 .rename_i p q
  simp only[Sm,R] at hs H;subst hs;subst H;have g:=λop=>ybv (P:=P) (w:=w) op t x y p q
  have J:P.underlying t=some .bool:=by
   simp only[zmo] at G;split at G
   .rename_i O;rw[F] at O;rw[J,yfw O]
   .cases G
  unfold zk6 at h;split at h
  .exact YV.bool h (by simp[g,binOp,run_equal_bool w t p q J])
  .exact YV.bool h (by simp[g,binOp,run_equal_bool w t p q J])
  .exact h.elim
 .rename_i l
  obtain⟨e,Q⟩:∃ e,P.underlying t=some (.slice e):=by
   simp only[zmo] at G;obtain⟨e,O⟩:=zqw G;rw[F] at O;exact⟨e,by rw[J,zbb O]⟩
  simp only[Sm,R] at hs H;obtain⟨ad,cap,rfl,M,h2,T,V⟩:=hs;subst H;have X:ad.isNone=true->l=[]:=by
   intro Y;have:=T (by simpa using Y)
   exact List.eq_nil_of_length_eq_zero (by omega)
  split at h
  .exact YV.bool (h ad.isNone X) (by simp[ziw,binOp,run_equal_slice_nil w t e ad _ cap Q])
  .exact YV.bool (h ad.isNone X) (by simp[ziw,binOp,run_equal_slice_nil w t e ad _ cap Q])
  .exact h.elim
 .obtain⟨e,Q⟩:∃ e,P.underlying t=some (.slice e):=by
   simp only[zmo] at G;obtain⟨e,O⟩:=zqw G;rw[F] at O;exact⟨e,by rw[J,zbb O]⟩
  simp only[Sm] at hs H;subst hs;subst H;split at h
  .exact YV.bool h (by simp[ziw,binOp,run_equal_slice_nil w t e none _ _ Q])
  .exact YV.bool h (by simp[ziw,binOp,run_equal_slice_nil w t e none _ _ Q])
  .exact h.elim
 .exact h.elim
theorem yfx{op:UnOp}{s:Sym}{v:Value}(hs:Sm w E β s v)(h:sun op s k):YV P w E β m (Op.unary op v) k:=by
 unfold sun at h
 split at h
 .simp only[Sm,R] at hs;subst hs
  split at h
  .exact YV.bool h (by simp[Op.unary])
  .exact h.elim
 .simp only[Sm,R] at hs;subst hs
  split at h
  .obtain⟨s,H,rfl⟩:=zgs h
   exact YV.int H (by simp[Op.unary,Op.intArith])
  .exact h.elim
 .exact h.elim
theorem zvg{src dst:Nat}{ti ti':TI}(F:TI.of P src=some ti')(M:TI.of P dst=some ti){s:Sym}{v:Value}(hs:Sm w E β s v)(h:zf5 ti.kind s k):
  YV P w E β m (convert src dst v) k:=by
 obtain⟨i,u,z,hi,O,Q,H,_⟩:=zay M
 obtain⟨i',u',z',J,G,L,K,_⟩:=zay F
 unfold zf5 at h
 split at h
 .rename_i kd e kd' n T
  rw[H] at T;have:=kind_int T;subst this
  simp only[Sm,R] at hs;subst hs;refine YV.int h ?_
  simp[convert,run_underlying O,run_underlying G,Conv.intToInt]
 .rename_i e b T
  rw[H] at T;have:=zfg T;subst this
  simp only[Sm,R] at hs;subst hs;refine YV.str h ?_
  simp[convert,run_underlying O,run_underlying G]
 .exact h.elim
theorem zvh{s:Sym}{v:Value}{i:Nat}(H:Sym.lo m s)(hs:Sm w E β s v)(h:zf6 s i k):YV P w E β m (Instr.extract v i) k:=by
 unfold zf6 at h
 split at h
 .simp only[Sm,R] at hs
  obtain⟨vs,rfl,G⟩:=hs;split at h
  .rename_i x F
   obtain⟨v,K,G⟩:=za9.get G F;exact⟨_,v,h,by simp[Sym.lo],by simpa[Sm] using G,by simp[Instr.extract,K]⟩
  .exact h.elim
 .simp only[Sm] at hs
  simp only[Sym.lo] at H;obtain⟨vs,rfl,G⟩:=hs;split at h
  .rename_i x F
   obtain⟨v,K,G⟩:=Sms.get G F;exact⟨_,v,h,Sym.z5p H (List.mem_of_getElem? F),G,by simp[Instr.extract,K]⟩
  .exact h.elim
 .exact h.elim
theorem ybx(G:Mods X w0 st β a w){t ty:Nat}{ti:TI}(F:TI.of P t=some ti){s:Sym}{v:Value}(hs:Sm w (Ex X β st.own) β s v)(h:slen st.look ti.kind s k):
  YV P w (Ex X β st.own) β st.next (Builtin.len_ #[t] ty #[v]) k:=by
 obtain⟨i,u,z,hi,E,K,H,_⟩:=zay F
 unfold slen at h
 split at h
 .rename_i e l J
  rw[H] at J;have:=zbb J;subst this;simp only[Sm,R] at hs;obtain⟨ad,cap,rfl,_⟩:=hs;exact YV.int h (by simp[Builtin.len_,run_underlying E,goInt])
 .rename_i b J
  rw[H] at J;have:=zfg J;subst this;simp only[Sm,R] at hs;subst hs;exact YV.int h (by simp[Builtin.len_,run_underlying E,goInt])
 .rename_i e J
  rw[H] at J;have:=zbb J;subst this;simp only[Sm] at hs;subst hs;exact YV.int h (by simp[Builtin.len_,run_underlying E,goInt])
 .rename_i e id J
  rw[H] at J;have:=zbb J;subst this;split at h
  .rename_i T sz rows L
   obtain⟨_,_,xs,M,_,_⟩:=G.obj L;simp only[Sm] at hs;subst hs;rcases M.1.2 with⟨O,Q⟩ | ⟨g,cap,cur,V,_⟩
   .rw[O];rw[Q] at h;exact YV.int h (by simp[Builtin.len_,run_underlying E,goInt])
   .rw[V];exact YV.int h (by simp[Builtin.len_,run_underlying E,goInt])
  .exact h.elim
 .rename_i e _ _ _ n J
  rw[H] at J;have:=zbb J;subst this;simp only[Sm] at hs;obtain⟨b,m,c,k',_,rfl,_⟩:=hs;exact YV.int h (by simp[Builtin.len_,run_underlying E,goInt])
 .rename_i e _ _ _ n J
  rw[H] at J;have:=zbb J;subst this;simp only[Sm] at hs;obtain⟨b,c,_,rfl,_⟩:=hs;exact YV.int h (by simp[Builtin.len_,run_underlying E,goInt])
 .exact h.elim
theorem yby{s:Sym}{v:Value}{o:Oper}{x:Operand}{ρ:Operand->Value}(G:o.op = .nilCheck x)(F:ρ x=v)(K:Sym.lo m s)(hs:Sm w E β s v)(h:snil s k):
  ∃ s v,k s/\Sym.lo m s/\Sm w E β s v/\(execOp ρ o).run P w = .ok (.value v) w:=by
 unfold snil at h
 split at h
 .have H:=hs
  simp only[Sm,R] at hs;obtain⟨b,off,rfl,_⟩:=hs;exact⟨_,_,h,K,H,by simp[execOp,G,F]⟩
 .have H:=hs
  simp only[Sm] at hs;obtain⟨b,_,rfl⟩:=hs;exact⟨_,_,h,K,H,by simp[execOp,G,F]⟩
 .have H:=hs
  simp only[Sm] at hs;obtain⟨b,n,c,_,rfl⟩:=hs;exact⟨_,_,h,K,H,by simp[execOp,G,F]⟩
 .have H:=hs
  simp only[Sm] at hs;obtain⟨vs,rfl,_⟩:=hs;exact⟨_,_,h,K,H,by simp[execOp,G,F]⟩
 .have H:=hs
  simp only[Sm,R] at hs;obtain⟨vs,rfl,_⟩:=hs;exact⟨_,_,h,K,H,by simp[execOp,G,F]⟩
 .exact h.elim
theorem zj9{d n:Int}{s:Option Sym}{v:Option Value}(H:s.isSome=v.isSome)(hs:∀ x y,s=some x->v=some y->Sm w E β x y)(h:bnd d s=some n):
  (s=none/\v=none/\n=d)\/∃ kd,v=some (.int kd n):=by
 unfold bnd at h
 split at h
 .left;simp at h H;exact⟨rfl,by simpa using H,h.symm⟩
 .right
  simp at h;subst h
  cases v with
  |none=>simp at H
  |some y=>have:=hs _ y rfl rfl;simp only[Sm,R] at this;exact⟨_,by rw[this]⟩
 .cases h
theorem z5r{isS:Bool}{len cap:Nat}{lo hi:Int}{vlo vhi:Option Value}(F:0<=lo)(E:lo<=hi)(h2:hi<=cap)
  (H:(vlo=none/\lo=0)\/∃ kd,vlo=some (.int kd lo)) (G:(vhi=none/\hi=len)\/∃ kd,vhi=some (.int kd hi)) :
  (Instr.sliceBounds isS len cap vlo vhi none).run P w = .ok (lo.toNat,hi.toNat,cap) w:=by
 have e1:(lo.toNat:Int)=lo:=by omega
 have e2:(hi.toNat:Int)=hi:=by omega
 have l1:lo<=(hi.toNat:Int):=by omega
 have l3:0<=hi:=by omega
 rcases G with⟨rfl,rfl⟩ | ⟨kd,rfl⟩ <;> rcases H with⟨rfl,rfl⟩ | ⟨kd',rfl⟩ <;>
  simp[Instr.sliceBounds,Instr.sliceBound,asIntOf,F,h2,l3]
 .exact λh=>absurd E (by omega)
 .omega
theorem zpn{isS:Bool}{len cap:Nat}{lo hi:Int}{vlo vhi:Option Value}(F:0<=lo)(E:lo<=hi)(h2:hi<=len)(K:len<=cap)
  (H:(vlo=none/\lo=0)\/∃ kd,vlo=some (.int kd lo)) (G:(vhi=none/\hi=len)\/∃ kd,vhi=some (.int kd hi)) :
  (Instr.sliceBounds isS len cap vlo vhi none).run P w = .ok (lo.toNat,hi.toNat,cap) w:=by
 have e1:(lo.toNat:Int)=lo:=by omega
 have e2:(hi.toNat:Int)=hi:=by omega
 have l1:lo<=(hi.toNat:Int):=by omega
 have l2:hi<=(cap:Int):=by omega
 have l3:0<=hi:=by omega
 rcases G with⟨rfl,rfl⟩ | ⟨kd,rfl⟩ <;> rcases H with⟨rfl,rfl⟩ | ⟨kd',rfl⟩ <;>
  simp[Instr.sliceBounds,Instr.sliceBound,asIntOf,F,l2,l3]
 .exact λh=>absurd E (by omega)
 .omega
theorem zyr(B:Mods X w0 st β a w){t:Nat}{ti:TI}(C:TI.of P t=some ti){s sa sb sc:Sym}{v va vb vc:Value}
  (hs:Sm w E β s v) (I:Sm w E β sa va) (N:Sm w E β sb vb) (S:Sm w E β sc vc) (h:ziv P st.look ti.kind s sa sb sc k) :
  YV P w E β m (Instr.sliceAt t v (some va) (some vb) (some vc)) k:=by
 obtain⟨i,u,z,Y,W,hz,J,_⟩:=zay C
 unfold ziv at h
 split at h
 case h_2=>exact h.elim
 rename_i e id ka a' kb b' kc c' hk
 split at h
 case h_2=>exact h.elim
 rename_i T sz rows L
 obtain⟨⟨h0,h1,h2,h3⟩,G,h⟩:=h
 obtain⟨te,G⟩:=Option.isSome_iff_exists.1 G
 obtain⟨ie,_,_,F,_,_,_,M,_⟩:=zay G
 rw[J] at hk;have:=zbb hk;subst this
 simp only[Sm,R] at hs I N S
 subst hs;subst I;subst N;subst S
 obtain⟨hid,_,xs,hx,_,_⟩:=B.obj L
 have K:∀ cap:Nat,rows.length<=cap->(Instr.sliceBounds true rows.length cap (some (.int ka a')) (some (.int kb b')) (some (.int kc c'))).run P w = .ok (a'.toNat,b'.toNat,c'.toNat) w:=by
  intro cap O;have e2:(b'.toNat:Int)=b':=by omega
  have e3:(c'.toNat:Int)=c':=by omega
  have l1:c'<=(cap:Int):=by omega
  have l2:0<=b':=by omega
  have l3:0<=c':=by omega
  simp[Instr.sliceBounds,Instr.sliceBound,asIntOf,h0,h1,h2,l1,l2,l3,e2,e3]
 rcases hx.1.2 with⟨hn,Q⟩ | ⟨g,cap,cur,hg,Z,A,H,V,_⟩
 .have N:=K 0 (by omega)
  rw[Q] at N;rw[hn];exact⟨_,_,h,by simp[Sym.lo],by simp[Sm],by simp[Instr.sliceAt,Instr.slice,run_underlying W,N,run_sizeOf F];rfl⟩
 .have N:=K cap H
  rw[hg];exact⟨_,_,h,by simp[Sym.lo],by simp[Sm],by simp[Instr.sliceAt,Instr.slice,run_underlying W,N,run_sizeOf F];rfl⟩
theorem z1f(hm:Mods X w0 st β a w)(hE:E=Ex X β st.own){t:Nat}{ti:TI}(ht:TI.of P t=some ti)(he:ztr P ti.kind=true){s:Sym}{lo hi:Option Sym}{v:Value}{vlo vhi:Option Value}
  (hs:Sm w E β s v) (M:lo.isSome=vlo.isSome) (A:hi.isSome=vhi.isSome)
  (hl:Sym.lo m s) (F:∀ x y,lo=some x->vlo=some y->Sm w E β x y) (K:∀ x y,hi=some x->vhi=some y->Sm w E β x y) (h:zh4 P st.look ti.kind s lo hi k) :
  YV P w E β m (Instr.sliceAt t v vlo vhi none) k:=by
 obtain⟨i,u,z,H5,hu,hz,B,_⟩:=zay ht
 unfold zh4 at h
 split at h
 .rename_i e l hk
  rw[hk] at he;obtain⟨te,J⟩:=Option.isSome_iff_exists.1 (show(TI.of P e).isSome=true from he)
  obtain⟨ie,_,_,L,_,_,_,H,_⟩:=zay J;have O:elemSize P e=ie.size:=by simp[elemSize,J,H]
  rw[B] at hk;have:=zbb hk;subst this;simp only[Sm,R] at hs;obtain⟨ad,cap,rfl,h1,h2,h3,h4⟩:=hs;split at h
  .rename_i o hh e1 e2
   obtain⟨⟨b0,b1,b2⟩,N,h⟩:=h;have hb:=zpn (P:=P) (w:=w) (isS:=true) (len:=l.length) (cap:=cap) b0 b1 b2 h1
    (by rcases zj9 M F e1 with⟨_,x,y⟩ | x;exact .inl ⟨x,y⟩;exact .inr x)
    (by rcases zj9 A K e2 with⟨_,x,y⟩ | x;exact .inl ⟨x,y⟩;exact .inr x)
   have Q:((l.take hh.toNat).drop o.toNat).length=hh.toNat-o.toNat:=by simp;omega
   refine⟨_,.slice (if cap=o.toNat then ad else ad.map (·.add (o.toNat*ie.size))) (hh.toNat-o.toNat) (cap-o.toNat),h,by simp[Sym.lo],?_,?_⟩
   .simp only[Sm,R]
    refine⟨_,cap-o.toNat,by rw[Q],by rw[Q];omega,by omega,?_,?_⟩
    .intro hn
     split at hn
     .omega
     .simp at hn;have:=h3 hn;omega
    .intro C
     have V:l≠[]:=by intro e;subst e;simp at C
     obtain⟨b,off,rfl,hE,W,hr⟩:=h4 V;have M:o.toNat<hh.toNat:=by
      have:((l.take hh.toNat).drop o.toNat).length≠0:=λe=>C (List.eq_nil_of_length_eq_zero e)
      omega
     have rl:∀ {q:List (List D)},q≠[]->(∀ r∈q,r.length=elemSize P e)->rowLen q=ie.size:=by
      intro q hq hr;cases q with
      |nil=>exact absurd rfl hq
      |cons r rs=>rw[<-O];exact hr r (by simp)
     have Y:=rl V N;refine⟨b,off+o.toNat*ie.size,?_,hE,W,?_⟩
     .rw[if_neg (by omega)];simp[add_lit]
     .rw[rl C (λr H0=>N r (List.mem_of_mem_take (List.mem_of_mem_drop H0)))]
      rw[Y] at hr;exact zcl.drop o.toNat (zcl.take hh.toNat hr)
   .simp[Instr.sliceAt,Instr.slice,run_underlying hu,hb,run_sizeOf L]
  .exact h.elim
 .rename_i e id hk
  rw[hk] at he;obtain⟨te,J⟩:=Option.isSome_iff_exists.1 (show(TI.of P e).isSome=true from he)
  obtain⟨ie,_,_,L,_,_,_,H,_⟩:=zay J;have O:elemSize P e=ie.size:=by simp[elemSize,J,H]
  rw[B] at hk;have:=zbb hk;subst this;simp only[Sm] at hs;subst hs;split at h
  .rename_i T sz rows I
   obtain⟨hid,_,xs,hx,_,_⟩:=hm.obj I;split at h
   .rename_i o hh e1 e2
    obtain⟨⟨b0,b1,b2⟩,Y,h⟩:=h;have S:=λ(cap:Nat) (hc:rows.length<=cap)=>zpn (P:=P) (w:=w) (isS:=true) (len:=rows.length) (cap:=cap) b0 b1 b2 hc
     (by rcases zj9 M F e1 with⟨_,x,y⟩ | x;exact .inl ⟨x,y⟩;exact .inr x)
     (by rcases zj9 A K e2 with⟨_,x,y⟩ | x;exact .inl ⟨x,y⟩;exact .inr x)
    rcases hx.1.2 with⟨hn,h0⟩ | ⟨g,cap,cur,hg,H6,H7,Z,H1,_⟩
    .have H2:o=0/\hh=0:=by omega
     obtain⟨rfl,rfl⟩:=H2;have hb:=S 0 (by omega)
     rw[h0] at hb;rw[if_pos rfl] at h;refine⟨_,.slice none 0 0,h,by simp[Sym.lo],by simp only[Sm,R];exact⟨none,0,rfl,by simp,by simp,λ_=>rfl,by simp⟩,?_⟩
     rw[hn];simp[Instr.sliceAt,Instr.slice,run_underlying hu,hb,run_sizeOf L]
    .have hb:=S cap Z
     have G:(Instr.sliceAt t (β id) vlo vhi none).run P w = .ok (.slice (if cap=o.toNat then some ⟨g,0,none⟩ else (some ⟨g,0,none⟩:Option Addr).map (·.add (o.toNat*ie.size))) (hh.toNat-o.toNat) (cap-o.toNat)) w:=by
      rw[hg];simp[Instr.sliceAt,Instr.slice,run_underlying hu,hb,run_sizeOf L]
     by_cases heq:o=hh
     .rw[if_pos heq] at h
      refine⟨_,_,h,by simp[Sym.lo],?_,G⟩
      simp only[Sm,R];refine⟨(if cap=o.toNat then some ⟨g,0,none⟩ else (some ⟨g,0,none⟩:Option Addr).map (·.add (o.toNat*ie.size))),cap-o.toNat,by rw[heq];simp,by simp,by omega,?_,by simp⟩
      intro hn;split at hn
      .omega
      .simp at hn
     .rw[if_neg heq] at h
      refine⟨_,_,h,by simpa[Sym.lo] using hl,?_,G⟩
      simp only[Sm];refine⟨g,rows.length,cap,cap-o.toNat,hg,?_,by omega,by omega⟩
      rw[if_neg (by omega),Y,O]
      simp[add_lit]
   .exact h.elim
  .exact h.elim
 .rename_i e id sz lo1 n hk
  rw[hk] at he;obtain⟨te,J⟩:=Option.isSome_iff_exists.1 (show(TI.of P e).isSome=true from he)
  obtain⟨ie,_,_,L,_,_,_,H,_⟩:=zay J;have O:elemSize P e=ie.size:=by simp[elemSize,J,H]
  rw[B] at hk;have:=zbb hk;subst this;simp only[Sm] at hs;obtain⟨b,c,hβ,rfl,H3,H4⟩:=hs;split at h
  .rename_i T sz' rows I
   obtain⟨hid,_,xs,hx,_,_⟩:=hm.obj I;have hc:rows.length=c:=by
    rcases hx.1.2 with⟨hn,h0⟩ | ⟨g,cap,cur,hg,_⟩
    .rw[hn] at hβ;cases hβ
    .rw[hg] at hβ;simp at hβ;exact hβ.2.1
   split at h
   .rename_i o hh e1 e2
    obtain⟨⟨b0,b1,b2⟩,Y,h⟩:=h;have hb:=z5r (P:=P) (w:=w) (isS:=true) (len:=n) (cap:=c-lo1) b0 b1 (by omega)
     (by rcases zj9 M F e1 with⟨_,x,y⟩ | x;exact .inl ⟨x,y⟩;exact .inr x)
     (by rcases zj9 A K e2 with⟨_,x,y⟩ | x;exact .inl ⟨x,y⟩;exact .inr x)
    have G:(Instr.sliceAt t (.slice (some ⟨b,lo1*sz,none⟩) n (c-lo1)) vlo vhi none).run P w = .ok (.slice (if c-lo1=o.toNat then some ⟨b,lo1*sz,none⟩ else (some ⟨b,lo1*sz,none⟩:Option Addr).map (·.add (o.toNat*ie.size))) (hh.toNat-o.toNat) (c-lo1-o.toNat)) w:=by
     simp[Instr.sliceAt,Instr.slice,run_underlying hu,hb,run_sizeOf L]
    by_cases heq:lo1+o.toNat<rows.length
    .rw[if_pos heq] at h
     refine⟨_,_,h,by simpa[Sym.lo] using hl,?_,G⟩
     simp only[Sm];refine⟨b,c,hβ,?_,by omega,H4⟩
     rw[if_neg (by omega)]
     simp only[Option.map_some,add_lit,Value.slice.injEq,Option.some.injEq,Addr.mk.injEq,and_true,true_and];refine⟨?_,by omega⟩
     rw[Nat.add_mul,<-O,<-Y]
    .rw[if_neg heq] at h
     have heq:o=hh:=by omega
     refine⟨_,_,h,by simp[Sym.lo],?_,G⟩
     simp only[Sm,R];refine⟨_,c-lo1-o.toNat,by rw[heq];simp;rfl,by simp,by omega,?_,by simp⟩
     intro hn;split at hn
     .omega
     .simp at hn
   .exact h.elim
  .exact h.elim
 .rename_i e b hk
  rw[B] at hk;have:=zfg hk;subst this;simp only[Sm,R] at hs;subst hs;split at h
  .rename_i o hh e1 e2
   obtain⟨⟨b0,b1,b2⟩,h⟩:=h;have hb:=zpn (P:=P) (w:=w) (isS:=false) (len:=b.size) (cap:=b.size) b0 b1 b2 (Nat.le_refl _)
    (by rcases zj9 M F e1 with⟨_,x,y⟩ | x;exact .inl ⟨x,y⟩;exact .inr x)
    (by rcases zj9 A K e2 with⟨_,x,y⟩ | x;exact .inl ⟨x,y⟩;exact .inr x)
   exact YV.str h (by simp[Instr.sliceAt,Instr.slice,run_underlying hu,hb])
  .exact h.elim
 .exact h.elim
theorem Mods.lt(G:Mods X w0 st β a w):∀ b,Ex X β st.own b->b<w.heap.size:=by
 intro b F
 rcases F with F | ⟨id,o,H,F⟩
 .exact Nat.lt_of_lt_of_le (Base.lt (G.outer.1 b F)) G.below.size
 .obtain⟨_,_,E⟩:=G.own id o H
  cases o with
  |box T cells=>
   obtain⟨b',vs,hβ,_,K,_⟩:=E;rw[hβ] at F;simp[blk] at F;subst F;exact(Array.getElem?_eq_some_iff.1 K).1
  |arr T sz rows=>
   obtain⟨xs,J,_⟩:=E;rcases J.1.2 with⟨L,_⟩ | ⟨g,cap,cur,M,_,K,_⟩
   .rw[L] at F;simp[blk] at F
   .rw[M] at F;simp[blk] at F;subst F
    exact(Array.getElem?_eq_some_iff.1 K).1
  |map T rows=>
   obtain⟨r,es,clock,hβ,_,K,_⟩:=E;rw[hβ] at F;simp[blk] at F;subst F;exact(Array.getElem?_eq_some_iff.1 K).1
  |raw k cells=>
   obtain⟨b',fn,D,vs,hβ,_,K,_⟩:=E;rw[hβ,RK.zj5] at F;cases F;exact RK.ype K
theorem Mods.seen(H:Mods X w0 st β a w):Seen w (Ex X β st.own):=⟨H.lt,H.glob⟩
theorem Mods.yjr(H:Mods X w0 st β a w):Seen w X:=⟨λb G=>Nat.lt_of_lt_of_le (Base.lt (H.outer.1 b G)) H.below.size,H.ypg⟩
theorem Mods.outer'(_hm:Mods X w0 st β a w):Over w (Ex X β st.own) w X:=Over.less (λ_ h=>.inl h)
theorem Mods.notX(H:Mods X w0 st β a w){b:Nat}(h:w0.may b):¬X b:=λG=>absurd h (H.outer.1 b G)
theorem z1g{N:Nat->Prop}{T sz:Nat}{rows:List (List D)}{v:Value}{xs:List Value}{E E':Nat->Prop}(L:Owns N w T sz v rows.length xs)(M:zah w E rows.flatten xs)(F:∀ r∈rows,r.length=sz)
  (O:∀ b,N b->¬E' b) (K:Over w E w E'):R w E' (.sl rows) v:=by
 simp only[R]
 rcases L.1.2 with⟨Q,V⟩ | ⟨g,cap,cur,X,_,Y,H,G,_⟩
 .refine⟨none,0,by rw[Q,V],by omega,Nat.zero_le _,λ_=>rfl,λh=>absurd (List.eq_nil_of_length_eq_zero V) h⟩
 .refine⟨_,cap,X,H,G,by simp,λhne=>⟨g,0,rfl,O g (L.2 g (by rw[X];rfl)).1,(Array.getElem?_eq_some_iff.1 Y).1,?_⟩⟩
  have J:rowLen rows=sz:=by
   cases rows with
   |nil=>exact absurd rfl hne
   |cons r rs=>exact F r (by simp)
  rw[J];refine zcl.of_flat F (Rrow.of_cells (zah.over K _ _ M) λj u hj=>?_)
  rw[Nat.zero_add];exact zn5 L.1 X hj
theorem ztv(G:Mods X w0 st β a w){s:Sym}{d:D}{v:Value}(h:zyp st.look s=some d)(hs:Sm w (Ex X β st.own) β s v):R w X d v:=by
 cases s <;> simp only[zyp] at h
 case d x=>simp at h;subst h;exact R.over G.outer' _ _ (by simpa[Sm] using hs)
 case nils=>simp at h;subst h;simp only[Sm] at hs;subst hs;simp only[R];exact⟨none,0,rfl,by simp,Nat.zero_le _,λ_=>rfl,λh=>absurd rfl h⟩
 case ar id=>
  split at h
  .rename_i T sz rows F
   simp at h;subst h
   obtain⟨_,_,xs,E,K,H⟩:=G.obj F;simp only[Sm] at hs;subst hs;exact z1g E K H (λb J=>G.notX J) G.outer'
  .cases h
 all_goals cases h
theorem zka(H:Mods X w0 st β a w):∀ {l:List Sym} {ds:List D} {vs:List Value},cellsD st.look l=some ds->Sms w (Ex X β st.own) β l vs->(∀ v∈vs,v.oneCell'=true)->zah w X ds vs
 | [],ds,vs,h,hs,_=>by simp[cellsD] at h;subst h;simpa[Sms,zah] using hs
 |s::r,ds,vs,h,hs,G=>by
  simp only[Sms] at hs;obtain⟨v,vs',rfl,F,hs⟩:=hs;simp only[cellsD] at h;cases E:zyp st.look s with
  |none=>simp[E] at h
  |some x=>
   cases K:cellsD st.look r with
   |none=>simp[E,K] at h
   |some xs=>
    simp[E,K] at h;subst h;simp only[zah];exact⟨v,vs',rfl,G v (by simp),ztv H E F,zka H K hs (λu E=>G u (by simp[E]))⟩
mutual
theorem zpo(O:Mods X w0 st β a w):∀ {s:Sym} {d:D} {b:Bool} {v:Value},lend st.look s=some (d,b)->Sm w (Ex X β st.own) β s v->R w X d v/\(b=false->R w (Ex X β st.own) d v)
 |.d x,d,b,v,h,hs=>by
  simp[lend] at h;obtain⟨rfl,rfl⟩:=h;simp only[Sm] at hs;exact⟨R.over O.outer' _ _ hs,λ_=>hs⟩
 |.nils,d,b,v,h,hs=>by
  simp[lend] at h;obtain⟨rfl,rfl⟩:=h;simp only[Sm] at hs;subst hs;have:∀ E,R w E (.sl []) (.slice none 0 0):=λE=>by simp only[R];exact⟨none,0,rfl,by simp,Nat.zero_le _,λ_=>rfl,λh=>absurd rfl h⟩
  exact⟨this _,λ_=>this _⟩
 |.bp id off,d,b,v,h,hs=>by
  simp only[lend] at h;split at h
  .rename_i T cells Q
   split at h
   .rename_i ds K
    simp at h;obtain⟨rfl,rfl⟩:=h
    refine⟨?_,by simp⟩
    obtain⟨_,M,b,vs,V,H,Y,J,Z⟩:=O.obj Q;simp only[Sm] at hs;obtain⟨b',F,rfl⟩:=hs;rw[V] at F;cases F;have A:=zka O K J Z;simp only[R];refine⟨b,off,rfl,O.notX H,(Array.getElem?_eq_some_iff.1 Y).1,?_⟩
    have:=Rrow.drop off (Rrow.of_cells (b:=b) (off:=0) A λj u B=>by rw[Nat.zero_add];exact zn4 Y B)
    simpa using this
   .cases h
  .cases h
 |.ar id,d,b,v,h,hs=>by
  simp only[lend] at h;split at h
  .rename_i T sz rows Q
   simp at h;obtain⟨rfl,rfl⟩:=h
   obtain⟨_,_,xs,C,A,L⟩:=O.obj Q;simp only[Sm] at hs;subst hs;exact⟨z1g C A L (λb V=>O.notX V) O.outer',by simp⟩
  .cases h
 |.agg l,d,b,v,h,hs=>by
  simp only[lend] at h;split at h
  .rename_i ds b' I
   simp at h;obtain⟨rfl,rfl⟩:=h
   simp only[Sm] at hs;obtain⟨vs,rfl,hs,Z⟩:=hs;have:=ze8 O I hs
   simp only[R];exact⟨⟨vs,rfl,za9.cells this.1 Z⟩,λe=>⟨vs,rfl,za9.cells (this.2 e) Z⟩⟩
  .cases h
 |.fn f l,d,b,v,h,hs=>by
  simp only[lend] at h;split at h
  .rename_i ds b' I
   simp at h;obtain⟨rfl,rfl⟩:=h
   simp only[Sm] at hs;obtain⟨vs,rfl,hs⟩:=hs;have:=ze8 O I hs
   simp only[R];exact⟨⟨vs,rfl,this.1⟩,λe=>⟨vs,rfl,this.2 e⟩⟩
  .cases h
 |.ap _ _ _ _,d,b,v,h,hs=>by simp[lend] at h
 |.aS _ _ _ _,d,b,v,h,hs=>by simp[lend] at h
 |.av _ _ _ _,d,b,v,h,hs=>by simp[lend] at h
 |.yd _,d,b,v,h,hs=>by simp[lend] at h
 |.mp id,d,b,v,h,hs=>by
  simp only[lend] at h;split at h
  .rename_i T rows Q
   simp at h;obtain⟨rfl,rfl⟩:=h
   obtain⟨_,_,r,es,clock,V,N,Y,G⟩:=O.obj Q;simp only[Sm] at hs;subst hs;simp only[R];exact⟨⟨r,es,clock,V,O.notX N,(Array.getElem?_eq_some_iff.1 Y).1,Y,zdb.over O.outer' _ _ G⟩,by simp⟩
  .cases h
 |.tup _,d,b,v,h,hs=>by simp[lend] at h
 |.junk,d,b,v,h,hs=>by simp[lend] at h
theorem ze8(H:Mods X w0 st β a w):∀ {l:List Sym} {ds:List D} {b:Bool} {vs:List Value},zjm st.look l=some (ds,b)->Sms w (Ex X β st.own) β l vs->za9 w X ds vs/\(b=false->za9 w (Ex X β st.own) ds vs)
 | [],ds,b,vs,h,hs=>by
  simp[zjm] at h;obtain⟨rfl,rfl⟩:=h;simp only[Sms] at hs;subst hs;simp[za9]
 |s::r,ds,b,vs,h,hs=>by
  simp only[Sms] at hs;obtain⟨v,vs',rfl,G,hs⟩:=hs;simp only[zjm] at h;split at h
  .rename_i d b1 ds' b2 F h2
   simp at h;obtain⟨rfl,rfl⟩:=h
   have e1:=zpo H F G;have e2:=ze8 H h2 hs;simp only[za9];refine⟨⟨v,vs',rfl,e1.1,e2.1⟩,λe=>?_⟩
   simp at e
   exact⟨v,vs',rfl,e1.2 e.1,e2.2 e.2⟩
  .cases h
end
mutual
theorem zmp:∀ {d:D} {w w':World} {E E':Nat->Prop} {v:Value},d.scalar=true->R w E d v->R w' E' d v
 |.int _ _,w,w',E,E',v,_,h=>by simpa[R] using h
 |.bool _,w,w',E,E',v,_,h=>by simpa[R] using h
 |.str _,w,w',E,E',v,_,h=>by simpa[R] using h
 |.tup l,w,w',E,E',v,H,h=>by
  simp only[D.scalar] at H;simp only[R] at h ⊢;obtain⟨vs,rfl,h⟩:=h;exact⟨vs,rfl,zfs H h⟩
 |.agg l,w,w',E,E',v,H,h=>by
  simp only[D.scalar] at H;simp only[R] at h ⊢;obtain⟨vs,rfl,h⟩:=h;exact⟨vs,rfl,za9.cells (zfs H h.vals) h.one⟩
 |.sl _,w,w',E,E',v,H,h=>by simp[D.scalar] at H
 |.ptr _,w,w',E,E',v,H,h=>by simp[D.scalar] at H
 |.fn _ _,w,w',E,E',v,H,h=>by simp[D.scalar] at H
 |.val _,w,w',E,E',v,H,h=>by simp[D.scalar] at H
 |.mp _,w,w',E,E',v,H,h=>by simp[D.scalar] at H
theorem zfs:∀ {l:List D} {w w':World} {E E':Nat->Prop} {vs:List Value},D.scalars l=true->za9 w E l vs->za9 w' E' l vs
 | [],w,w',E,E',v,_,h=>by simpa[za9] using h
 |d::r,w,w',E,E',vs,H,h=>by
  simp only[D.scalars,Bool.and_eq_true] at H;simp only[za9] at h ⊢;obtain⟨v,vs',rfl,G,h2⟩:=h;exact⟨v,vs',rfl,zmp H.1 G,zfs H.2 h2⟩
end
end
end Go.V
namespace Go.V
variable [Dr] [Ov]
open Go.RowKit
section
variable {P:Program} {X:Nat->Prop} {w0:Base} {st:St} {β:Nat->Value} {a:Act} {w:World} {k:Sym->Prop}
def Yields(P:Program)(X:Nat->Prop)(st:St)(β:Nat->Value)(a:Act)(w:World)(o:Oper)(k:Sym->Prop):Prop:=
 ∀ (K:Act->World->Prop) (Q:Exit->Act->World->Prop),
  (∀ s v w',k s->Sym.lo st.next s->Below w.heap.size w w'->Sm w' (Ex X β st.own) β s v->K (a.put o.dst v) w')->o.wp P a w K Q
theorem zk9(w:World)(E:Nat->Prop)(β:Nat->Value):∀ (l:List Value),Sms w E β (l.map ofConst) l
 | []=>by simp[Sms]
 |v::r=>by simp only[List.map_cons,Sms];exact⟨v,r,rfl,zk7 _ _ _ v,zk9 w E β r⟩
theorem zh6(m:Nat):∀ (l:List Value),Sym.los m (l.map ofConst)
 | []=>by simp[Sym.los]
 |v::r=>by simp only[List.map_cons,Sym.los];exact⟨zpl m v,zh6 m r⟩
theorem zwo{u:TypeDesc}{x:D}{v:Value}{w:World}{E:Nat->Prop}(h:zes (zc2 P u) x=true)(H:R w E x v):MapKept.IsKey u v:=by
 unfold zes at h
 split at h
 .rename_i k k' n G
  have:=kind_int G;subst this
  simp only[R] at H;subst H;simp at h;subst h
  simp[MapKept.IsKey]
 .rename_i s G
  have:=zfg G;subst this
  simp only[R] at H;subst H;simp[MapKept.IsKey]
 .cases h
theorem zh7{u:TypeDesc}{x y:D}{v v':Value}{w:World}{E:Nat->Prop}{b:Bool}(G:zes (zc2 P u) x=true)(F:R w E x v)(K:R w E y v')(h:z1c x y=some b):
  Instr.sameNow u v v'=some b/\zes (zc2 P u) y=true:=by
 unfold zes at G
 split at G
 .rename_i k k' n H
  have J:=kind_int H;subst J;cases y <;> simp[z1c] at h
  obtain⟨rfl,rfl⟩:=h;simp only[R] at F K;subst F;subst K;simp[Instr.sameNow,zes,zc2] at G ⊢;subst G;simp only[if_true];rename_i n2;by_cases e:n=n2 <;> simp[e]
 .rename_i s H
  have J:=zfg H;subst J;cases y <;> simp[z1c] at h
  subst h;simp only[R] at F K;subst F;subst K;simp only[Instr.sameNow,zes,zc2,and_true,Option.some.injEq];rename_i s2;by_cases e:s=s2
  .rw[decide_eq_true e];exact(MapKept.bytes_beq _ _).2 e
  .rw[decide_eq_false e]
   exact Bool.eq_false_iff.2 λh=>e ((MapKept.bytes_beq _ _).1 h)
 .cases G
theorem ztw{u:TypeDesc}{x:D}{v:Value}{w:World}{E:Nat->Prop}(K:zes (zc2 P u) x=true)(J:R w E x v):
  ∀ {rows:List (List D)} {es:List MapEntry} {i:Nat} {r:Option D},zdb w E rows es->zro x rows=some r ->
   match r with
   |none=>Instr.findNow u v es i=some none
   |some d=>∃ j t,Instr.findNow u v es i=some (some (j,t))/\R w E d t
 | [],es,i,r,L,h=>by
  simp only[zdb] at L;subst L;simp[zro] at h;subst h;rfl
 | []::_,es,i,r,L,h=>by simp[zro] at h
 | [_]::_,es,i,r,L,h=>by simp[zro] at h
 |(_::_::_::_)::_,es,i,r,L,h=>by simp[zro] at h
 | [k,y]::rs,es,i,r,L,h=>by
  simp only[zdb,za9] at L;obtain⟨e,es',rfl,⟨v1,l1,e1,H,v2,l2,rfl,G,rfl⟩,F⟩:=L;simp at e1
  obtain⟨rfl,rfl⟩:=e1;simp only[zro] at h;split at h
  .rename_i M
   simp at h;subst h
   have:=(zh7 K J H M).1
   exact⟨i,e.val,by simp[Instr.findNow,this],G⟩
  .rename_i M
   have:=(zh7 K J H M).1
   have ih:=ztw K J (i:=i+1) F h;cases r with
   |none=>simpa[Instr.findNow,this] using ih
   |some d=>simpa[Instr.findNow,this] using ih
  .cases h
theorem z1h{t:Nat}{ti:TI}{i:TypeInfo}{z:Value}(K:TI.of P t=some ti)(hi:P.info? t=some i)(J:i.zero=some z)(h:zfit P t=true):
  if ti.agg=true then z = .agg ti.zero.toArray else ∀ v,ti.zero=[v]->z=v:=by
 obtain⟨i',u,z',H,L,G,_,_,_,E,F⟩:=zay K
 rw[hi] at H;cases H
 rw[J] at G;cases G
 unfold zfit at h
 rw[K,hi] at h
 simp only[J] at h
 rw[F]
 cases z <;> simp only[] at h <;> simp_all[Value.cells]
theorem zys(hm:Mods X w0 st β a w){t kt et:Nat}(hu:P.underlying t=some (.map kt et)){tk te:TI}(hk:TI.of P kt=some tk)(he:TI.of P et=some te)(Z:zfit P et=true)
  {c:Bool} {m x:Operand} {k:Sym->Prop} (h:zgq st.look tk.kind te c (st.val m) (st.val x) k) :
  YV P w (Ex X β st.own) β st.next (Instr.lookup t (a.eval m) (a.eval x) c) k:=by
 unfold zgq at h
 split at h
 .rename_i rows y H hy
  obtain⟨F,h⟩:=h;obtain⟨ik,uk,zk,N,L,S,A,_⟩:=zay hk;obtain⟨ie,ue,ze,M,W,O,_⟩:=zay he;rw[A] at F;have K:=(hm.val x).2;rw[hy] at K;simp only[Sm] at K;obtain⟨r,es,clock,Q,hh,E⟩:∃ r es clock,a.eval m = .map (some r)/\w.heap[r]?=some (.map es clock)/\zdb w (Ex X β st.own) rows es.toList:=by
   have J:=(hm.val m).2;cases B:st.val m <;> rw[B] at H J <;> simp only[zj8] at H
   case d z=>
    cases z <;> simp at H
    subst H;simp only[Sm,R] at J;obtain⟨r,es,clock,h1,_,_,h4,h5⟩:=J;exact⟨r,es,clock,h1,h4,h5⟩
   case mp id=>
    split at H
    .rename_i T rows' C
     simp at H;subst H
     obtain⟨_,_,r,es,clock,h1,_,h4,h5⟩:=hm.obj C;simp only[Sm] at J;exact⟨r,es,clock,by rw[J,h1],h4,h5⟩
    .cases H
   all_goals cases H
  have I:=zwo F K;have V:=λe=>MapKept.run_checkKey (P:=P) (w:=w) L I e 9999
  split at h
  .rename_i d hd
   obtain⟨j,t',hf,hr⟩:=ztw (P:=P) F K (i:=0) E hd;have G:(Instr.lookup t (a.eval m) (a.eval x) c).run P w = .ok (if c then .tuple #[t',.bool true] else t') w:=by
    simp[Instr.lookup,run_underlying hu,Q,MapKept.run_getObj_map hh,V,MapKept.run_findKey L hf]
   cases c with
   |false=>exact⟨_,_,h,by simp[Sym.lo],by simpa[Sm] using hr,G⟩
   |true=>exact⟨_,_,h,by simp[Sym.lo],by simp only[Sm,R,if_true];exact⟨[t',.bool true],rfl,by simp only[za9];exact⟨_,_,rfl,hr,_,_,rfl,by simp[R],rfl⟩⟩,G⟩
  .rename_i hd
   have hf:=ztw (P:=P) F K (i:=0) E hd;simp only[] at hf;have G:(Instr.lookup t (a.eval m) (a.eval x) c).run P w = .ok (if c then .tuple #[ze,.bool false] else ze) w:=by
    simp[Instr.lookup,run_underlying hu,Q,MapKept.run_getObj_map hh,V,MapKept.run_findKey L hf,zeroValue,typeInfo,M,O]
   have hz:=z1h he M O Z;have key:∃ s,Sym.lo st.next s/\Sm w (Ex X β st.own) β s ze/\k (if c=true then .tup [s,.d (.bool false)] else s):=by
    unfold zeroS at h;split at h
    .rename_i hag
     rw[if_pos hag] at hz;refine⟨_,zn3 (zh6 _ te.zero),?_,h.2⟩
     rw[hz];exact zgr (zk9 _ _ _ te.zero) (λu hu=>by simpa using(List.all_eq_true.1 h.1) u hu)
    .rename_i hag
     rw[if_neg hag] at hz;split at h
     .rename_i v hv
      have:=hz v hv;subst this
      exact⟨_,zpl _ ze,zk7 _ _ _ ze,h⟩
     .exact h.elim
   obtain⟨s,hl,hs,Y⟩:=key;cases c with
   |false=>exact⟨_,_,Y,hl,hs,G⟩
   |true=>exact⟨_,_,Y,by simpa[Sym.lo,Sym.los] using hl,by simp only[Sm,if_true];exact⟨[ze,.bool false],rfl,by simp only[Sms];exact⟨_,_,rfl,hs,_,_,rfl,by simp[Sm,R],rfl⟩⟩,G⟩
  .exact h.elim
 .exact h.elim
theorem zfh:∀ {ks ks':List TK} {l m:List D} {r:Bool},zb3 (ks++ks') l m=some r->∃ r1 r2,zb3 ks (l.take ks.length) (m.take ks.length)=some r1/\zb3 ks' (l.drop ks.length) (m.drop ks.length)=some r2/\r=(r1&&r2) /\
  ks.length<=l.length/\ks.length<=m.length
 | [],ks',l,m,r,h=>⟨true,r,by simp[zb3],by simpa using h,by simp,by simp,by simp⟩
 |k0::ks,ks',l,m,r,h=>by
  rw[List.cons_append] at h;unfold zb3 at h;split at h
  .rename_i heq;cases heq
  .rename_i _ k1 a l' k2 b m' heq
   cases heq;split at h
   .rename_i H
    cases G:zb3 (ks++ks') l' m' with
    |none=>rw[G] at h;cases h
    |some r'=>
     rw[G] at h;simp at h;subst h;obtain⟨r1,r2,F,h2,rfl,E,K⟩:=zfh G;exact⟨decide (a=b)&&r1,r2,by simp only[List.length_cons,List.take_succ_cons,zb3,if_pos H,F];rfl,by simpa using h2,by cases decide (a=b) <;> simp,by simp only[List.length_cons];omega,by simp only[List.length_cons];omega⟩
   .cases h
  .rename_i _ a l' b m' heq
   cases heq;cases G:zb3 (ks++ks') l' m' with
   |none=>rw[G] at h;cases h
   |some r'=>
    rw[G] at h;simp at h;subst h;obtain⟨r1,r2,F,h2,rfl,E,K⟩:=zfh G;exact⟨decide (a=b)&&r1,r2,by simp only[List.length_cons,List.take_succ_cons,zb3,F];rfl,by simpa using h2,by cases decide (a=b) <;> simp,by simp only[List.length_cons];omega,by simp only[List.length_cons];omega⟩
  .rename_i _ a l' b m' heq
   cases heq;cases G:zb3 (ks++ks') l' m' with
   |none=>rw[G] at h;cases h
   |some r'=>
    rw[G] at h;simp at h;subst h;obtain⟨r1,r2,F,h2,rfl,E,K⟩:=zfh G;exact⟨decide (a=b)&&r1,r2,by simp only[List.length_cons,List.take_succ_cons,zb3,F];rfl,by simpa using h2,by cases decide (a=b) <;> simp,by simp only[List.length_cons];omega,by simp only[List.length_cons];omega⟩
  .cases h
theorem zla{w:World}{E:Nat->Prop}{d:Nat}{xs0 ys0:Array Value}{sub:List Field->Option (List TK)}
  (F:∀ {fs:List Field} {ks:List TK} {l m:List D} {xs ys:List Value} {r:Bool},sub fs=some ks->zah w E l xs->zah w E m ys->zb3 ks l m=some r->(Op.eqFields d xs.toArray ys.toArray fs).run P w = .ok r w) :
  ∀ {fs:List Field} {n:Nat} {ks:List TK} {l m:List D} {xs ys:List Value} {r:Bool},zdh P sub n fs=some ks ->
  zah w E l xs->zah w E m ys->(∀ (j:Nat) v,xs[j]?=some v->xs0[n+j]?=some v)->(∀ (j:Nat) v,ys[j]?=some v->ys0[n+j]?=some v)->zb3 ks l m=some r ->
  (Op.eqFields (d+1) xs0 ys0 fs).run P w = .ok r w
 | [],n,ks,l,m,xs,ys,r,N,S,W,h1,h2,h=>by
  simp[zdh] at N;subst N;simp[zb3] at h;subst h;simp[Op.eqFields]
 |f::fs,n,ks,l,m,xs,ys,r,N,S,W,h1,h2,h=>by
  simp only[zdh] at N;split at N
  .rename_i hc
   simp only[Bool.and_eq_true,bne_iff_ne,ne_eq,beq_iff_eq] at hc;obtain⟨G,K⟩:=hc;have key:∀ (v v':Value) (l' m':List D) (xs' ys':List Value) (ks':List TK) (b r':Bool),xs=v::xs'->ys=v'::ys'->zah w E l' xs'->zah w E m' ys'->zdh P sub (n+1) fs=some ks'->zb3 ks' l' m'=some r' ->
     (∀ cs:Array Value,∀ u,cs[n]?=some u->(part f.type cs n).run P w = .ok u w)->(Op.equalIn (d+1) f.type v v').run P w = .ok b w->(Op.eqFields (d+1) xs0 ys0 (f::fs)).run P w = .ok (b&&r') w:=by
    intro v v' l' m' xs' ys' ks' b r' ex ey hl hm hk hr H heq;have X:xs0[n]?=some v:=by have:=h1 0 v (by rw[ex];rfl);simpa using this
    have Y:ys0[n]?=some v':=by have:=h2 0 v' (by rw[ey];rfl);simpa using this
    have ih:=zla (d:=d) (n:=n+1) F hk hl hm (λj u hj=>by have:=h1 (j+1) u (by rw[ex];simpa using hj);rw[<-this];congr 1;omega) (λj u hj=>by have:=h2 (j+1) u (by rw[ey];simpa using hj);rw[<-this];congr 1;omega) hr
    simp only [Op.eqFields, if_pos (show f.name ≠ "_" from G), Sem.run_bind, K, H _ _ X, H _ _ Y, Result.andThen_ok, heq]
    cases b
    .simp
    .simp only[Bool.not_true,Bool.false_eq_true,if_false,Bool.true_and];exact ih
   have H:∀ {u:TypeDesc} {i:TypeInfo},P.underlying f.type=some u->P.info? f.type=some i->zph u=false->∀ cs:Array Value,∀ x,cs[n]?=some x->(part f.type cs n).run P w = .ok x w:=by
    intro u i hu hi J cs x S;simp[part,zh5 hu,J,S]
   split at N
   .rename_i k i hu hi
    cases hk:zdh P sub (n+1) fs with
    |none=>rw[hk] at N;cases N
    |some ks'=>
     rw[hk] at N;simp at N;subst N;unfold zb3 at h;split at h
     .rename_i heq;cases heq
     .rename_i _ k1 a l' k2 b m' heq
      cases heq;split at h
      .rename_i Z
       obtain⟨rfl,rfl⟩:=Z;cases hr:zb3 ks' l' m' with
       |none=>rw[hr] at h;cases h
       |some r'=>
        rw[hr] at h;simp at h;subst h;simp only[zah,R] at S W;obtain⟨_,xs',ex,_,rfl,hl⟩:=S;obtain⟨_,ys',ey,_,rfl,hm⟩:=W;exact key _ _ _ _ _ _ _ _ _ ex ey hl hm hk hr (H hu hi rfl) (by rw[run_equalIn_int w d f.type _ _ a b hu];congr 1)
      .cases h
     .rename_i heq;cases heq
     .rename_i heq;cases heq
     .cases h
   .rename_i i hu hi
    cases hk:zdh P sub (n+1) fs with
    |none=>rw[hk] at N;cases N
    |some ks'=>
     rw[hk] at N;simp at N;subst N;unfold zb3 at h;split at h
     .rename_i heq;cases heq
     .rename_i heq;cases heq
     .rename_i _ a l' b m' heq
      cases heq;cases hr:zb3 ks' l' m' with
      |none=>rw[hr] at h;cases h
      |some r'=>
       rw[hr] at h;simp at h;subst h;simp only[zah,R] at S W;obtain⟨_,xs',ex,_,rfl,hl⟩:=S;obtain⟨_,ys',ey,_,rfl,hm⟩:=W;exact key _ _ _ _ _ _ _ _ _ ex ey hl hm hk hr (H hu hi rfl) (by rw[run_equalIn_bool' w d f.type a b hu];cases a <;> cases b <;> rfl)
     .rename_i heq;cases heq
     .cases h
   .rename_i i hu hi
    cases hk:zdh P sub (n+1) fs with
    |none=>rw[hk] at N;cases N
    |some ks'=>
     rw[hk] at N;simp at N;subst N;unfold zb3 at h;split at h
     .rename_i heq;cases heq
     .rename_i heq;cases heq
     .rename_i heq;cases heq
     .rename_i _ a l' b m' heq
      cases heq;cases hr:zb3 ks' l' m' with
      |none=>rw[hr] at h;cases h
      |some r'=>
       rw[hr] at h;simp at h;subst h;simp only[zah,R] at S W;obtain⟨_,xs',ex,_,rfl,hl⟩:=S;obtain⟨_,ys',ey,_,rfl,hm⟩:=W;refine key _ _ _ _ _ _ _ _ _ ex ey hl hm hk hr (H hu hi rfl) ?_
       rw[run_equalIn_string w d f.type a b hu,<-beq_toListBytes];congr 1
       by_cases e:a=b
       .rw[decide_eq_true e];exact(MapKept.bytes_beq _ _).2 e
       .rw[decide_eq_false e];exact Bool.eq_false_iff.2 λh=>e ((MapKept.bytes_beq _ _).1 h)
     .cases h
   .rename_i gs i hu hi
    split at N
    .rename_i M
     simp only[beq_iff_eq] at M;split at N
     .rename_i ks1 L
      split at N
      .rename_i O
       simp only[beq_iff_eq] at O;cases hk:zdh P sub (n+ks1.length) fs with
       |none=>rw[hk] at N;cases N
       |some ks'=>
        rw[hk] at N;simp at N;subst N;obtain⟨r1,r2,e1,e2,rfl,C,I⟩:=zfh h;have lx:=S.length;have ly:=W.length;have Q:=F L (zah.extract 0 ks1.length S) (zah.extract 0 ks1.length W) (by simpa using e1)
        simp only[List.drop_zero] at Q;have T:=zah.extract ks1.length xs.length S;have V:=zah.extract ks1.length ys.length W;rw[List.take_of_length_le (by simp;omega),List.take_of_length_le (by simp)] at T V
        have ih:=zla (d:=d) (n:=n+ks1.length) F hk T V (λj u hj=>by rw[List.getElem?_drop] at hj;have:=h1 _ u hj;rw[<-this];congr 1;omega) (λj u hj=>by rw[List.getElem?_drop] at hj;have:=h2 _ u hj;rw[<-this];congr 1;omega) e2
        have hex:∀ (cs:Array Value) (zs:List Value),(∀ (j:Nat) v,zs[j]?=some v->cs[n+j]?=some v)->ks1.length<=zs.length->(part f.type cs n).run P w = .ok (.agg (zs.take ks1.length).toArray) w:=by
         intro cs zs hz hl;have J:(isAgg f.type).run P w = .ok true w:=by rw[zh5 hu];rfl
         have:cs.extract n (n+ks1.length)=(zs.take ks1.length).toArray:=by
          apply Array.ext'
          simp only[Array.toList_extract,List.extract_eq_take_drop];apply List.ext_getElem?
          intro j;rw[show n+ks1.length-n=ks1.length by omega,List.getElem?_take,List.getElem?_take]
          by_cases hj:j<ks1.length
          .simp only[hj,if_true,List.getElem?_drop]
           have:=hz j zs[j] (List.getElem?_eq_getElem (by omega))
           rw[List.getElem?_eq_getElem (by omega:j<zs.length),<-this,Array.getElem?_toList]
          .simp[hj]
         simp[part,Sem.run_bind,J,sizeOf,typeInfo,hi,O,this]
        have heq:(Op.equalIn (d+1) f.type (.agg (xs.take ks1.length).toArray) (.agg (ys.take ks1.length).toArray)).run P w = .ok r1 w:=by
         have A:P.underlying f.type=some (.struct (P.fieldsOf f.type)):=by rw[hu];simp[Program.fieldsOf,hu]
         have B:(P.fieldsOf f.type).toList=gs.toList:=by simp[Program.fieldsOf,hu]
         rw[run_equalIn_agg (P:=P) w d f.type _ _ A M,B];exact Q
        simp only [Op.eqFields, if_pos (show f.name ≠ "_" from G), Sem.run_bind, K, hex _ _ h1 (by omega), hex _ _ h2 (by omega), Result.andThen_ok, heq]
        cases r1
        .simp
        .simp only[Bool.not_true,Bool.false_eq_true,if_false,Bool.true_and];exact ih
      .cases N
     .cases N
    .cases N
   .cases N
  .cases N
theorem z1i{w:World}{E:Nat->Prop}:∀ {e d:Nat} {fs:List Field} {ks:List TK} {l m:List D} {xs ys:List Value} {r:Bool},zyq P e fs=some ks ->
  zah w E l xs->zah w E m ys->zb3 ks l m=some r->(Op.eqFields (d+e+1) xs.toArray ys.toArray fs).run P w = .ok r w
 |0,d,fs,ks,l,m,xs,ys,r,H,G,F,h=>zla (d:=d) (sub:=λ_=>none) (λh=>by cases h) H G F (λj v K=>by simpa using K) (λj v K=>by simpa using K) h
 |e+1,d,fs,ks,l,m,xs,ys,r,H,G,F,h=>zla (d:=d+e+1) (sub:=zyq P e) (λJ h2 L M=>z1i J h2 L M) H G F (λj v K=>by simpa using K) (λj v K=>by simpa using K) h
theorem z1j{op:BinOp}{t:Nat}{s s':Sym}{v v':Value}{x y:Operand}{w:World}{E:Nat->Prop}{m:Nat}{k:Sym->Prop}(hs:Sm w E β s v)(F:Sm w E β s' v')(h:zqv P op t s s' k):
  YV P w E β m (do eqGuard op t x y v v';binOp op t v v') k:=by
 unfold zqv at h
 split at h
 .rename_i a b
  simp only[Sm,R] at hs F;obtain⟨xs,rfl,L⟩:=hs;obtain⟨ys,rfl,M⟩:=F;split at h
  .rename_i ks G
   split at h
   .rename_i r O
    unfold eqKinds at G;split at G
    .rename_i fs Q
     split at G
     .rename_i T
      simp only[Bool.and_eq_true,beq_iff_eq] at T;have K:P.underlying t=some (.struct (P.fieldsOf t)):=by rw[Q];simp[Program.fieldsOf,Q]
      have J:(P.fieldsOf t).toList=fs.toList:=by simp[Program.fieldsOf,Q]
      have heq:=z1i (w:=w) (d:=9996) G L M O;have H:=run_equalIn_agg (P:=P) w 9999 t xs.toArray ys.toArray K T.1;rw[J,heq] at H;have V:=run_eqGuard_agg (P:=P) w op t x y xs.toArray ys.toArray T.2;split at h
      .exact⟨_,.bool r,h,by simp[Sym.lo],by simp[Sm,R],by simp only[Sem.run_bind,V,Result.andThen_ok,run_eql_struct,H]⟩
      .exact⟨_,.bool (!r),h,by simp[Sym.lo],by simp[Sm,R],by simp only[Sem.run_bind,V,Result.andThen_ok,run_neq_struct,H]⟩
      .exact h.elim
     .cases G
    .cases G
   .exact h.elim
  .exact h.elim
 .exact h.elim
theorem Yields.zba{o:Oper}{s:Sym}{v:Value}(H:k s)(G:Sym.lo st.next s)(hs:Sm w (Ex X β st.own) β s v)(F:(execOp a.eval o).run P w = .ok (.value v) w):
  Yields P X st β a w o k:=by
 intro K Q h
 unfold Oper.wp
 rw[F]
 exact h s v w H G (Below.refl _ _) hs
theorem Yields.zkb{o:Oper}{c:Sem Value}(h:YV P w (Ex X β st.own) β st.next c k)(H:∀ v,c.run P w = .ok v w->(execOp a.eval o).run P w = .ok (.value v) w):
  Yields P X st β a w o k:=by
 obtain⟨s,v,G,F,hs,E⟩:=h
 exact .zba G F hs (H v E)
theorem Sms.zly(H:Mods X w0 st β a w):∀ (l:List Operand),Sms w (Ex X β st.own) β (l.map st.val) (l.map a.eval)/\Sym.los st.next (l.map st.val)
 | []=>by simp[Sms,Sym.los]
 |x::r=>by
  have h:=Sms.zly H r;simp only[List.map_cons,Sms,Sym.los];exact⟨⟨_,_,rfl,(H.val x).2,h.1⟩,(H.val x).1,h.2⟩
theorem zmq(Y:Mods X w0 st β a w){o:Oper}{f:Operand}{args:Array Operand}{ts:Array TypeId}(Z:o.op = .call {callee:=.value f,args,argTypes:=ts})
  (h:zn0 P st.look (st.val f) (args.toList.map st.val) k):Yields P X st β a w o k:=by
 intro K Q A
 unfold zn0 at h
 split at h
 .rename_i g caps B
  unfold zqu at h;split at h
  .rename_i ds lent C
   obtain⟨r,I,L,N⟩:=h;obtain⟨H,I⟩:=I
   -- the callee
   obtain⟨cs,M,O⟩:∃ cs:List Value,a.eval f = .func (.func g) #[] cs.toArray/\Sms w (Ex X β st.own) β caps cs:=by
    have S:=(Y.val f).2;cases W:st.val f <;> rw[W] at B S <;> simp only[zbm] at B
    case d x=>
     cases x <;> simp only[zbm] at B
     case fn f' l=>
      simp at B;obtain⟨rfl,rfl⟩:=B
      simp only[Sm,R] at S;obtain⟨vs,h1,h2⟩:=S;exact⟨vs,h1,Sms.zd1 h2⟩
     all_goals cases B
    case fn f' l=>
     simp at B;obtain⟨rfl,rfl⟩:=B
     simp only[Sm] at S;exact S
    all_goals cases B
   have G:=(Sms.zly Y args.toList).1;have F:=Sms.append G O;obtain⟨hx,hex⟩:=ze8 Y C F;unfold callable at H;cases E:P.funcs[g]? with
   |none=>simp[E] at H
   |some fn=>
    simp[E] at H;have J:(execOp a.eval o).run P w = .ok (.enter g (args.toList.map a.eval++cs).toArray) w:=by
     have e1:¬fn.body=none:=by intro e;rw[e] at H;simp at H
     have e3:Array.map a.eval args++cs.toArray=(List.map a.eval args.toList++cs).toArray:=by simp
     rw[<-e3];simp[execOp,Z,resolve,M,Deferred.ofValue,invoke,callFunc,E,e1,H.1]
    unfold Oper.wp;rw[J];simp only[Oper.upon];cases lent with
    |false=>
     refine(I w (Ex X β st.own) _ Y.seen (hex rfl)).mono λe w' he=>?_
     obtain⟨v,rfl,hb,hr⟩:=he;exact A (.d r) v w' N (by simp[Sym.lo]) hb (by simpa[Sm] using hr)
    |true=>
     rcases L rfl with T | ⟨_,hn⟩
     .refine(I w X _ Y.yjr hx).mono λe w' he=>?_
      obtain⟨v,rfl,hb,hr⟩:=he;exact A (.d r) v w' N (by simp[Sym.lo]) hb (by simpa[Sm] using zmp T hr)
     .refine(hn w X _ Y.yjr hx).mono λe w' he=>?_
      obtain⟨v,rfl,hb,hr⟩:=he;refine A (.d r) v w' N (by simp[Sym.lo]) hb ?_
      have:R w' (Ex X β st.own) r v:=hr.over (Over.less λb V=>.inr (Y.seen.1 b V)) _ _
      simpa[Sm] using this
  .exact h.elim
 .exact h.elim
theorem zqx{mx:Bool}{l:List Operand}{ρ:Operand->Sym}(h:ziu mx (l.map ρ) k):∃ x y ka a kb b,l=[x,y]/\ρ x = .d (.int ka a)/\ρ y = .d (.int kb b) /\
  k (.d (.int ka (if mx=true then (if b>a then b else a) else (if b<a then b else a)))):=by
 unfold ziu at h
 split at h
 .rename_i ka a kb b heq
  cases l with
  |nil=>cases heq
  |cons x r=>
   cases r with
   |nil=>simp at heq
   |cons y r=>
    cases r with
    |nil=>simp at heq;exact⟨x,y,ka,a,kb,b,rfl,heq.1,heq.2,h⟩
    |cons _ _=>simp at heq
 .exact h.elim
theorem yfy(O:Mods X w0 st β a w)(o:Oper)(h:sop P st.look st.val o.op k):Yields P X st β a w o k:=by
 unfold sop at h
 split at h
 .rename_i x Q
  exact .zba h (O.val x).1 (O.val x).2 (by simp[execOp,Q])
 .rename_i x Q
  exact .zba h (O.val x).1 (O.val x).2 (by simp[execOp,Q])
 .rename_i c x y Q
  unfold z5o at h;split at h
  .rename_i b hb
   have T:=(O.val c).2;rw[hb] at T;simp only[Sm,R] at T;cases b
   .exact .zba h (O.val y).1 (O.val y).2 (by simp[execOp,Q,T,asBool])
   .exact .zba h (O.val x).1 (O.val x).2 (by simp[execOp,Q,T,asBool])
  .exact h.elim
 .rename_i t x Q
  split at h
  .rename_i ti V
   exact .zkb (z5q O V (O.val x).2 h) (λv Y=>by simp[execOp,Q,Y])
  .exact h.elim
 .rename_i t x f Q
  split at h
  .rename_i ti V
   exact .zkb (zrp V (O.val x).1 (O.val x).2 h) (λv Y=>by simp[execOp,Q,Y])
  .exact h.elim
 .rename_i t x f Q
  split at h
  .rename_i ti V
   exact .zkb (z1d V (O.val x).1 (O.val x).2 h) (λv Y=>by simp[execOp,Q,Y])
  .exact h.elim
 .rename_i t x i Q
  split at h
  .rename_i e _ _ _ _ V
   obtain⟨j,u,z,hi,Z,A,F,_⟩:=zay V;have:=zbb F.symm;subst this
   split at h
   .rename_i te J
    exact .zkb (zrq O Z J (O.val x).1 (O.val x).2 (O.val i).2 h) (λv Y=>by simp[execOp,Q,Y])
   .exact h.elim
  .exact h.elim
 .rename_i t x i Q
  split at h
  .rename_i V
   obtain⟨j,u,z,hi,Z,A,F,_⟩:=zay V;have:=zfg F.symm;subst this
   exact .zkb (z1e Z (O.val x).2 (O.val i).2 h) (λv Y=>by simp[execOp,Q,Y])
  .exact h.elim
 .rename_i t x lo hi Q
  split at h
  .rename_i ti V
   refine .zkb (z1f O rfl V h.1 (vlo:=lo.map a.eval) (vhi:=hi.map a.eval) (O.val x).2 (by cases lo <;> rfl) (by cases hi <;> rfl) (O.val x).1 ?_ ?_ h.2) (λv Y=>by simp[execOp,Q,Y])
   .intro p q B hq
    cases lo with
    |none=>cases B
    |some y=>simp at B hq;subst B;subst hq;exact(O.val y).2
   .intro p q B hq
    cases hi with
    |none=>cases B
    |some y=>simp at B hq;subst B;subst hq;exact(O.val y).2
  .exact h.elim
 .rename_i t x lo hi mx Q
  split at h
  .rename_i ti V
   exact .zkb (zyr O V (O.val x).2 (O.val lo).2 (O.val hi).2 (O.val mx).2 h) (λv Y=>by simp[execOp,Q,Y])
  .exact h.elim
 .rename_i op t x y ty Q
  split at h
  .rename_i ti V
   have C:YV P w (Ex X β st.own) β st.next (do eqGuard op t x y (a.eval x) (a.eval y);binOp op t (a.eval x) (a.eval y)) k:=by
    rcases h with h | h
    .exact ybw (x:=x) (y:=y) (O.val x).2 (O.val y).2 V h.1 h.2
    .exact z1j (O.val x).2 (O.val y).2 h
   exact .zkb C (λv Y=>by
    simp only[Sem.run_bind] at Y;simp only[execOp,Q,Sem.run_bind];generalize (eqGuard op t x y (a.eval x) (a.eval y)).run P w=r at *;cases r with
    |ok u w'=>simp only[Result.andThen_ok] at Y ⊢;rw[Y];rfl
    |halt e w'=>cases Y)
  .exact h.elim
 .rename_i op t x Q
  exact .zkb (yfx (O.val x).2 h) (λv Y=>by simp[execOp,Q,Y])
 .rename_i s t x Q
  split at h
  .rename_i ti' ti L V
   exact .zkb (zvg L V (O.val x).2 h) (λv Y=>by simp[execOp,Q,Y])
  .exact h.elim
 .rename_i t i Q
  exact .zkb (zvh (O.val t).1 (O.val t).2 h) (λv Y=>by simp[execOp,Q,Y])
 .rename_i t m x c Q
  split at h
  .rename_i kt et _ _ _ _ V
   obtain⟨j,u,z,hi,Z,A,F,_⟩:=zay V;have:=z8y F.symm;subst this
   split at h
   .rename_i tk te I N
    exact .zkb (zys O Z I N h.1 h.2) (λv Y=>by simp[execOp,Q,Y])
   .exact h.elim
  .exact h.elim
 .rename_i x Q
  obtain⟨s,v,I,S,hs,W⟩:=yby (P:=P) (ρ:=a.eval) Q rfl (O.val x).1 (O.val x).2 h;exact .zba I S hs W
 .rename_i ar ts Q
  split at h
  .rename_i x t hx V
   split at h
   .rename_i ti M
    have e1:ar = #[x]:=by cases ar;simp at hx;rw[hx]
    have e2:ts = #[t]:=by cases ts;simp at V;rw[V]
    subst e1;subst e2;exact .zkb (ybx (ty:=o.type) O M (O.val x).2 h) (λv Y=>by simp[execOp,Q,resolve,invoke,builtin,Y])
   .exact h.elim
  .exact h.elim
 .rename_i ar ts Q
  obtain⟨x,y,ka,a',kb,b',E,hx,C,I⟩:=zqx h;have e1:ar = #[x,y]:=by cases ar;simp at E;rw[E]
  subst e1;have H:=(O.val x).2;rw[hx] at H;simp only[Sm,R] at H;have G:=(O.val y).2;rw[C] at G;simp only[Sm,R] at G;have K:YV P w (Ex X β st.own) β st.next (Builtin.max_ ts o.type #[.int ka a',.int kb b']) k:=YV.int I (by rw[run_max_int2];simp)
  exact .zkb K (λv Y=>by simp[execOp,Q,resolve,invoke,builtin,H,G,Y])
 .rename_i ar ts Q
  obtain⟨x,y,ka,a',kb,b',E,hx,C,I⟩:=zqx h;have e1:ar = #[x,y]:=by cases ar;simp at E;rw[E]
  subst e1;have H:=(O.val x).2;rw[hx] at H;simp only[Sm,R] at H;have G:=(O.val y).2;rw[C] at G;simp only[Sm,R] at G;have K:YV P w (Ex X β st.own) β st.next (Builtin.min_ ts o.type #[.int ka a',.int kb b']) k:=YV.int I (by rw[run_min_int2];simp)
  exact .zkb K (λv Y=>by simp[execOp,Q,resolve,invoke,builtin,H,G,Y])
 .rename_i f ar ts Q
  exact zmq O Q h
 .exact h.elim
end
end Go.V

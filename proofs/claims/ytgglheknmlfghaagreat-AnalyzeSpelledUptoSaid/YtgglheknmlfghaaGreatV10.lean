/- A program logic of my own over the kit: part V10. It needs no conditions. -/
import Derived.Test.YtgglheknmlfghaaGreatV1
import Derived.Great.BuildSlice
import Derived.Lib.ConvBytes
import Derived.RangeFuncRecord
import Derived.Laws.MakeOwn
import Derived.Laws.CopyRow
import Derived.Laws.IdiomCopy
import Derived.Laws.BytesString
import Derived.Lib.Overlaps
import Derived.Lib.AppendZerosOnto
import Derived.Lib.AppendStr
set_option linter.unusedVariables false
set_option linter.unusedSimpArgs false
set_option linter.unusedSectionVars false
namespace Go.V
variable [Dr] [Ov]
open Go.RowKit
mutual
theorem Sm.over {w w':World} {E E':Nat→Prop} {β β':Nat→Value} {m:Nat} (hβ : ∀ id,id<m→β' id=β id) (h:Over w E w' E') :
  ∀ {s:Sym} {v:Value},Sym.lo m s→Sm w E β s v→Sm w' E' β' s v
 | .d x,v,_,hs=>by simp only [Sm] at hs ⊢;exact R.over h _ _ hs
 | .nils,v,_,hs=>by simpa [Sm] using hs
 | .bp id off,v,hl,hs=>by simp only [Sm,Sym.lo] at hs hl ⊢;rw [hβ id hl];exact hs
 | .ar id,v,hl,hs=>by simp only [Sm,Sym.lo] at hs hl ⊢;rw [hβ id hl];exact hs
 | .ap id sz i off,v,hl,hs=>by simp only [Sm,Sym.lo] at hs hl ⊢;rw [hβ id hl];exact hs
 | .aS id sz i off,v,hl,hs=>by simp only [Sm,Sym.lo] at hs hl ⊢;rw [hβ id hl];exact hs
 | .av id sz i off,v,hl,hs=>by simp only [Sm,Sym.lo] at hs hl ⊢;rw [hβ id hl];exact hs
 | .yd id,v,hl,hs=>by simp only [Sm,Sym.lo] at hs hl ⊢;rw [hβ id hl];exact hs
 | .mp id,v,hl,hs=>by simp only [Sm,Sym.lo] at hs hl ⊢;rw [hβ id hl];exact hs
 | .tup l,v,hl,hs=>by
  simp only [Sm,Sym.lo] at hs hl ⊢;obtain ⟨vs,h1,h2⟩:=hs;exact ⟨vs,h1,Sms.over hβ h hl h2⟩
 | .agg l,v,hl,hs=>by
  simp only [Sm,Sym.lo] at hs hl ⊢;obtain ⟨vs,h1,h2,h3⟩:=hs;exact ⟨vs,h1,Sms.over hβ h hl h2,h3⟩
 | .fn f l,v,hl,hs=>by
  simp only [Sm,Sym.lo] at hs hl ⊢;obtain ⟨vs,h1,h2⟩:=hs;exact ⟨vs,h1,Sms.over hβ h hl h2⟩
 | .junk,v,_,_=>by simp [Sm]
theorem Sms.over {w w':World} {E E':Nat→Prop} {β β':Nat→Value} {m:Nat} (hβ : ∀ id,id<m→β' id=β id) (h:Over w E w' E') :
  ∀ {l:List Sym} {vs:List Value},Sym.los m l→Sms w E β l vs→Sms w' E' β' l vs
 | [],vs,_,hs=>by simpa [Sms] using hs
 | s::r,vs,hl,hs=>by
  simp only [Sms,Sym.los] at hs hl ⊢;obtain ⟨v,vs',rfl,h1,h2⟩:=hs;exact ⟨v,vs',rfl,Sm.over hβ h hl.1 h1,Sms.over hβ h hl.2 h2⟩
end
mutual
theorem Sym.zdi {m m':Nat} (h:m≤m') : ∀ {s:Sym},Sym.lo m s→Sym.lo m' s
 | .d _,_=>by simp [Sym.lo]
 | .nils,_=>by simp [Sym.lo]
 | .junk,_=>by simp [Sym.lo]
 | .bp _ _,hl=>by simp only [Sym.lo] at hl ⊢;omega
 | .ar _,hl=>by simp only [Sym.lo] at hl ⊢;omega
 | .ap _ _ _ _,hl=>by simp only [Sym.lo] at hl ⊢;omega
 | .aS _ _ _ _,hl=>by simp only [Sym.lo] at hl ⊢;omega
 | .av _ _ _ _,hl=>by simp only [Sym.lo] at hl ⊢;omega
 | .yd _,hl=>by simp only [Sym.lo] at hl ⊢;omega
 | .mp _,hl=>by simp only [Sym.lo] at hl ⊢;omega
 | .tup l,hl=>by simp only [Sym.lo] at hl ⊢;exact Sym.zhf h hl
 | .agg l,hl=>by simp only [Sym.lo] at hl ⊢;exact Sym.zhf h hl
 | .fn _ l,hl=>by simp only [Sym.lo] at hl ⊢;exact Sym.zhf h hl
theorem Sym.zhf {m m':Nat} (h:m≤m') : ∀ {l:List Sym},Sym.los m l→Sym.los m' l
 | [],_=>by simp [Sym.los]
 | s::r,hl=>by simp only [Sym.los] at hl ⊢;exact ⟨Sym.zdi h hl.1,Sym.zhf h hl.2⟩
end
theorem Obj'.zdi {m m':Nat} (h:m≤m') {o:Obj'} (hl:o.lo m):o.lo m':=by
 cases o with
 | box T cells=>exact Sym.zhf h hl
 | arr T sz rows=>trivial
 | map T rows=>trivial
 | raw k cells=>exact Sym.zhf h hl
theorem zwp {w w':World} {base T sz n:Nat} {v:Value} {xs:List Value} (h:w.ownsRow base T sz v n xs) (hb : ∀ b,blk v=some b→w'.heap[b]?=w.heap[b]?):w'.ownsRow base T sz v n xs:=by
 refine ⟨h.1,?_⟩
 rcases h.2 with hn | ⟨g,cap,cur,hv,h1,h2,h3⟩
 ·exact .inl hn
 ·exact .inr ⟨g,cap,cur,hv,h1,by rw [hb g (by rw [hv];rfl)];exact h2,h3⟩
theorem Owns.same {N:Nat→Prop} {w w':World} {T sz n:Nat} {v:Value} {xs:List Value} (h:Owns N w T sz v n xs) (hb : ∀ b,blk v=some b→w'.heap[b]?=w.heap[b]?):Owns N w' T sz v n xs:=⟨zwp h.1 hb,fun b e=>⟨(h.2 b e).1,(h.2 b e).2.same (hb b e)⟩⟩
theorem zc9.over {w w':World} {base:Nat→Prop} {E E':Nat→Prop} {β β':Nat→Value} {m id:Nat} {o:Obj'} (hβ : ∀ id,id<m→β' id=β id) (h:Over w E w' E')
  (hid:id<m) (hl:o.lo m) (hb : ∀ b,blk (β id)=some b→w'.heap[b]?=w.heap[b]?) (ho:zc9 w base E β id o):zc9 w' base E' β' id o:=by
 cases o with
 | box T cells=>
  obtain ⟨b,vs,h1,h2,h3,h4,h5⟩:=ho;exact ⟨b,vs,by rw [hβ id hid];exact h1,h2,by rw [hb b (by rw [h1];rfl)];exact h3,Sms.over hβ h hl h4,h5⟩
 | arr T sz rows=>
  obtain ⟨xs,h1,h2,h3⟩:=ho;exact ⟨xs,by rw [hβ id hid];exact Owns.same h1 hb,zae.over h _ _ h2,h3⟩
 | map T rows=>
  obtain ⟨r,es,clock,h1,h2,h3,h4⟩:=ho;exact ⟨r,es,clock,by rw [hβ id hid];exact h1,h2,by rw [hb r (by rw [h1];rfl)];exact h3,zci.over h _ _ h4⟩
 | raw k cells=>
  obtain ⟨b,fn,D,vs,h1,h2,h3,h4⟩:=ho;exact ⟨b,fn,D,vs,by rw [hβ id hid];exact h1,h2,by rw [hb b (by rw [h1];rfl)];exact h3,Sms.over hβ h hl h4⟩
theorem zt7 {a:Act} {dst:Option Tmp} {v:Value} {t:Tmp} (h : ∀ d,dst=some d→d<a.tmps.size) :
  (a.put dst v).tmps.getD t undef=if dst=some t then v else a.tmps.getD t undef:=by
 cases dst with
 | none=>simp [Act.put]
 | some d=>
  have:=h d rfl
  by_cases e:d=t
  ·subst e;simp [Act.put,this]
  ·have e':¬(some d=some t):=by simpa using e
   simp only [Act.put,e',if_false];simp [Array.getElem?_setIfInBounds,e]
section
variable {P:Program} {X:Nat→Prop} {w0:Base} {st:St} {β:Nat→Value} {a:Act} {w w':World}
theorem Mods.put (hm:Mods X w0 st β a w) (hb:Below w.heap.size w w') {dst:Option Tmp} {s:Sym} {v:Value} (hd : ∀ t,dst=some t→t<st.n) (hl:Sym.lo st.next s)
  (hs:Sm w' (Ex X β st.own) β s v):Mods X w0 (st.put dst s) β (a.put dst v) w':=by
 have hov:Over w (Ex X β st.own) w' (Ex X β st.own):=Over.of_below hb _
 have hn:(st.put dst s).n=st.n:=by cases dst <;> rfl
 have ho:(st.put dst s).own=st.own:=by cases dst <;> rfl
 have hx:(st.put dst s).next=st.next:=by cases dst <;> rfl
 refine ⟨hm.outer,by cases dst <;> exact hm.still,hm.one,?_,?_,hm.below.next hb,?_,?_,?_,?_⟩
 ·cases dst <;> exact hm.defers
 ·rw [hn,← hm.size];cases dst <;> simp [Act.put]
 ·rw [ho];exact hm.keys
 ·rw [ho,hx]
  intro id o hmem;obtain ⟨h1,h2,h3⟩:=hm.own id o hmem;exact ⟨h1,h2,zc9.over (m:=st.next) (fun _ _=>rfl) hov h1 h2 (fun b hb'=>hb.block b (hm.lt b (.inr ⟨id,o,hmem,hb'⟩))) h3⟩
 ·rw [ho];exact hm.apart
 ·rw [ho,hx]
  intro t s' ht;rw [zt7 (fun d hd'=>by rw [hm.size];exact hd d hd')]
  cases dst with
  | none=>
   simp only [St.put] at ht;have:=hm.slots t s' ht
   exact ⟨this.1,by simpa using Sm.over (m:=st.next) (fun _ _=>rfl) hov this.1 this.2⟩
  | some d=>
   simp only [St.put,zab] at ht;by_cases e:d=t
   ·subst e;simp at ht;subst ht;simp;exact ⟨hl,hs⟩
   ·simp only [e,if_false] at ht
    have:=hm.slots t s' ht
    have e':¬(some d=some t):=by simpa using e
    simp only [e',if_false];exact ⟨this.1,Sm.over (m:=st.next) (fun _ _=>rfl) hov this.1 this.2⟩
theorem Mods.new (hm:Mods X w0 st β a w) (hb:Below w.heap.size w w') {o:Obj'} {v:Value} (hv1:v.oneCell'=true) (hlo:o.lo st.next)
  (hnew : ∀ b,blk v=some b→w.heap.size≤b)
  (hok:zc9 w' w0.may (fun b=>Ex X β st.own b∨blk v=some b) (fun i=>if i=st.next then v else β i) st.next o) :
  Mods X w0 {st with next:=st.next+1,own:=(st.next,o)::st.own} (fun i=>if i=st.next then v else β i) a w':=by
 have hβ : ∀ id,id<st.next→(fun i=>if i=st.next then v else β i) id=β id:=by
  intro id h;simp;intro e;omega
 have hE : ∀ b,Ex X (fun i=>if i=st.next then v else β i) ((st.next,o)::st.own) b↔(Ex X β st.own b∨blk v=some b):=by
  intro b;constructor
  ·rintro (h | ⟨id,o',hmem,h⟩)
   ·exact .inl (.inl h)
   ·rcases List.mem_cons.1 hmem with e | hmem
    ·cases e;simp at h;exact .inr h
    ·have:=(hm.own id o' hmem).1
     rw [hβ id this] at h;exact .inl (.inr ⟨id,o',hmem,h⟩)
  ·rintro ((h | ⟨id,o',hmem,h⟩) | h)
   ·exact .inl h
   ·refine .inr ⟨id,o',List.mem_cons_of_mem _ hmem,?_⟩
    rw [hβ id (hm.own id o' hmem).1];exact h
   ·exact .inr ⟨st.next,o,by simp,by simpa using h⟩
 have hE':Ex X (fun i=>if i=st.next then v else β i) ((st.next,o)::st.own)=(fun b=>Ex X β st.own b∨blk v=some b):=funext fun b=>propext (hE b)
 have hov:Over w (Ex X β st.own) w' (fun b=>Ex X β st.own b∨blk v=some b):=by
  intro b hlt he;refine ⟨?_,hb.block b hlt⟩
  rintro (h | h)
  ·exact he h
  ·have:=hnew b h;omega
 refine ⟨hm.outer,⟨Nat.le_succ_of_le hm.still.1,fun i h1 h2=>(hβ i (Nat.lt_of_lt_of_le h1 hm.still.1)).trans (hm.still.2 i h1 h2)⟩,fun i=>by split;exact hv1;exact hm.one i,hm.defers,hm.size,hm.below.next hb,?_,?_,?_,?_⟩
 ·simp only [List.map_cons,List.nodup_cons]
  refine ⟨?_,hm.keys⟩
  intro h;obtain ⟨⟨id,o'⟩,hmem,e⟩:=List.mem_map.1 h;have:=(hm.own id o' hmem).1
  simp at e;omega
 ·intro id o' hmem
  rw [hE'];rcases List.mem_cons.1 hmem with e | hmem
  ·cases e
   exact ⟨Nat.lt_succ_self _,Obj'.zdi (Nat.le_succ _) hlo,hok⟩
  ·obtain ⟨h1,h2,h3⟩:=hm.own id o' hmem
   exact ⟨Nat.lt_succ_of_lt h1,Obj'.zdi (Nat.le_succ _) h2,zc9.over (m:=st.next) hβ hov h1 h2 (fun b hb'=>hb.block b (hm.lt b (.inr ⟨id,o',hmem,hb'⟩))) h3⟩
 ·intro id o1 id' o2 b h1 h2 e1 e2
  rcases List.mem_cons.1 h1 with e | h1 <;> rcases List.mem_cons.1 h2 with e' | h2
  ·cases e;cases e';rfl
  ·cases e
   have hlt:=(hm.own id' o2 h2).1;rw [if_neg (by omega)] at e2
   simp at e1
   have:=hnew b e1
   have:=hm.lt b (.inr ⟨id',o2,h2,e2⟩)
   omega
  ·cases e'
   have hlt:=(hm.own id o1 h1).1;rw [if_neg (by omega)] at e1
   simp at e2
   have:=hnew b e2
   have:=hm.lt b (.inr ⟨id,o1,h1,e1⟩)
   omega
  ·have l1:=(hm.own id o1 h1).1
   have l2:=(hm.own id' o2 h2).1;rw [if_neg (by omega)] at e1
   rw [if_neg (by omega)] at e2
   exact hm.apart id o1 id' o2 b h1 h2 e1 e2
 ·intro t s ht
  have:=hm.slots t s ht
  rw [hE'];exact ⟨Sym.zdi (Nat.le_succ _) this.1,Sm.over hβ hov this.1 this.2⟩
end
end Go.V
namespace Go.V
variable [Dr] [Ov]
open Go.RowKit
theorem zil {α:Type} {t:Nat} {v:α} : ∀ {l:List (Nat×α)},t∈l.map (·.1)→(aset t v l).map (·.1)=l.map (·.1)
 | [],h=>by cases h
 | (k,u)::r,h=>by
  simp only [aset];split
  ·rfl
  ·rename_i hk
   simp only [List.map_cons,List.mem_cons] at h ⊢;rcases h with h | h
   ·exact absurd h.symm hk
   ·rw [zil h]
theorem zji {α:Type} {t:Nat} {v:α} : ∀ {l:List (Nat×α)} {id:Nat} {o:α},(l.map (·.1)).Nodup→(id,o)∈aset t v l→(id=t∧o=v)∨(id≠t∧(id,o)∈l)
 | [],id,o,_,h=>by simp [aset] at h;exact .inl h
 | (k,u)::r,id,o,hn,h=>by
  simp only [aset] at h;simp only [List.map_cons,List.nodup_cons] at hn;split at h
  ·rename_i hk
   rcases List.mem_cons.1 h with e | h
   ·cases e;exact .inl ⟨hk,rfl⟩
   ·refine .inr ⟨?_,List.mem_cons_of_mem _ h⟩
    intro e;subst e;subst hk;exact hn.1 (List.mem_map.2 ⟨(k,o),h,rfl⟩)
  ·rename_i hk
   rcases List.mem_cons.1 h with e | h
   ·cases e;exact .inr ⟨hk,by simp⟩
   ·rcases zji hn.2 h with e | ⟨e,h⟩
    ·exact .inl e
    ·exact .inr ⟨e,List.mem_cons_of_mem _ h⟩
section
variable {P:Program} {X:Nat→Prop} {w0:Base} {st:St} {β:Nat→Value} {a:Act} {w w':World}
theorem Mods.step (hm:Mods X w0 st β a w) {next':Nat} {own':List (Nat×Obj')} {β':Nat→Value} (hn:st.next≤next') (hone : ∀ id,(β' id).oneCell'=true) (hβ : ∀ id,id<st.next→β' id=β id)
  (hbelow:Kept w0 w') (hkeys:(own'.map (·.1)).Nodup)
  (hown : ∀ id o,(id,o)∈own'→((id,o)∈st.own∧∀ b,blk (β id)=some b→w'.heap[b]?=w.heap[b]?)∨(id<next'∧o.lo next'∧zc9 w' w0.may (Ex X β' own') β' id o))
  (hapart : ∀ id o id' o' b,(id,o)∈own'→(id',o')∈own'→blk (β' id)=some b→blk (β' id')=some b→id=id')
  (hov:Over w (Ex X β st.own) w' (Ex X β' own')):Mods X w0 {st with next:=next',own:=own' } β' a w':=by
 refine ⟨hm.outer,⟨Nat.le_trans hm.still.1 hn,fun i h1 h2=>(hβ i (Nat.lt_of_lt_of_le h1 hm.still.1)).trans (hm.still.2 i h1 h2)⟩,hone,hm.defers,hm.size,hbelow,hkeys,?_,hapart,?_⟩
 ·intro id o hmem
  rcases hown id o hmem with ⟨h,hs⟩ | h
  ·obtain ⟨h1,h2,h3⟩:=hm.own id o h
   exact ⟨Nat.lt_of_lt_of_le h1 hn,Obj'.zdi hn h2,zc9.over (m:=st.next) hβ hov h1 h2 hs h3⟩
  ·exact h
 ·intro t s ht
  have:=hm.slots t s ht
  exact ⟨Sym.zdi hn this.1,Sm.over hβ hov this.1 this.2⟩
theorem yea {id:Nat} {o o':Obj'} (hk:(st.own.map (·.1)).Nodup) (h:(id,o)∈st.own):Ex X β (aset id o' st.own)=Ex X β st.own:=by
 have hkeys:=zil (v:=o') (List.mem_map.2 ⟨(id,o),h,rfl⟩:id∈st.own.map (·.1))
 funext b
 have key:(∃ i x,(i,x)∈aset id o' st.own∧blk (β i)=some b)↔(∃ i x,(i,x)∈st.own∧blk (β i)=some b):=by
  constructor
  ·rintro ⟨i,x,hx,e⟩
   rcases zji hk hx with ⟨rfl,rfl⟩ | ⟨_,hx⟩
   ·exact ⟨i,o,h,e⟩
   ·exact ⟨i,x,hx,e⟩
  ·rintro ⟨i,x,hx,e⟩
   have:i∈(aset id o' st.own).map (·.1):=by rw [hkeys];exact List.mem_map.2 ⟨(i,x),hx,rfl⟩
   obtain ⟨⟨j,y⟩,hy,rfl⟩:=List.mem_map.1 this;exact ⟨j,y,hy,e⟩
 unfold Ex
 rw [key]
theorem Mods.update (hm:Mods X w0 st β a w) {id:Nat} {o o':Obj'} (ho:st.look id=some o) {b:Nat} (hb:blk (β id)=some b) (hbase:w0.may b)
  (hsame : ∀ c,c≠b→w'.heap[c]?=w.heap[c]?) (hsz:w'.heap.size=w.heap.size) (hos:w'.os=w.os) (htape:w'.tape=w.tape) (hout:w'.output=w.output) (hdr:Drw w w')
  (hlo:o'.lo st.next) (hok:zc9 w' w0.may (Ex X β st.own) β id o'):Mods X w0 {st with own:=aset id o' st.own} β a w':=by
 have hmem:=zaw ho
 have hE:=yea (X:=X) (β:=β) (o':=o') hm.keys hmem
 have hbel:Kept w0 w':=hm.below.turn hos htape hout (by rw [hsz];exact Nat.le_refl _) (fun k _ hk=>hsame k (fun e=>by subst e;exact hk hbase)) hdr
 refine hm.step (next':=st.next) (Nat.le_refl _) hm.one (fun _ _=>rfl) hbel ?_ ?_ ?_ ?_
 ·rw [zil (List.mem_map.2 ⟨(id,o),hmem,rfl⟩)];exact hm.keys
 ·intro i x hx
  rcases zji hm.keys hx with ⟨rfl,rfl⟩ | ⟨hne,hx⟩
  ·right;rw [hE];exact ⟨(hm.own i o hmem).1,hlo,hok⟩
  ·left
   refine ⟨hx,fun c hc=>hsame c ?_⟩
   intro e;subst e;exact hne (hm.apart i x id o c hx hmem hc hb)
 ·intro i x j y c hx hy e1 e2
  have old : ∀ {i x},(i,x)∈aset id o' st.own→∃ x',(i,x')∈st.own:=by
   intro i x hx;rcases zji hm.keys hx with ⟨rfl,rfl⟩ | ⟨_,hx⟩
   ·exact ⟨o,hmem⟩
   ·exact ⟨x,hx⟩
  obtain ⟨x',hx'⟩:=old hx;obtain ⟨y',hy'⟩:=old hy;exact hm.apart i x' j y' c hx' hy' e1 e2
 ·rw [hE]
  intro c hc he;refine ⟨he,hsame c ?_⟩
  intro e;subst e;exact he (.inr ⟨id,o,hmem,hb⟩)
theorem Mods.drop (hm:Mods X w0 st β a w) {own':List (Nat×Obj')} (hk:(own'.map (·.1)).Nodup) (hsub : ∀ id o,(id,o)∈own'→(id,o)∈st.own) :
  Mods X w0 {st with own:=own' } β a w:=by
 refine hm.step (next':=st.next) (Nat.le_refl _) hm.one (fun _ _=>rfl) hm.below hk (fun id o h=>.inl ⟨hsub id o h,fun _ _=>rfl⟩)
  (fun i x j y c hx hy e1 e2=>hm.apart i x j y c (hsub i x hx) (hsub j y hy) e1 e2) ?_
 exact Over.less (fun b hb=>hb.elim .inl fun ⟨i,x,hx,e⟩=>.inr ⟨i,x,hsub i x hx,e⟩)
end
end Go.V
namespace Go.V
variable [Dr] [Ov]
open Go.RowKit
def zbd:Sym→Option (List Sym)
 | .d (.agg l)=>some (l.map .d)
 | .d (.tup _)=>none
 | .d (.val _)=>none
 | .d x=>some [.d x]
 | .agg l=>some l
 | .tup _=>none
 | .junk=>none
 | s=>some [s]
section
variable {P:Program} {X:Nat→Prop} {w0:Base} {st:St} {β:Nat→Value} {a:Act} {w w':World} {E:Nat→Prop} {m:Nat}
theorem zdm (hβ : ∀ id,(β id).oneCell'=true) {s:Sym} {l:List Sym} {v:Value} (h:zbd s=some l) (hl:Sym.lo m s) (hs:Sm w E β s v) :
  ∃ vs:List Value,v.cells=vs.toArray∧Sms w E β l vs∧(∀ u∈vs,u.oneCell'=true)∧Sym.los m l:=by
 have one : ∀ {s:Sym} {v:Value},Sym.lo m s→Sm w E β s v→v.oneCell'=true→∃ vs:List Value,v.cells=vs.toArray∧Sms w E β [s] vs∧(∀ u∈vs,u.oneCell'=true)∧Sym.los m [s]:=by
  intro s v hl hs h1;refine ⟨[v],?_,by simp [Sms,hs],by simpa using h1,by simpa [Sym.los] using hl⟩
  cases v <;> first | rfl | simp [Value.oneCell'] at h1
 cases s
 case d x=>
  cases x <;> simp only [zbd] at h
  case agg l'=>
   simp at h;subst h
   simp only [Sm,R] at hs;obtain ⟨vs,rfl,hc⟩:=hs;exact ⟨vs,rfl,Sms.zf9 hc.vals,hc.one,Sym.z06 m l'⟩
  case tup=>cases h
  case val=>cases h
  all_goals (simp at h;subst h;refine one hl hs ?_;simp only [Sm,R] at hs)
  case int=>subst hs;rfl
  case bool=>subst hs;rfl
  case str=>subst hs;rfl
  case sl=>obtain ⟨_,_,rfl,_⟩:=hs;rfl
  case ptr=>obtain ⟨_,_,rfl,_⟩:=hs;rfl
  case fn=>obtain ⟨_,rfl,_⟩:=hs;rfl
  case mp=>obtain ⟨_,_,_,rfl,_⟩:=hs;rfl
 case agg l'=>
  simp [zbd] at h;subst h;simp only [Sm] at hs;obtain ⟨vs,rfl,hc,h1⟩:=hs;exact ⟨vs,rfl,hc,h1,by simpa [Sym.lo] using hl⟩
 case tup=>simp [zbd] at h
 case junk=>simp [zbd] at h
 all_goals (simp [zbd] at h;subst h;refine one hl hs ?_;simp only [Sm] at hs)
 case nils=>subst hs;rfl
 case bp=>obtain ⟨_,_,rfl⟩:=hs;rfl
 case ar=>subst hs;exact hβ _
 case ap=>obtain ⟨_,_,_,_,rfl⟩:=hs;rfl
 case aS=>obtain ⟨_,_,_,_,_,rfl,_⟩:=hs;rfl
 case av=>obtain ⟨_,_,_,rfl,_⟩:=hs;rfl
 case yd=>obtain ⟨_,_,rfl⟩:=hs;rfl
 case mp=>subst hs;exact hβ _
 case fn=>obtain ⟨_,rfl,_⟩:=hs;rfl
end
end Go.V
namespace Go.V
variable [Dr] [Ov]
open Go.RowKit
def St.new (st:St) (o:Obj'):St:={st with next:=st.next+1,own:=(st.next,o)::st.own}
def St.set (st:St) (id:Nat) (o:Obj'):St:={st with own:=aset id o st.own}
def eBox (st:St) (dst:Option Tmp) (T:Nat) (s:Sym) (K:St→Prop):Prop:=
 match zbd s with
 | some l=>K ((st.new (.box T l)).put dst (.bp st.next 0))
 | none=>False
def z7x (st:St) (dst:Option Tmp) (T:Nat) (ti:TI) (K:St→Prop):Prop:=
 ti.zero.all (·.oneCell')=true∧K ((st.new (.box T (ti.zero.map ofConst))).put dst (.bp st.next 0))
def eNil (st:St) (dst:Option Tmp) (e sz:Nat) (K:St→Prop):Prop:=
 K ((st.new (.arr e sz [])).put dst (.ar st.next))
def splice {α:Type} (l:List α) (off:Nat) (x:List α):List α:=l.take off++x++l.drop (off+x.length)
def zlj (st:St) (ti:TI) (addr s:Sym) (K:St→Prop):Prop:=
 match addr with
 | .bp id off=>match st.look id with
  | some (.box T cells)=>match zbd s with
   | some l=>l.length=ti.size∧off+l.length≤cells.length∧K (st.set id (.box T (splice cells off l)))
   | none=>False
  | _=>False
 | .ap id sz i off=>match st.look id with
  | some (.arr T sz' rows)=>match zbd s with
   | some l=>match allD l with
    | some ds=>sz=sz'∧i<rows.length∧ds.length=ti.size∧off+ds.length≤(rows.getD i []).length∧K (st.set id (.arr T sz (rows.set i (splice (rows.getD i []) off ds))))
    | none=>False
   | none=>False
  | _=>False
 | _=>False
section
variable {P:Program} {X:Nat→Prop} {w0:Base} {st:St} {β:Nat→Value} {a:Act} {w w':World}
def Goes (P:Program) (X:Nat→Prop) (w0:Base) (o:Oper) (a:Act) (w:World) (K:St→Prop):Prop:=
 ∀ (N:Act→World→Prop) (Q:Exit→Act→World→Prop),(∀ a' w' st' β',K st'→Mods X w0 st' β' a' w'→N a' w')→o.wp P a w N Q
theorem Goes.zes {o:Oper} {K:St→Prop} (hm:Mods X w0 st β a w) (hd : ∀ t,o.dst=some t→t<st.n) (h:Yields P X st β a w o (fun s=>K (st.put o.dst s))):Goes P X w0 o a w K:=by
 intro N Q hN
 exact h N Q fun s v w' hk hl hb hs=>hN _ w' _ β hk (hm.put hb hd hl hs)
theorem Goes.za6 {o:Oper} {K:St→Prop} {v:Value} {st':St} {β':Nat→Value} (hr:(execOp a.eval o).run P w = .ok (.value v) w') (hk:K st') (hm:Mods X w0 st' β' (a.put o.dst v) w'):Goes P X w0 o a w K:=by
 intro N Q hN
 unfold Oper.wp
 rw [hr]
 exact hN _ _ _ _ hk hm
theorem Goes.zy9 {o:Oper} {K:St→Prop} {st':St} {β':Nat→Value} (hr:(execOp a.eval o).run P w = .ok .skip w') (hk:K st') (hm:Mods X w0 st' β' (a.put o.dst undef) w'):Goes P X w0 o a w K:=by
 intro N Q hN
 unfold Oper.wp
 rw [hr]
 exact hN _ _ _ _ hk hm
theorem zbj (w:World) (o:Obj):Below w.heap.size w (w.alloc o):=(Below.refl _ _).alloc (Nat.le_refl _) o
theorem zsl (hm:Mods X w0 st β a w) (o:Obj):Over w (Ex X β st.own) (w.alloc o) (fun b=>Ex X β st.own b∨some w.heap.size=some b):=by
 intro b hb he
 refine ⟨?_,(zbj w o).block b hb⟩
 rintro (h | h)
 ·exact he h
 ·simp at h;omega
theorem Mods.yc3 (hm:Mods X w0 st β a w) {T:Nat} {l:List Sym} {vs:List Value} (hl:Sym.los st.next l) (hs:Sms w (Ex X β st.own) β l vs) (h1 : ∀ u∈vs,u.oneCell'=true) :
  Mods X w0 (st.new (.box T l)) (fun i=>if i=st.next then .pointer (some ⟨w.heap.size,0,none⟩) else β i) a (w.alloc (.cells vs.toArray T)):=by
 refine hm.new (zbj w _) rfl hl (fun b hb=>by simp [blk] at hb;omega) ?_
 have hβ : ∀ id,id<st.next→(fun i=>if i=st.next then Value.pointer (some ⟨w.heap.size,0,none⟩) else β i) id=β id:=by
  intro id h;simp;intro e;omega
 refine ⟨w.heap.size,vs,by simp,.inl hm.below.size,Go.heap_alloc_new w _,?_,h1⟩
 exact Sms.over hβ (zsl hm _) hl hs
theorem Mods.za0 (hm:Mods X w0 st β a w) {dst:Option Tmp} {s:Sym} {v:Value} (hd : ∀ t,dst=some t→t<st.n) (hl:Sym.lo st.next s)
  (hs:Sm w (Ex X β st.own) β s v):Mods X w0 (st.put dst s) β (a.put dst v) w:=hm.put (Below.refl _ _) hd hl hs
theorem zsm (hm:Mods X w0 st β a w) {o:Oper} {T:Nat} {x:Operand} (ho:o.op = .box T x) (hd : ∀ t,o.dst=some t→t<st.n) {K:St→Prop} (h:eBox st o.dst T (st.val x) K):Goes P X w0 o a w K:=by
 unfold eBox at h
 split at h
 ·rename_i l hl
  obtain ⟨vs,hc,hs,h1,hlo⟩:=zdm hm.one hl (hm.val x).1 (hm.val x).2;have hm':=hm.yc3 (T:=T) hlo hs h1;refine Goes.za6 (v:=.pointer (some ⟨w.heap.size,0,none⟩)) (w':=w.alloc (.cells vs.toArray T)) ?_ h (hm'.za0 hd (by simp [Sym.lo,St.new]) ?_)
  ·simp [execOp,ho,Instr.box,newVar,newRow,hc]
  ·simp only [Sm];exact ⟨w.heap.size,by simp,rfl⟩
 ·exact h.elim
theorem znq (hm:Mods X w0 st β a w) {o:Oper} {T:Nat} (ho:o.op = .alloc T) {ti:TI} (ht:TI.of P T=some ti) (hd : ∀ t,o.dst=some t→t<st.n) {K:St→Prop} (h:z7x st o.dst T ti K):Goes P X w0 o a w K:=by
 obtain ⟨i,u,z,hi,hu,hz,_,_,_,_,hzc⟩:=zat ht
 obtain ⟨h1,h⟩:=h
 have hm':=hm.yc3 (T:=T) (zjg _ ti.zero) (zjf _ _ _ ti.zero) (fun u hu=>by simpa using (List.all_eq_true.1 h1) u hu)
 have hcz:z.cells=ti.zero.toArray:=by rw [hzc]
 refine Goes.za6 (v:=.pointer (some ⟨w.heap.size,0,none⟩)) (w':=w.alloc (.cells ti.zero.toArray T)) ?_ h (hm'.za0 hd (by simp [Sym.lo,St.new]) ?_)
 ·simp [execOp,ho,Instr.alloc,zeroValue,typeInfo,hi,hz,newVar,newRow,hcz]
 ·simp only [Sm];exact ⟨w.heap.size,by simp,rfl⟩
theorem Mods.z08 (hm:Mods X w0 st β a w) (e sz:Nat):Mods X w0 (st.new (.arr e sz [])) (fun i=>if i=st.next then .slice none 0 0 else β i) a w:=by
 refine hm.new (Below.refl _ _) rfl trivial (fun b hb=>by simp [blk] at hb) ?_
 exact ⟨[],⟨by simpa using World.ownsRow_nil w 0 e sz,by simp [blk]⟩,by simp [zae],by simp⟩
theorem zsn (hm:Mods X w0 st β a w) {o:Oper} (ho:o.op = .assign (.const (.slice none 0 0))) (hd : ∀ t,o.dst=some t→t<st.n) {e sz:Nat} {K:St→Prop} (h:eNil st o.dst e sz K):Goes P X w0 o a w K:=by
 refine Goes.za6 (v:=.slice none 0 0) (w':=w) (by simp [execOp,ho,Act.eval]) h ((hm.z08 e sz).za0 hd (by simp [Sym.lo,St.new]) ?_)
 simp [Sm]
end
end Go.V
namespace Go.V
variable [Dr] [Ov]
open Go.RowKit
section
variable {P:Program} {X:Nat→Prop} {w0:Base} {st:St} {β:Nat→Value} {a:Act} {w w':World} {E:Nat→Prop}
theorem Sms.splice {l m:List Sym} {vs us:List Value} (h:Sms w E β l vs) (h':Sms w E β m us) (off:Nat):Sms w E β (splice l off m) (splice vs off us):=by
 unfold Go.V.splice
 have hl:=h'.length
 rw [hl]
 exact Sms.append (Sms.append (Sms.take off h) h') (Sms.drop _ h)
theorem Sym.zjj {m:Nat} {l r:List Sym} (h:Sym.los m l) (h':Sym.los m r) (off:Nat):Sym.los m (Go.V.splice l off r):=
 Sym.zmq (Sym.zmq (Sym.zok off h) h') (Sym.zlg _ h)
theorem zgt {α:Type} {l r:List α} {off:Nat} {x:α} (h:x∈splice l off r):x∈l∨x∈r:=by
 unfold splice at h
 rcases List.mem_append.1 h with h | h
 ·rcases List.mem_append.1 h with h | h
  ·exact .inl (List.mem_of_mem_take h)
  ·exact .inr h
 ·exact .inl (List.mem_of_mem_drop h)
theorem zdd {α:Type} {l u:List α} {off:Nat} (h:off+u.length≤l.length):(splice l off u).length=l.length:=by
 simp [splice];omega
theorem zmt {α:Type} {l u:List α} {off:Nat} (h:off+u.length≤l.length) (j:Nat) :
  (splice l off u)[j]?=if j<off then l[j]? else if j<off+u.length then u[j-off]? else l[j]?:=by
 unfold splice
 have h1:(l.take off).length=off:=by simp;omega
 by_cases a:j<off
 ·rw [if_pos a,List.append_assoc,List.getElem?_append_left (by omega),List.getElem?_take,if_pos a]
 ·rw [if_neg a,List.append_assoc,List.getElem?_append_right (by omega),h1]
  by_cases b:j<off+u.length
  ·rw [if_pos b,List.getElem?_append_left (by omega)]
  ·rw [if_neg b,List.getElem?_append_right (by omega),List.getElem?_drop]
   congr 1;omega
theorem zpv {α:Type} {l u:List α} {off k:Nat} (h:off+u.length≤k) (hk:k≤l.length):(splice l off u).take k=splice (l.take k) off u:=by
 apply List.ext_getElem?
 intro j
 have hl:(l.take k).length=k:=by simp;omega
 rw [zmt (by omega),List.getElem?_take,zmt (by omega),List.getElem?_take]
 by_cases a:j<k
 ·rw [if_pos a,if_pos a]
 ·rw [if_neg a,if_neg a,if_neg (by omega),if_neg (by omega)]
theorem flat_length {sz:Nat} : ∀ {rows:List (List D)},(∀ r∈rows,r.length=sz)→rows.flatten.length=rows.length*sz
 | [],_=>by simp
 | r::rs,h=>by
  have:=flat_length (rows:=rs) (fun q hq=>h q (by simp [hq]))
  simp [this,h r (by simp),Nat.add_mul];omega
theorem z09 {sz off:Nat} {ds:List D} : ∀ {rows:List (List D)} {i:Nat},i<rows.length→(∀ r∈rows,r.length=sz)→off+ds.length≤sz →
  (rows.set i (splice (rows.getD i []) off ds)).flatten=splice rows.flatten (i*sz+off) ds
 | [],i,hi,_,_=>by simp at hi
 | r::rs,0,hi,hr,ho=>by
  have h0:=hr r (by simp)
  simp only [List.set_cons_zero,List.flatten_cons,List.getD_cons_zero,Nat.zero_mul,Nat.zero_add,splice];rw [List.take_append_of_le_length (by omega),List.drop_append_of_le_length (by omega)]
  simp
 | r::rs,i+1,hi,hr,ho=>by
  have h0:=hr r (by simp)
  have ih:=z09 (rows:=rs) (i:=i) (by simpa using hi) (fun q hq=>hr q (by simp [hq])) ho
  simp only [List.set_cons_succ,List.flatten_cons,List.getD_cons_succ];rw [ih];simp only [splice];have e:(i+1)*sz+off=r.length+(i*sz+off):=by rw [Nat.add_mul];omega
  have e':(i+1)*sz+off+ds.length=r.length+(i*sz+off+ds.length):=by omega
  rw [e',e,List.take_length_add_append,List.drop_length_add_append];simp only [List.append_assoc]
theorem zae.drop {l:List D} {vs:List Value} (n:Nat) (h:zae w E l vs):zae w E (l.drop n) (vs.drop n):=by
 have:=zae.extract n (l.length) h
 rw [List.take_of_length_le (by simp),List.take_of_length_le (by have:=h.length;simp;omega)] at this
 exact this
theorem zae.take {l:List D} {vs:List Value} (n:Nat) (h:zae w E l vs):zae w E (l.take n) (vs.take n):=by
 simpa using zae.extract 0 n h
theorem zae.splice {l m:List D} {vs us:List Value} (h:zae w E l vs) (h':zae w E m us) (off:Nat):zae w E (splice l off m) (splice vs off us):=by
 unfold Go.V.splice
 have hl:=h'.length
 rw [hl]
 exact zae.append (zae.append (zae.take off h) h') (zae.drop _ h)
theorem zlk {b:Nat} {w w':World} {E:Nat→Prop} (hb:E b) (hs : ∀ c,c≠b→w'.heap[c]?=w.heap[c]?):Over w E w' E:=
 fun c _ he=>⟨he,hs c (fun e=>he (e▸hb))⟩
theorem zpw {t:Nat} {ti:TI} (ht:TI.of P t=some ti) {b off:Nat} {v:Value} {us:List Value} (hv:v.cells=us.toArray) (hlen:us.length=ti.size) {cur:List Value} {T:Nat}
  (hg:w.heap[b]?=some (.cells cur.toArray T (0,0))) (hfit:off+us.length≤cur.length) (h1 : ∀ u∈us,u.oneCell'=true) :
  (Instr.storeAt t (.pointer (some ⟨b,off,none⟩)) v).run P w = .ok () (w.setRow b (splice cur off us).toArray):=by
 obtain ⟨i,u,z,hi,hu,hz,_,hsz,_⟩:=zat ht
 have hr:=run_storeCells_at (P:=P) b off T us 0 cur.toArray w hg (by simpa using hfit) h1
 simp only [Nat.add_zero] at hr
 have e:¬(v.cells.size≠i.size):=by rw [hv,← hsz,← hlen];simp
 have e2:us.length=i.size:=by rw [← hsz,hlen]
 simp [Instr.storeAt,Instr.sureAddr,storeVar,run_sizeOf hi,hv,e2,hr,splice]
theorem znr (hm:Mods X w0 st β a w) {o:Oper} {t:Nat} {ad x:Operand} (ho:o.op = .store t ad x) {ti:TI} (ht:TI.of P t=some ti) (hd:o.dst=none) {K:St→Prop}
  (h:zlj st ti (st.val ad) (st.val x) K):Goes P X w0 o a w K:=by
 have hput : ∀ v,a.put o.dst v=a:=by intro v;rw [hd];rfl
 unfold zlj at h
 split at h
 ·rename_i id off had
  split at h
  ·rename_i T cells hob
   split at h
   ·rename_i l hl
    obtain ⟨hll,hfit,h⟩:=h;obtain ⟨us,hc,hs,h1,hlo⟩:=zdm hm.one hl (hm.val x).1 (hm.val x).2;obtain ⟨hid,hlc,b,vs,hb,hbase,hh,hsm,hv1⟩:=hm.obj hob;have hav:=(hm.val ad).2;rw [had] at hav;simp only [Sm] at hav;obtain ⟨b',hb',hav⟩:=hav;rw [hb] at hb';cases hb';have hus:=hs.length;have hvs:=hsm.length;have hrun:=zpw (P:=P) (w:=w) ht (b:=b) (off:=off) hc (by omega) hh (by omega) h1
    have hrow:=setRow_heap w b vs.toArray (splice vs off us).toArray T (0,0) hh;have hbE:Ex X β st.own b:=.inr ⟨id,_,zaw hob,by rw [hb];rfl⟩
    have hsame : ∀ c,c≠b→(w.setRow b (splice vs off us).toArray).heap[c]?=w.heap[c]?:=fun c hc=>setRow_other w b c _ hc
    have hov:=zlk hbE hsame;refine Goes.zy9 (β':=β) (w':=w.setRow b (splice vs off us).toArray) ?_ h ?_
    ·simp [execOp,ho,hav,hrun]
    ·rw [hput]
     refine hm.update hob (b:=b) (by rw [hb];rfl) hbase hsame (by simp) rfl rfl rfl (fun _=>by simp) (Sym.zjj hlc hlo off) ?_
     exact ⟨b,_,hb,hbase,hrow,Sms.over (m:=st.next) (fun _ _=>rfl) hov (Sym.zjj hlc hlo off) (Sms.splice hsm hs off),fun u hu=>(zgt hu).elim (hv1 u) (h1 u)⟩
   ·exact h.elim
  ·exact h.elim
 ·rename_i id sz i off had
  split at h
  ·rename_i T sz' rows hob
   split at h
   ·rename_i l hl
    split at h
    ·rename_i ds hds
     obtain ⟨rfl,hi,hll,hfit,h⟩:=h;obtain ⟨us,hc,hs,h1,hlo⟩:=zdm hm.one hl (hm.val x).1 (hm.val x).2;have hrc:=zje hds hs h1;obtain ⟨hid,hlc,xs,hx,hxc,hsz⟩:=hm.obj hob;have hav:=(hm.val ad).2;rw [had] at hav;simp only [Sm] at hav;obtain ⟨b,n,c,hb,hav⟩:=hav;rcases hx.1.2 with ⟨hn,h0⟩ | ⟨g,cap,cur,hg,h00,hh,hncap,hcm,hcs,htake⟩
     ·omega
     ·have hbase:=(hx.2 g (by rw [hg];rfl)).1
      have hones:=(hx.2 g (by rw [hg];rfl)).2 _ _ _ hh
      have hbg:b=g:=by rw [hg] at hb;simp at hb;exact hb.1.symm
      rw [hbg] at hav;have hus:us.length=ds.length:=hrc.length
      have hrow:rows.getD i []=rows[i]:=by simp [List.getD_eq_getElem?_getD,hi]
      have hrl:(rows.getD i []).length=sz:=by rw [hrow];exact hsz _ (List.getElem_mem hi)
      have hxl:xs.length=rows.length*sz:=hx.1.1
      have hin:i*sz+off+us.length≤rows.length*sz:=by
       have:(i+1)*sz≤rows.length*sz:=Nat.mul_le_mul_right _ hi
       rw [Nat.add_mul] at this;omega
      have hcap:rows.length*sz≤cap*sz:=Nat.mul_le_mul_right _ hncap
      have hcur:cur.toList.toArray=cur:=by simp
      have hh':w.heap[g]?=some (.cells cur.toList.toArray T (0,0)):=by rw [hcur];exact hh
      have hcl:cur.toList.length=cap*sz:=by simpa using hcs
      have hrun:=zpw (P:=P) (w:=w) ht (b:=g) (off:=i*sz+off) hc (by omega) hh' (by omega) h1
      have hbE:Ex X β st.own g:=.inr ⟨id,_,zaw hob,by rw [hg];rfl⟩
      have hsame : ∀ c,c≠g→(w.setRow g (splice cur.toList (i*sz+off) us).toArray).heap[c]?=w.heap[c]?:=fun c hc=>setRow_other w g c _ hc
      have hov:=zlk hbE hsame;have hrowh:=setRow_heap w g cur (splice cur.toList (i*sz+off) us).toArray T (0,0) hh
      -- the data
      have hflat:(rows.set i (splice (rows.getD i []) off ds)).flatten=splice rows.flatten (i*sz+off) ds:=z09 hi hsz (by omega)
      refine Goes.zy9 (β':=β) (w':=w.setRow g (splice cur.toList (i*sz+off) us).toArray) ?_ h ?_
      ·simp [execOp,ho,hav,hrun]
      ·rw [hput]
       refine hm.update hob (b:=g) (by rw [hg];rfl) hbase hsame (by simp) rfl rfl rfl (fun _=>by simp) trivial ?_
       refine ⟨splice xs (i*sz+off) us,⟨⟨?_,.inr ⟨g,cap,_,?_,h00,hrowh,?_,hcm,?_,?_⟩⟩,fun b2 hb2=>⟨(hx.2 b2 hb2).1,by
         rw [hg] at hb2;simp [blk] at hb2;subst hb2;exact zcv.of hrowh (fun u hu=>(zgt (by simpa using hu)).elim (hones u) (h1 u))⟩⟩,?_,?_⟩
       ·rw [zdd (by omega)];simpa using hxl
       ·rw [hg];simp
       ·simpa using hncap
       ·simp only [List.size_toArray];rw [zdd (by omega)];exact hcl
       ·simp only [List.length_set]
        rw [zpv (by omega) (by omega),htake]
       ·rw [hflat]
        exact zae.over hov _ _ (zae.splice hxc hrc _)
       ·intro r hr
        rcases List.mem_or_eq_of_mem_set hr with hr | rfl
        ·exact hsz r hr
        ·rw [zdd (by omega)];exact hrl
    ·exact h.elim
   ·exact h.elim
  ·exact h.elim
 ·exact h.elim
end
end Go.V
namespace Go.V
variable [Dr] [Ov]
open Go.RowKit
def zza (x:D) (i s j o:Nat):Sym:=match x with
 | .sl l=>if j+o≤l.length∧rowLen l=s then .d (.sl ((l.drop j).take o)) else .aS i s j o
 | _=>.aS i s j o
mutual
def thaw (id:Nat) (rows:D):Sym→Sym
 | .ar i=>if i=id then .d rows else .ar i
 | .agg l=>zlf (zmu id rows l)
 | .tup l=>.tup (zmu id rows l)
 | .d x=>.d x
 | .nils=>.nils
 | .bp i o=>.bp i o
 | .ap i s j o=>.ap i s j o
 | .aS i s j o=>if i=id then zza rows i s j o else .aS i s j o
 | .av i s j o=>if i=id then zza rows i s j o else .av i s j o
 | .yd i=>.yd i
 | .mp i=>if i=id then .d rows else .mp i
 | .fn f l=>.fn f l
 | .junk=>.junk
def zmu (id:Nat) (rows:D):List Sym→List Sym
 | []=>[]
 | s::r=>thaw id rows s::zmu id rows r
end
def zt8 (id:Nat) (rows:D):Obj'→Obj'
 | .box T cells=>.box T (zmu id rows cells)
 | .arr T sz rs=>.arr T sz rs
 | .map T rs=>.map T rs
 | .raw k cells=>.raw k (zmu id rows cells)
def zcw (id:Nat) (rows:D):List (Nat×Sym)→List (Nat×Sym)
 | []=>[]
 | (t,s)::r=>(t,thaw id rows s)::zcw id rows r
def zcl (id:Nat) (rows:D):List (Nat×Obj')→List (Nat×Obj')
 | []=>[]
 | (t,o)::r=>if t=id then zcl id rows r else (t,zt8 id rows o)::zcl id rows r
def St.frz (st:St) (id:Nat):St:=
 match st.look id with
 | some (.arr _ _ rows)=>{st with slots:=zcw id (.sl rows) st.slots,own:=zcl id (.sl rows) st.own}
 | some (.map _ rows)=>{st with slots:=zcw id (.mp rows) st.slots,own:=zcl id (.mp rows) st.own}
 | _=>st
def St.frzs (st:St):List Nat→St
 | []=>st
 | id::r=>(st.frz id).frzs r
section
variable {P:Program} {X:Nat→Prop} {w0:Base} {st:St} {β:Nat→Value} {a:Act} {w w':World} {E:Nat→Prop} {m:Nat} {id:Nat} {rows:D}
theorem z3y {N:Nat→Prop} {T sz:Nat} {rows:List (List D)} {v:Value} {xs:List Value} {E E':Nat→Prop} (hx:Owns N w T sz v rows.length xs) (hc:zae w E rows.flatten xs) (hsz : ∀ r∈rows,r.length=sz)
  (hE : ∀ b,blk v=some b→¬ E' b) (hov:Over w E w E'):R w E' (.sl rows) v:=by
 simp only [R]
 rcases hx.1.2 with ⟨hn,h0⟩ | ⟨g,cap,cur,hg,hb,hh,hcap,hmax,_⟩
 ·refine ⟨none,0,by rw [hn,h0],by omega,Nat.zero_le _,fun _=>rfl,fun h=>absurd (List.eq_nil_of_length_eq_zero h0) h⟩
 ·refine ⟨_,cap,hg,hcap,hmax,by simp,fun hne=>⟨g,0,rfl,hE g (by rw [hg];rfl),(Array.getElem?_eq_some_iff.1 hh).1,?_⟩⟩
  have hrl:rowLen rows=sz:=by
   cases rows with
   | nil=>exact absurd rfl hne
   | cons r rs=>exact hsz r (by simp)
  rw [hrl];refine zb2.of_flat hsz (Rrow.of_cells (zae.over hov _ _ hc) fun j u hj=>?_)
  rw [Nat.zero_add];exact zps hx.1 hg hj
theorem z1a {x:D} {i s j o:Nat} (h:Sym.lo m (.aS i s j o)):Sym.lo m (zza x i s j o):=by
 unfold zza
 split
 ·split
  ·simp [Sym.lo]
  ·exact h
 ·exact h
theorem z1b {E':Nat→Prop} {x:D} {i s j o:Nat} {v:Value} (hr:R w E' x (β i)) (h:Sm w E β (.aS i s j o) v):Sm w E' β (zza x i s j o) v:=by
 unfold zza
 split
 ·rename_i l
  split
  ·rename_i hc
   obtain ⟨hc1,hc2⟩:=hc;simp only [Sm,R] at h hr ⊢;obtain ⟨b,mm,c,k,hβ,rfl,h1,h2⟩:=h;obtain ⟨a',cap,e1,e2,e3,e4,e5⟩:=hr;rw [hβ] at e1;simp only [Value.slice.injEq] at e1;obtain ⟨rfl,rfl,rfl⟩:=e1;have hlen:((l.drop j).take o).length=o:=by simp;omega
   refine ⟨_,k,by rw [hlen],by rw [hlen];exact h1,h2,by simp,fun hne=>?_⟩
   have hl0:l≠[]:=by intro e;subst e;simp at hne
   obtain ⟨b',off,q1,q2,q3,q4⟩:=e5 hl0;simp only [Option.some.injEq,Addr.mk.injEq] at q1;obtain ⟨rfl,rfl,_⟩:=q1;refine ⟨b,j*s,rfl,q2,q3,?_⟩
   have q5:=zb2.take o (zb2.drop j q4);rw [Nat.zero_add,hc2] at q5;have hrl:rowLen ((l.drop j).take o)=s:=by
    cases hd:(l.drop j).take o with
    | nil=>exact absurd hd hne
    | cons r rs=>
     rw [hd] at q5;exact zb2.length q5 r (by simp)
   rw [hrl];exact q5
  ·simpa [Sm] using h
 ·simpa [Sm] using h
mutual
theorem z7y : ∀ {s:Sym},Sym.lo m s→Sym.lo m (thaw id rows s)
 | .ar i,h=>by simp only [thaw];split <;> simp_all [Sym.lo]
 | .agg l,h=>by simp only [thaw,Sym.lo] at h ⊢;exact zlh (zll h)
 | .tup l,h=>by simp only [thaw,Sym.lo] at h ⊢;exact zll h
 | .d x,h=>by simpa [thaw] using h
 | .nils,h=>by simpa [thaw] using h
 | .bp i o,h=>by simpa [thaw] using h
 | .ap i s j o,h=>by simpa [thaw] using h
 | .aS i s j o,h=>by simp only [thaw];split;exact z1a h;exact h
 | .av i s j o,h=>by simp only [thaw];split;exact z1a (by simpa [Sym.lo] using h);exact h
 | .yd i,h=>by simpa [thaw] using h
 | .mp i,h=>by simp only [thaw];split <;> simp_all [Sym.lo]
 | .fn f l,h=>by simpa [thaw] using h
 | .junk,h=>by simpa [thaw] using h
theorem zll : ∀ {l:List Sym},Sym.los m l→Sym.los m (zmu id rows l)
 | [],h=>by simpa [zmu] using h
 | s::r,h=>by simp only [zmu,Sym.los] at h ⊢;exact ⟨z7y h.1,zll h.2⟩
end
mutual
theorem z7z {E':Nat→Prop} (hr:R w E' rows (β id)) (hov:Over w E w E') : ∀ {s:Sym} {v:Value},Sm w E β s v→Sm w E' β (thaw id rows s) v
 | .ar i,v,h=>by
  simp only [thaw];split
  ·rename_i e;subst e;simp only [Sm] at h ⊢;subst h;exact hr
  ·simpa [Sm] using h
 | .agg l,v,h=>by
  simp only [thaw,Sm] at h ⊢;obtain ⟨vs,rfl,h1,h2⟩:=h;exact zfk (zlm hr hov h1) h2
 | .tup l,v,h=>by
  simp only [thaw,Sm] at h ⊢;obtain ⟨vs,rfl,h1⟩:=h;exact ⟨vs,rfl,zlm hr hov h1⟩
 | .d x,v,h=>by simp only [thaw,Sm] at h ⊢;exact R.over hov _ _ h
 | .nils,v,h=>by simpa [thaw,Sm] using h
 | .bp i o,v,h=>by simpa [thaw,Sm] using h
 | .ap i s j o,v,h=>by simpa [thaw,Sm] using h
 | .aS i s j o,v,h=>by
  simp only [thaw];split
  ·rename_i e;subst e;exact z1b hr h
  ·simpa [Sm] using h
 | .av i s j o,v,h=>by
  simp only [thaw];split
  ·rename_i e;subst e
   refine z1b (E:=E) hr ?_
   simp only [Sm] at h ⊢;obtain ⟨b,c,h1,h2,h3,h4⟩:=h;exact ⟨b,c,c,c-j,h1,h2,by omega,by omega⟩
  ·simpa [Sm] using h
 | .yd i,v,h=>by simpa [thaw,Sm] using h
 | .mp i,v,h=>by
  simp only [thaw];split
  ·rename_i e;subst e;simp only [Sm] at h ⊢;subst h;exact hr
  ·simpa [Sm] using h
 | .fn f l,v,h=>by
  simp only [thaw,Sm] at h ⊢;obtain ⟨vs,rfl,h1⟩:=h;exact ⟨vs,rfl,zhg hov h1⟩
 | .junk,v,h=>by simp [thaw,Sm]
theorem zlm {E':Nat→Prop} (hr:R w E' rows (β id)) (hov:Over w E w E') : ∀ {l:List Sym} {vs:List Value},Sms w E β l vs→Sms w E' β (zmu id rows l) vs
 | [],vs,h=>by simpa [zmu,Sms] using h
 | s::r,vs,h=>by
  simp only [zmu,Sms] at h ⊢;obtain ⟨v,vs',rfl,h1,h2⟩:=h;exact ⟨v,vs',rfl,z7z hr hov h1,zlm hr hov h2⟩
theorem zmv {E':Nat→Prop} (hov:Over w E w E') : ∀ {s:Sym} {v:Value},Sm w E β s v→Sm w E' β s v
 | .ar i,v,h=>by simpa [Sm] using h
 | .agg l,v,h=>by
  simp only [Sm] at h ⊢;obtain ⟨vs,rfl,h1,h2⟩:=h;exact ⟨vs,rfl,zhg hov h1,h2⟩
 | .tup l,v,h=>by
  simp only [Sm] at h ⊢;obtain ⟨vs,rfl,h1⟩:=h;exact ⟨vs,rfl,zhg hov h1⟩
 | .d x,v,h=>by simp only [Sm] at h ⊢;exact R.over hov _ _ h
 | .nils,v,h=>by simpa [Sm] using h
 | .bp i o,v,h=>by simpa [Sm] using h
 | .ap i s j o,v,h=>by simpa [Sm] using h
 | .aS i s j o,v,h=>by simpa [Sm] using h
 | .av i s j o,v,h=>by simpa [Sm] using h
 | .yd i,v,h=>by simpa [Sm] using h
 | .mp i,v,h=>by simpa [Sm] using h
 | .fn f l,v,h=>by
  simp only [Sm] at h ⊢;obtain ⟨vs,rfl,h1⟩:=h;exact ⟨vs,rfl,zhg hov h1⟩
 | .junk,v,h=>by simp [Sm]
theorem zhg {E':Nat→Prop} (hov:Over w E w E') : ∀ {l:List Sym} {vs:List Value},Sms w E β l vs→Sms w E' β l vs
 | [],vs,h=>by simpa [Sms] using h
 | s::r,vs,h=>by
  simp only [Sms] at h ⊢;obtain ⟨v,vs',rfl,h1,h2⟩:=h;exact ⟨v,vs',rfl,zmv hov h1,zhg hov h2⟩
end
theorem zj0 : ∀ {l:List (Nat×Sym)} {t:Nat} {s:Sym},zab (zcw id rows l) t=some s→∃ s',zab l t=some s'∧s=thaw id rows s'
 | [],t,s,h=>by simp [zcw,zab] at h
 | (k,u)::r,t,s,h=>by
  simp only [zcw,zab] at h ⊢;split at h
  ·rename_i e;simp at h;exact ⟨u,by simp [e],h.symm⟩
  ·rename_i e;simp only [e,if_false];exact zj0 h
theorem zb6 : ∀ {l:List (Nat×Obj')} {i:Nat} {o:Obj'},(i,o)∈zcl id rows l→i≠id∧∃ o',(i,o')∈l∧o=zt8 id rows o'
 | [],i,o,h=>by simp [zcl] at h
 | (k,u)::r,i,o,h=>by
  simp only [zcl] at h;split at h
  ·obtain ⟨h1,o',h2,h3⟩:=zb6 h;exact ⟨h1,o',List.mem_cons_of_mem _ h2,h3⟩
  ·rename_i hk
   rcases List.mem_cons.1 h with e | h
   ·cases e;exact ⟨hk,u,by simp,rfl⟩
   ·obtain ⟨h1,o',h2,h3⟩:=zb6 h;exact ⟨h1,o',List.mem_cons_of_mem _ h2,h3⟩
theorem zhh : ∀ {l:List (Nat×Obj')},(l.map (·.1)).Nodup→((zcl id rows l).map (·.1)).Nodup
 | [],_=>by simp [zcl]
 | (k,u)::r,hn=>by
  simp only [List.map_cons,List.nodup_cons] at hn;simp only [zcl];split
  ·exact zhh hn.2
  ·simp only [List.map_cons,List.nodup_cons]
   refine ⟨fun h=>hn.1 ?_,zhh hn.2⟩
   obtain ⟨⟨i,o⟩,hm,e⟩:=List.mem_map.1 h;obtain ⟨_,o',h2,_⟩:=zb6 hm;exact List.mem_map.2 ⟨(i,o'),h2,e⟩
theorem Mods.thaw (hm:Mods X w0 st β a w) {id:Nat} {o:Obj'} {x:D} (hob:st.look id=some o) (hr:R w (Ex X β (zcl id x st.own)) x (β id)) :
  Mods X w0 {st with slots:=zcw id x st.slots,own:=zcl id x st.own} β a w:=by
 have hmem:=zaw hob
 have hov:Over w (Ex X β st.own) w (Ex X β (zcl id x st.own)):=Over.less fun b hb=>hb.elim .inl fun ⟨i,o,ho,e⟩=>by
  obtain ⟨_,o',h2,_⟩:=zb6 ho;exact .inr ⟨i,o',h2,e⟩
 refine ⟨hm.outer,hm.still,hm.one,hm.defers,hm.size,hm.below,zhh hm.keys,?_,?_,?_⟩
 ·intro i o ho
  obtain ⟨hne,o',h2,rfl⟩:=zb6 ho;obtain ⟨h3,h4,h5⟩:=hm.own i o' h2;refine ⟨h3,?_,?_⟩
  ·cases o' with
   | box T' cells=>exact zll h4
   | arr=>trivial
   | map=>trivial
   | raw k cells=>exact zll h4
  ·cases o' with
   | box T' cells=>
    obtain ⟨b,vs,q1,q2,q3,q4,q5⟩:=h5;exact ⟨b,vs,q1,q2,q3,zlm hr hov q4,q5⟩
   | arr T' sz' rs=>
    obtain ⟨ys,q1,q2,q3⟩:=h5;exact ⟨ys,q1,zae.over hov _ _ q2,q3⟩
   | map T' rs=>
    obtain ⟨r,es,clock,q1,q2,q3,q4⟩:=h5;exact ⟨r,es,clock,q1,q2,q3,zci.over hov _ _ q4⟩
   | raw k cells=>
    obtain ⟨b,fn,D,vs,q1,q2,q3,q4⟩:=h5;exact ⟨b,fn,D,vs,q1,q2,q3,zlm hr hov q4⟩
 ·intro i o j o' b h1 h2 e1 e2
  obtain ⟨_,o1,h1',_⟩:=zb6 h1;obtain ⟨_,o2,h2',_⟩:=zb6 h2;exact hm.apart i o1 j o2 b h1' h2' e1 e2
 ·intro t s ht
  obtain ⟨s',h1,rfl⟩:=zj0 ht;have:=hm.slots t s' h1
  exact ⟨z7y this.1,z7z hr hov this.2⟩
theorem Mods.frz (hm:Mods X w0 st β a w) (id:Nat):Mods X w0 (st.frz id) β a w:=by
 unfold St.frz
 split
 ·rename_i T sz rows hob
  have hmem:=zaw hob;obtain ⟨hid,_,xs,hx,hc,hsz⟩:=hm.obj hob;have hov:Over w (Ex X β st.own) w (Ex X β (zcl id (.sl rows) st.own)):=Over.less fun b hb=>hb.elim .inl fun ⟨i,o,ho,e⟩=>by
   obtain ⟨_,o',h2,_⟩:=zb6 ho;exact .inr ⟨i,o',h2,e⟩
  refine hm.thaw hob (z3y hx hc hsz (fun b hb he=>?_) hov)
  rcases he with he | ⟨i,o,ho,e⟩
  ·exact hm.outer.1 b he (hx.2 b hb).1
  ·obtain ⟨hne,o',h2,_⟩:=zb6 ho
   exact hne (hm.apart i o' id _ b h2 hmem e hb)
 ·rename_i T rows hob
  have hmem:=zaw hob;obtain ⟨hid,_,r,es,clock,hb,hN,hh,hents⟩:=hm.obj hob;have hov:Over w (Ex X β st.own) w (Ex X β (zcl id (.mp rows) st.own)):=Over.less fun b hb=>hb.elim .inl fun ⟨i,o,ho,e⟩=>by
   obtain ⟨_,o',h2,_⟩:=zb6 ho;exact .inr ⟨i,o',h2,e⟩
  refine hm.thaw hob ?_
  simp only [R];refine ⟨r,es,clock,hb,fun he=>?_,(Array.getElem?_eq_some_iff.1 hh).1,hh,zci.over hov _ _ hents⟩
  rcases he with he | ⟨i,o,ho,e⟩
  ·exact hm.outer.1 r he hN
  ·obtain ⟨hne,o',h2,_⟩:=zb6 ho
   exact hne (hm.apart i o' id _ r h2 hmem e (by rw [hb];rfl))
 ·exact hm
theorem Mods.frzs : ∀ {l:List Nat} {st:St},Mods X w0 st β a w→Mods X w0 (st.frzs l) β a w
 | [],st,hm=>hm
 | id::r,st,hm=>Mods.frzs (l:=r) (st:=st.frz id) (hm.frz id)
end
mutual
def zbf (id:Nat):Sym→Sym
 | .ar i=>if i=id then .junk else .ar i
 | .ap i s j o=>if i=id then .junk else .ap i s j o
 | .aS i s j o=>if i=id then .junk else .aS i s j o
 | .av i s j o=>if i=id then .junk else .av i s j o
 | .yd i=>if i=id then .junk else .yd i
 | .bp i o=>if i=id then .junk else .bp i o
 | .mp i=>if i=id then .junk else .mp i
 | .agg l=>.agg (zdx id l)
 | .tup l=>.tup (zdx id l)
 | .fn f l=>.fn f (zdx id l)
 | .d x=>.d x
 | .nils=>.nils
 | .junk=>.junk
def zdx (id:Nat):List Sym→List Sym
 | []=>[]
 | s::r=>zbf id s::zdx id r
end
def zem (id:Nat):Obj'→Obj'
 | .box T cells=>.box T (zdx id cells)
 | .arr T sz rs=>.arr T sz rs
 | .map T rs=>.map T rs
 | .raw k cells=>.raw k (zdx id cells)
def zb4 (id:Nat):List (Nat×Sym)→List (Nat×Sym)
 | []=>[]
 | (t,s)::r=>(t,zbf id s)::zb4 id r
def zca (id:Nat) (o':Obj'):List (Nat×Obj')→List (Nat×Obj')
 | []=>[]
 | (t,o)::r=>(if t=id then (t,o') else (t,zem id o))::zca id o' r
def St.renew (st:St) (id:Nat) (o:Obj'):St:={st with moved:=id::st.moved,slots:=zb4 id st.slots,own:=zca id o st.own}
section
variable {P:Program} {X:Nat→Prop} {w0:Base} {st:St} {β:Nat→Value} {a:Act} {w w':World} {E:Nat→Prop} {m:Nat} {id:Nat}
mutual
theorem z1c : ∀ {s:Sym},Sym.lo m s→Sym.lo m (zbf id s)
 | .ar i,h=>by simp only [zbf];split <;> simp_all [Sym.lo]
 | .ap i s j o,h=>by simp only [zbf];split <;> simp_all [Sym.lo]
 | .aS i s j o,h=>by simp only [zbf];split <;> simp_all [Sym.lo]
 | .av i s j o,h=>by simp only [zbf];split <;> simp_all [Sym.lo]
 | .yd i,h=>by simp only [zbf];split <;> simp_all [Sym.lo]
 | .bp i o,h=>by simp only [zbf];split <;> simp_all [Sym.lo]
 | .mp i,h=>by simp only [zbf];split <;> simp_all [Sym.lo]
 | .agg l,h=>by simp only [zbf,Sym.lo] at h ⊢;exact zgu h
 | .tup l,h=>by simp only [zbf,Sym.lo] at h ⊢;exact zgu h
 | .fn f l,h=>by simp only [zbf,Sym.lo] at h ⊢;exact zgu h
 | .d x,h=>by simpa [zbf] using h
 | .nils,h=>by simpa [zbf] using h
 | .junk,h=>by simpa [zbf] using h
theorem zgu : ∀ {l:List Sym},Sym.los m l→Sym.los m (zdx id l)
 | [],h=>by simpa [zdx] using h
 | s::r,h=>by simp only [zdx,Sym.los] at h ⊢;exact ⟨z1c h.1,zgu h.2⟩
end
mutual
theorem z1d {E':Nat→Prop} {β':Nat→Value} (hβ : ∀ i,i≠id→β' i=β i) (hov:Over w E w' E') : ∀ {s:Sym} {v:Value},Sm w E β s v→Sm w' E' β' (zbf id s) v
 | .ar i,v,h=>by
  simp only [zbf];split
  ·simp [Sm]
  ·rename_i hi;simp only [Sm] at h ⊢;rw [hβ i hi];exact h
 | .ap i s j o,v,h=>by
  simp only [zbf];split
  ·simp [Sm]
  ·rename_i hi;simp only [Sm] at h ⊢;rw [hβ i hi];exact h
 | .aS i s j o,v,h=>by
  simp only [zbf];split
  ·simp [Sm]
  ·rename_i hi;simp only [Sm] at h ⊢;rw [hβ i hi];exact h
 | .av i s j o,v,h=>by
  simp only [zbf];split
  ·simp [Sm]
  ·rename_i hi;simp only [Sm] at h ⊢;rw [hβ i hi];exact h
 | .yd i,v,h=>by
  simp only [zbf];split
  ·simp [Sm]
  ·rename_i hi;simp only [Sm] at h ⊢;rw [hβ i hi];exact h
 | .bp i o,v,h=>by
  simp only [zbf];split
  ·simp [Sm]
  ·rename_i hi;simp only [Sm] at h ⊢;rw [hβ i hi];exact h
 | .mp i,v,h=>by
  simp only [zbf];split
  ·simp [Sm]
  ·rename_i hi;simp only [Sm] at h ⊢;rw [hβ i hi];exact h
 | .agg l,v,h=>by
  simp only [zbf,Sm] at h ⊢;obtain ⟨vs,rfl,h1,h2⟩:=h;exact ⟨vs,rfl,zgv hβ hov h1,h2⟩
 | .tup l,v,h=>by
  simp only [zbf,Sm] at h ⊢;obtain ⟨vs,rfl,h1⟩:=h;exact ⟨vs,rfl,zgv hβ hov h1⟩
 | .fn f l,v,h=>by
  simp only [zbf,Sm] at h ⊢;obtain ⟨vs,rfl,h1⟩:=h;exact ⟨vs,rfl,zgv hβ hov h1⟩
 | .d x,v,h=>by simp only [zbf,Sm] at h ⊢;exact R.over hov _ _ h
 | .nils,v,h=>by simpa [zbf,Sm] using h
 | .junk,v,h=>by simp [zbf,Sm]
theorem zgv {E':Nat→Prop} {β':Nat→Value} (hβ : ∀ i,i≠id→β' i=β i) (hov:Over w E w' E') : ∀ {l:List Sym} {vs:List Value},Sms w E β l vs→Sms w' E' β' (zdx id l) vs
 | [],vs,h=>by simpa [zdx,Sms] using h
 | s::r,vs,h=>by
  simp only [zdx,Sms] at h ⊢;obtain ⟨v,vs',rfl,h1,h2⟩:=h;exact ⟨v,vs',rfl,z1d hβ hov h1,zgv hβ hov h2⟩
end
theorem zim : ∀ {l:List (Nat×Sym)} {t:Nat} {s:Sym},zab (zb4 id l) t=some s→∃ s',zab l t=some s'∧s=zbf id s'
 | [],t,s,h=>by simp [zb4,zab] at h
 | (k,u)::r,t,s,h=>by
  simp only [zb4,zab] at h ⊢;split at h
  ·rename_i e;simp at h;exact ⟨u,by simp [e],h.symm⟩
  ·rename_i e;simp only [e,if_false];exact zim h
theorem zet {o':Obj'} : ∀ {l:List (Nat×Obj')} {i:Nat} {x:Obj'},(i,x)∈zca id o' l→(i=id∧x=o'∧∃ y,(i,y)∈l)∨(i≠id∧∃ y,(i,y)∈l∧x=zem id y)
 | [],i,x,h=>by simp [zca] at h
 | (k,u)::r,i,x,h=>by
  simp only [zca] at h;rcases List.mem_cons.1 h with e | h
  ·split at e
   ·rename_i hk;cases e;exact .inl ⟨hk,rfl,u,by simp⟩
   ·rename_i hk;cases e;exact .inr ⟨hk,u,by simp,rfl⟩
  ·rcases zet h with ⟨h1,h2,y,h3⟩ | ⟨h1,y,h2,h3⟩
   ·exact .inl ⟨h1,h2,y,List.mem_cons_of_mem _ h3⟩
   ·exact .inr ⟨h1,y,List.mem_cons_of_mem _ h2,h3⟩
theorem zln {o':Obj'} : ∀ (l:List (Nat×Obj')),(zca id o' l).map (·.1)=l.map (·.1)
 | []=>rfl
 | (k,u)::r=>by
  simp only [zca,List.map_cons,zln r];congr 1
  split <;> rfl
theorem Mods.renew (hm:Mods X w0 st β a w) {o o':Obj'} (ho:st.look id=some o) {v:Value} (hv1:v.oneCell'=true)
  (hbelow:Kept w0 w') (hsame : ∀ c,c<w.heap.size→some c≠blk (β id)→w'.heap[c]?=w.heap[c]?)
  (hnew : ∀ b,blk v=some b→blk (β id)=some b∨w.heap.size≤b) (hlo:o'.lo st.next)
  (hok : ∀ E:Nat→Prop,Over w (Ex X β st.own) w' E→(∀ b,blk v=some b→E b)→zc9 w' w0.may E (fun i=>if i=id then v else β i) id o') :
  Mods X w0 (st.renew id o') (fun i=>if i=id then v else β i) a w':=by
 have hmem:=zaw ho
 have hid:=(hm.own id o hmem).1
 have hβ : ∀ i,i≠id→(fun i=>if i=id then v else β i) i=β i:=by intro i h;simp [h]
 have hov:Over w (Ex X β st.own) w' (Ex X (fun i=>if i=id then v else β i) (zca id o' st.own)):=by
  intro c hc he;have hnb:some c≠blk (β id):=fun e=>he (.inr ⟨id,o,hmem,e.symm⟩)
  refine ⟨?_,hsame c hc hnb⟩
  rintro (h | ⟨i,x,hx,h⟩)
  ·exact he (.inl h)
  ·rcases zet hx with ⟨rfl,_,_⟩ | ⟨hne,y,hy,_⟩
   ·simp at h
    rcases hnew c h with h | h
    ·exact hnb h.symm
    ·omega
   ·rw [hβ i hne] at h
    exact he (.inr ⟨i,y,hy,h⟩)
 have sep : ∀ {i x c},i≠id→(i,x)∈st.own→blk (β i)=some c→blk v=some c→False:=by
  intro i x c hne hx h1 h2;rcases hnew c h2 with h | h
  ·exact hne (hm.apart i x id o c hx hmem h1 h)
  ·have:=hm.lt c (.inr ⟨i,x,hx,h1⟩);omega
 refine ⟨hm.outer,⟨hm.still.1,fun i h1 h2=>(hβ i (fun e=>h2 (by subst e;exact List.mem_cons_self))).trans (hm.still.2 i h1 (fun h=>h2 (List.mem_cons_of_mem _ h)))⟩,fun i=>by split;exact hv1;exact hm.one i,hm.defers,hm.size,hbelow,?_,?_,?_,?_⟩
 ·show ((zca id o' st.own).map (·.1)).Nodup
  rw [zln];exact hm.keys
 ·intro i x hx
  rcases zet hx with ⟨rfl,rfl,_⟩ | ⟨hne,y,hy,rfl⟩
  ·exact ⟨hid,hlo,hok _ hov (fun b hb=>.inr ⟨i,x,hx,by simpa using hb⟩)⟩
  ·obtain ⟨h1,h2,h3⟩:=hm.own i y hy
   have hb : ∀ b,blk (β i)=some b→w'.heap[b]?=w.heap[b]?:=fun c hc=>hsame c (hm.lt c (.inr ⟨i,y,hy,hc⟩)) (fun e=>hne (hm.apart i y id o c hy hmem hc e.symm))
   cases y with
   | box T cells=>
    obtain ⟨b,vs,q1,q2,q3,q4,q5⟩:=h3;exact ⟨h1,zgu h2,b,vs,by rw [hβ i hne];exact q1,q2,by rw [hb b (by rw [q1];rfl)];exact q3,zgv hβ hov q4,q5⟩
   | arr T sz rows=>
    obtain ⟨xs,q1,q2,q3⟩:=h3;exact ⟨h1,trivial,xs,by rw [hβ i hne];exact Owns.same q1 hb,zae.over hov _ _ q2,q3⟩
   | map T rows=>
    obtain ⟨r,es,clock,q1,q2,q3,q4⟩:=h3;exact ⟨h1,trivial,r,es,clock,by rw [hβ i hne];exact q1,q2,by rw [hb r (by rw [q1];rfl)];exact q3,zci.over hov _ _ q4⟩
   | raw k cells=>
    obtain ⟨b,fn,D,vs,q1,q2,q3,q4⟩:=h3;exact ⟨h1,zgu h2,b,fn,D,vs,by rw [hβ i hne];exact q1,q2,by rw [hb b (by rw [q1];rfl)];exact q3,zgv hβ hov q4⟩
 ·intro i x j y c hx hy e1 e2
  rcases zet hx with ⟨rfl,_,_⟩ | ⟨hne,x',hx',_⟩ <;> rcases zet hy with ⟨rfl,_,_⟩ | ⟨hne',y',hy',_⟩
  ·rfl
  ·simp at e1
   rw [if_neg hne'] at e2;exact (sep hne' hy' e2 e1).elim
  ·simp at e2
   rw [if_neg hne] at e1;exact (sep hne hx' e1 e2).elim
  ·rw [if_neg hne] at e1
   rw [if_neg hne'] at e2;exact hm.apart i x' j y' c hx' hy' e1 e2
 ·intro t s ht
  obtain ⟨s',h1,rfl⟩:=zim ht;have:=hm.slots t s' h1
  exact ⟨z1c this.1,z1d hβ hov this.2⟩
end
end Go.V
namespace Go.V
variable [Dr] [Ov]
open Go.RowKit
def zzb (fs:List (Nat×Nat×Bool)):List Sym→List (Nat×Sym)→Option (List Sym)
 | cells,[]=>some cells
 | cells,(i,s)::r=>match fs[i]?,zbd s with
  | some (off,sz,_),some l=>if l.length=sz∧off+l.length≤cells.length then zzb fs (splice cells off l) r else none
  | _,_=>none
def isNil:Sym→Bool
 | .nils=>true
 | _=>false
def z8a:List Sym→Bool
 | []=>false
 | s::r=>isNil s || z8a r
def zpx (l:List Sym):Sym:=match z8a l with
 | true=>.agg l
 | false=>zlf l
theorem zwq {w:World} {E:Nat→Prop} {β:Nat→Value} {l:List Sym} {vs:List Value} (hs:Sms w E β l vs) (h1 : ∀ v∈vs,v.oneCell'=true):Sm w E β (zpx l) (.agg vs.toArray):=by
 unfold zpx
 split
 ·simp only [Sm];exact ⟨vs,rfl,hs,h1⟩
 ·exact zfk hs h1
theorem z8b {l:List Sym} {m:Nat} (h:Sym.los m l):Sym.lo m (zpx l):=by
 unfold zpx
 split
 ·simp [Sym.lo,h]
 ·exact zlh h
def zns (ti:TI) (parts:List (Nat×Sym)) (k:Sym→Prop):Prop:=
 match ti.kind with
 | .struct fs=>ti.zero.all (·.oneCell')=true∧match zzb fs (ti.zero.map ofConst) parts with
  | some out=>k (zpx out)
  | none=>False
 | _=>False
def inOrder {α:Type}:Nat→List (Nat×α)→Option (List α)
 | _,[]=>some []
 | n,(i,x)::r=>if i=n then (match inOrder (n+1) r with
  | some l=>some (x::l)
  | none=>none) else none
def rowOf (sz:Nat) (s:Sym):Option (List D):=match zbd s with
 | some l=>match allD l with
  | some ds=>if ds.length=sz then some ds else none
  | none=>none
 | none=>none
def rowsOf (sz:Nat):List Sym→Option (List (List D))
 | []=>some []
 | s::r=>match rowOf sz s,rowsOf sz r with
  | some x,some xs=>some (x::xs)
  | _,_=>none
def zhi (P:Program) (t n:Nat) (parts:List (Nat×Sym)) (k:Sym→Prop):Prop:=
 match TI.of P t with
 | some ⟨.slice e,_,_,_,_⟩=>match TI.of P e with
  | some te=>match inOrder 0 parts with
   | some xs=>xs.length=n∧0<te.size∧n*te.size≤16777216∧match rowsOf te.size xs with
    | some rows=>k (.d (.sl rows))
    | none=>False
   | none=>False
  | none=>False
 | _=>False
def sopB (P:Program) (look:Nat→Option Obj') (ρ:Operand→Sym) (op:Op) (k:Sym→Prop):Prop:=
 match op with
 | .build t parts=>match TI.of P t with
  | some ti=>zns ti (parts.toList.map fun (i,x)=>(i,ρ x)) k
  | none=>False
 | .buildSlice t n parts=>zhi P t n (parts.toList.map fun (i,x)=>(i,ρ x)) k
 | .makeFunc (.func f) first captured=>match first.toList with
  | []=>k (.fn f (captured.toList.map ρ))
  | _=>False
 | op=>sop P look ρ op k
section
variable {P:Program} {X:Nat→Prop} {w0:Base} {st:St} {β:Nat→Value} {a:Act} {w w':World} {E:Nat→Prop} {m:Nat} {k:Sym→Prop}
theorem zzc (off:Nat) (us:List Value) (cells:List Value) (h:off+us.length≤cells.length) :
  (us.toArray.zipIdx.foldl (fun cs (x:Value×Nat)=>cs.setIfInBounds (off+x.2) x.1) cells.toArray)=(splice cells off us).toArray:=by
 rw [← Array.foldl_toList,Array.toList_zipIdx]
 obtain ⟨h1,h2⟩:=Great.foldl_set off us 0 cells.toArray
 apply Array.ext_getElem?
 intro j
 rw [h2 j]
 simp only [List.getElem?_toArray,List.size_toArray,Nat.add_zero]
 rw [zmt h]
 by_cases p:j<off
 ·rw [if_neg (by omega),if_pos p]
 ·rw [if_neg p]
  by_cases q:j<off+us.length
  ·rw [if_pos (by omega),if_pos q]
  ·rw [if_neg (by omega),if_neg q]
theorem zpy (hβ : ∀ id,(β id).oneCell'=true) {fs:List (Nat×Nat×Bool)} {place:Nat→Option (Nat×Nat)} (hp : ∀ (i off sz:Nat) (b:Bool),fs[i]?=some (off,sz,b)→place i=some (off,sz)) (ρ:Operand→Sym) (ev:Operand→Value)
  (hρ : ∀ x,Sym.lo m (ρ x)∧Sm w E β (ρ x) (ev x)) : ∀ {parts:List (Nat×Operand)} {cells out:List Sym} {vs:List Value},
  zzb fs cells (parts.map fun (i,x)=>(i,ρ x))=some out→Sms w E β cells vs→(∀ u∈vs,u.oneCell'=true)→Sym.los m cells →
  ∃ us:List Value,Instr.fill place vs.toArray (parts.map fun (i,x)=>(i,ev x))=some us.toArray∧Sms w E β out us∧(∀ u∈us,u.oneCell'=true)∧Sym.los m out
 | [],cells,out,vs,h,hs,h1,hl=>by
  simp [zzb] at h;subst h;exact ⟨vs,by simp [Instr.fill],hs,h1,hl⟩
 | (i,x)::r,cells,out,vs,h,hs,h1,hl=>by
  simp only [List.map_cons,zzb] at h;split at h
  ·rename_i off sz b l hf hc
   split at h
   ·rename_i hb
    obtain ⟨us,e1,e2,e3,e4⟩:=zdm hβ hc (hρ x).1 (hρ x).2;have hlen:=e2.length;have hvl:=hs.length;obtain ⟨out',q1,q2,q3,q4⟩:=zpy hβ hp ρ ev hρ h (Sms.splice hs e2 off) (fun u hu=>(zgt hu).elim (h1 u) (e3 u)) (Sym.zjj hl e4 off)
    refine ⟨out',?_,q2,q3,q4⟩
    simp only [List.map_cons,Instr.fill,hp i off sz b hf,e1];have hc1:us.toArray.size=sz:=by simp;omega
    have hc2:¬ off+us.toArray.size>vs.toArray.size:=by simp;omega
    simp only [hc1,ne_eq,not_true_eq_false,decide_false,Bool.false_or];rw [if_neg (by rw [← hc1];simpa using hc2),zzc off us vs (by omega)]
    exact q1
   ·cases h
  ·cases h
theorem zwr (hm:Mods X w0 st β a w) {t:Nat} {ti:TI} (ht:TI.of P t=some ti) {parts:Array (Nat×Operand)} (h:zns ti (parts.toList.map fun (i,x)=>(i,st.val x)) k) :
  YV P w (Ex X β st.own) β st.next (Instr.build t (parts.map fun (i,x)=>(i,a.eval x))) k:=by
 obtain ⟨i,u,z,hi,hu,hz,hkd,_,_,_,hzc⟩:=zat ht
 unfold zns at h
 split at h
 ·rename_i fs hk
  obtain ⟨h1,h⟩:=h;split at h
  ·rename_i out hf
   rw [hkd] at hk;obtain ⟨fds,rfl,hl⟩:=zpo hk
   -- the places
   have hplaces : ∃ places:List (Nat×Nat),fds.toList.mapM (fun f=>(P.info? f.type).map fun i=>(f.offset,i.size))=some places∧∀ (i off sz:Nat) (b:Bool),fs[i]?=some (off,sz,b)→places[i]?=some (off,sz):=by
    generalize fds.toList=q at hl;clear hf hu hk hkd h1 h;induction q generalizing fs with
    | nil=>simp at hl;subst hl;exact ⟨[],by simp,by simp⟩
    | cons f q ih=>
     simp only [List.mapM_cons] at hl;cases hft:zmm P f with
     | none=>simp [hft] at hl
     | some y=>
      cases hr:q.mapM (zmm P) with
      | none=>simp [hft,hr] at hl
      | some r=>
       simp [hft,hr] at hl;obtain ⟨places,p1,p2⟩:=ih r hr;unfold zmm at hft;cases hi':P.info? f.type with
       | none=>simp [hi'] at hft
       | some j=>
        cases hu':P.underlying f.type with
        | none=>simp [hi',hu'] at hft
        | some d=>
         simp [hi',hu'] at hft;refine ⟨(f.offset,j.size)::places,by simp [List.mapM_cons,hi',p1],?_⟩
         intro i off sz b hi2;rw [← hl] at hi2;cases i with
         | zero=>simp at hi2;rw [← hft] at hi2;simp at hi2;simp [hi2.1,hi2.2.1]
         | succ i=>simpa using p2 i off sz b (by simpa using hi2)
   obtain ⟨places,p1,p2⟩:=hplaces;have h1' : ∀ u∈ti.zero,u.oneCell'=true:=fun u hu=>by simpa using (List.all_eq_true.1 h1) u hu
   obtain ⟨us,q1,q2,q3,q4⟩:=zpy (m:=st.next) hm.one (place:=(places.toArray[·]?)) (fun i off sz b hi=>by simpa using p2 i off sz b hi) st.val a.eval (fun x=>hm.val x) hf
    (zjf w (Ex X β st.own) β ti.zero) h1' (zjg _ _)
   refine ⟨_,_,h,z8b q4,zwq q2 q3,run_build w t _ us.toArray ?_⟩
   have hcz:z.cells=ti.zero.toArray:=by rw [hzc]
   simp only [Program.built,hi,hu,hz,p1,hcz];simpa using q1
  ·exact h.elim
 ·exact h.elim
theorem zzd (hβ : ∀ id,(β id).oneCell'=true) {sz:Nat} {s:Sym} {ds:List D} {v:Value} (h:rowOf sz s=some ds) (hl:Sym.lo m s) (hs:Sm w E β s v) :
  ∃ us:List Value,v.cells=us.toArray∧zae w E ds us∧us.length=sz∧ds.length=sz:=by
 unfold rowOf at h
 split at h
 ·rename_i l hc
  split at h
  ·rename_i ds' ha
   split at h
   ·rename_i hsz
    simp at h;subst h
    obtain ⟨us,e1,e2,e3,_⟩:=zdm hβ hc hl hs;have hr:=zje ha e2 e3;exact ⟨us,e1,hr,by rw [hr.length];exact hsz,hsz⟩
   ·cases h
  ·cases h
 ·cases h
theorem zin (hβ : ∀ id,(β id).oneCell'=true) {sz:Nat} : ∀ {l:List Sym} {rows:List (List D)} {vs:List Value},rowsOf sz l=some rows→Sym.los m l→Sms w E β l vs →
  (∀ v∈vs,v.cells.size=sz)∧zae w E rows.flatten (vs.flatMap fun v=>v.cells.toList)∧(∀ r∈rows,r.length=sz)∧rows.length=l.length
 | [],rows,vs,h,_,hs=>by
  simp [rowsOf] at h;subst h;simp only [Sms] at hs;subst hs;simp [zae]
 | s::r,rows,vs,h,hl,hs=>by
  simp only [Sms] at hs;obtain ⟨v,vs',rfl,h1,h2⟩:=hs;simp only [Sym.los] at hl;simp only [rowsOf] at h;split at h
  ·rename_i x xs hx hxs
   simp at h;subst h
   obtain ⟨us,e1,e2,e3,e4⟩:=zzd hβ hx hl.1 h1;obtain ⟨q1,q2,q3,q4⟩:=zin hβ hxs hl.2 h2;refine ⟨?_,?_,?_,by simp [q4]⟩
   ·intro u hu
    rcases List.mem_cons.1 hu with e | hu
    ·subst e;rw [e1];simpa using e3
    ·exact q1 u hu
   ·simp only [List.flatten_cons,List.flatMap_cons,e1]
    exact zae.append e2 q2
   ·intro q hq
    rcases List.mem_cons.1 hq with e | hq
    ·subst e;exact e4
    ·exact q3 q hq
  ·cases h
theorem zmw (ev:Operand→Value) : ∀ {n:Nat} {parts:List (Nat×Operand)} {xs:List Operand},inOrder n parts=some xs →
  (parts.map fun (i,x)=>(i,ev x))=((xs.map ev).zipIdx n).map fun x=>(x.2,x.1)
 | n,[],xs,h=>by simp [inOrder] at h;subst h;simp
 | n,(i,x)::r,xs,h=>by
  simp only [inOrder] at h;split at h
  ·rename_i e;subst e
   split at h
   ·rename_i l hl
    simp at h;subst h
    simp only [List.map_cons,List.zipIdx_cons];rw [zmw ev hl]
   ·cases h
  ·cases h
theorem zpz {α γ:Type} (f:α→γ) : ∀ {n:Nat} {parts:List (Nat×α)} {xs:List γ},inOrder n (parts.map fun (i,x)=>(i,f x))=some xs→∃ ys,inOrder n parts=some ys∧xs=ys.map f
 | n,[],xs,h=>by simp [inOrder] at h;subst h;exact ⟨[],rfl,rfl⟩
 | n,(i,x)::r,xs,h=>by
  simp only [List.map_cons,inOrder] at h ⊢;split at h
  ·rename_i e
   split at h
   ·rename_i l hl
    simp at h;subst h
    obtain ⟨ys,h1,rfl⟩:=zpz f hl;rw [if_pos e,h1];exact ⟨x::ys,rfl,rfl⟩
   ·cases h
  ·cases h
theorem zt9 {t n e:Nat} {te:TI} {j:TypeInfo} (hu:P.underlying t=some (.slice e)) (hte:TI.of P e=some te) {parts:Array (Nat×Operand)} {xs:List Operand} (hxs:inOrder 0 parts.toList=some xs) (hn:xs.length=n) (hpos:0<te.size) (hsmall:n*te.size≤16777216)
  (ev:Operand→Value) (hsz : ∀ v∈xs.map ev,v.cells.size=te.size):(Instr.buildSlice t n (parts.map fun (i,x)=>(i,ev x))).run P w = .ok (.slice (some ⟨w.heap.size,0,none⟩) n n) (w.alloc (.cells ((xs.map ev).flatMap fun v=>v.cells.toList).toArray e)):=by
 obtain ⟨ie,ue,ze,hie,hue,hze,_,hes,_,_,hzc⟩:=zat hte
 have hp:(parts.map fun (i,x)=>(i,ev x)).toList=((xs.map ev).zipIdx 0).map fun x=>(x.2,x.1):=by
  rw [Array.toList_map];exact zmw ev hxs
 by_cases h0:n=0
 ·subst h0
  have hx0:xs=[]:=List.eq_nil_of_length_eq_zero hn
  subst hx0;have hp0:(parts.map fun (i,x)=>(i,ev x)) = #[]:=by
   have:=congrArg List.toArray hp;simpa using this
  rw [hp0];simp [Instr.buildSlice,run_underlying hu,run_sizeOf hie,Instr.fill,newRow];congr 2;apply Array.ext';simp
 ·refine run_buildSlice w t e n _ _ ie ze hu hie hze (by rw [← hes];show ¬(n*te.size>16777216);omega) (by rw [← hes];exact Nat.mul_ne_zero h0 (by omega)) ?_
  rw [hp,← hes];refine Great.fill_whole hpos _ _ hsz ?_
  simp [hn]
theorem zq9 (hm:Mods X w0 st β a w) {o:Oper} {t n:Nat} {parts:Array (Nat×Operand)} (ho:o.op = .buildSlice t n parts) (h:zhi P t n (parts.toList.map fun (i,x)=>(i,st.val x)) k):Yields P X st β a w o k:=by
 unfold zhi at h
 split at h
 ·rename_i e _ _ _ _ ht
  obtain ⟨i,u,z,hi,hu,hz,hkd,_⟩:=zat ht;have:=za5 hkd.symm;subst this
  split at h
  ·rename_i te hte
   split at h
   ·rename_i ss hss
    obtain ⟨hn,hpos,hsmall,h⟩:=h;split at h
    ·rename_i rows hr
     obtain ⟨xs,hxs,rfl⟩:=zpz st.val hss;have hops:=Sms.zjz hm xs;obtain ⟨q1,q2,q3,q4⟩:=zin hm.one hr hops.2 hops.1;have hn':xs.length=n:=by simpa using hn
     have hrun:=zt9 (w:=w) (j:=i) hu hte hxs hn' hpos hsmall a.eval q1;intro K Q hK;unfold Oper.wp;have hrun':(execOp a.eval o).run P w = .ok (.value (.slice (some ⟨w.heap.size,0,none⟩) n n)) (w.alloc (.cells ((xs.map a.eval).flatMap fun v=>v.cells.toList).toArray e)):=by simp [execOp,ho,hrun]
     rw [hrun'];refine hK (.d (.sl rows)) _ _ h (by simp [Sym.lo]) (zbj w _) ?_
     have hrl:rows.length=n:=by rw [q4];simpa using hn'
     have hlen:((xs.map a.eval).flatMap fun v=>v.cells.toList).length=n*te.size:=by rw [q2.length,flat_length q3,hrl]
     simp only [Sm,R];refine ⟨_,n,by rw [hrl],by omega,?_,by simp,fun hne=>⟨w.heap.size,0,rfl,fun hE=>absurd (hm.lt _ hE) (by omega),(Array.getElem?_eq_some_iff.1 (Go.heap_alloc_new w (.cells ((xs.map a.eval).flatMap fun v=>v.cells.toList).toArray e))).1,?_⟩⟩
     ·have h2:n*1≤n*te.size:=Nat.mul_le_mul_left _ hpos
      simp only [maxLen];omega
     ·have hrl2:rowLen rows=te.size:=by
       cases rows with
       | nil=>exact absurd rfl hne
       | cons r rs=>exact q3 r (by simp)
      rw [hrl2];refine zb2.of_flat q3 (Rrow.of_cells (zae.over (Over.of_below (zbj w _) _) _ _ q2) fun j u hj=>?_)
      rw [Nat.zero_add];have hh:=Go.heap_alloc_new w (.cells ((xs.map a.eval).flatMap fun v=>v.cells.toList).toArray e)
      simp only [World.cell?,hh];simpa using hj
    ·exact h.elim
   ·exact h.elim
  ·exact h.elim
 ·exact h.elim
theorem ze9 (hm:Mods X w0 st β a w) (o:Oper) (h:sopB P st.look st.val o.op k):Yields P X st β a w o k:=by
 unfold sopB at h
 split at h
 ·rename_i t parts ho
  split at h
  ·rename_i ti ht
   exact .zik (zwr hm ht h) (fun v hv=>by simp [execOp,ho,hv])
  ·exact h.elim
 ·rename_i t n parts ho
  exact zq9 hm ho h
 ·rename_i f first cap ho
  split at h
  ·rename_i hf
   have e:first = #[]:=by cases first;simp at hf;rw [hf]
   subst e;have hs:=Sms.zjz hm cap.toList;refine .za6 h (by simpa [Sym.lo] using hs.2) (v:=.func (.func f) #[] (cap.toList.map a.eval).toArray) ?_ (by simp [execOp,ho,Instr.makeFunc];apply Array.ext';simp)
   simp only [Sm];exact ⟨_,rfl,hs.1⟩
  ·exact h.elim
 ·exact z7w hm o h
end
end Go.V
namespace Go.V
variable [Dr] [Ov]
open Go.RowKit
mutual
def yfn:Sym→List Nat
 | .ar i=>[i]
 | .agg l=>zfy l
 | .mp i=>[i]
 | _=>[]
def zfy:List Sym→List Nat
 | []=>[]
 | s::r=>yfn s++zfy r
end
def zp0 (P:Program) (st:St) (dst:Option Tmp) (t n:Nat) (parts:List (Nat×Operand)) (K:St→Prop):Prop:=
 match TI.of P t with
 | some ⟨.slice e,_,_,_,_⟩=>match TI.of P e with
  | some te=>match inOrder 0 parts with
   | some xs=>xs.length=n∧0<te.size∧n*te.size≤16777216 ∧
    match rowsOf te.size (xs.map (st.frzs (zfy (xs.map st.val))).val) with
    | some rows=>K (((st.frzs (zfy (xs.map st.val))).new (.arr e te.size rows)).put dst (.ar (st.frzs (zfy (xs.map st.val))).next))
    | none=>False
   | none=>False
  | none=>False
 | _=>False
def zc1 (st:St) (id:Nat):Sym→Option (List (List D))
 | .d (.sl l)=>some l
 | .nils=>some []
 | .ar j=>if j=id then none else match st.look j with
  | some (.arr _ _ rows)=>some rows
  | _=>none
 | .aS j sz lo n=>if j=id then none else match st.look j with
  | some (.arr _ sz' rows)=>if sz=sz'∧lo+n≤rows.length then some ((rows.drop lo).take n) else none
  | _=>none
 | .av j sz lo n=>if j=id then none else match st.look j with
  | some (.arr _ sz' rows)=>if sz=sz'∧lo+n≤rows.length then some ((rows.drop lo).take n) else none
  | _=>none
 | _=>none
def zkl (P:Program) (st:St) (dst:Option Tmp) (t t':Nat) (s x:Sym) (K:St→Prop):Prop:=
 match TI.of P t with
 | some ⟨.slice e,_,_,_,_⟩=>match TI.of P e with
  | some te=>t'=t∧0<te.size∧te.zero.length=te.size∧te.zero.all (·.oneCell')=true∧match s with
   | .ar id=>match st.look id,zc1 st id x with
    | some (.arr T sz rows),some l=>T=e∧sz=te.size∧(∀ r∈l,r.length=te.size)∧(rows.length+l.length)*te.bytes≤140737488355328∧rows.length+l.length≤maxLen ∧
     K ((st.renew id (.arr e te.size (rows++l))).put dst (.ar id))
    | _,_=>False
   | .nils=>match zc1 (st.new (.arr e te.size [])) st.next x with
    | some l=>(∀ r∈l,r.length=te.size)∧l.length*te.bytes≤140737488355328∧l.length≤maxLen ∧
     K (((st.new (.arr e te.size [])).renew st.next (.arr e te.size l)).put dst (.ar st.next))
    | _=>False
   | _=>False
  | none=>False
 | _=>False
section
variable {P:Program} {X:Nat→Prop} {w0:Base} {st:St} {β:Nat→Value} {a:Act} {w w':World} {E:Nat→Prop} {m:Nat} {k:Sym→Prop}
theorem ybx (st:St) (id:Nat):(st.frz id).next=st.next∧(st.frz id).n=st.n:=by
 unfold St.frz;split <;> exact ⟨rfl,rfl⟩
theorem zio : ∀ (l:List Nat) (st:St),(st.frzs l).next=st.next∧(st.frzs l).n=st.n
 | [],st=>⟨rfl,rfl⟩
 | id::r,st=>by
  have h1:=zio r (st.frz id);have h2:=ybx st id;exact ⟨h1.1.trans h2.1,h1.2.trans h2.2⟩
theorem znt (hm0:Mods X w0 st β a w) {o:Oper} {t n:Nat} {parts:Array (Nat×Operand)} (ho:o.op = .buildSlice t n parts) (hd0 : ∀ t,o.dst=some t→t<st.n) {K:St→Prop} (h:zp0 P st o.dst t n parts.toList K):Goes P X w0 o a w K:=by
 unfold zp0 at h
 split at h
 ·rename_i e _ _ _ _ ht
  obtain ⟨i,u,z,hi,hu,hz,hkd,_⟩:=zat ht;have:=za5 hkd.symm;subst this
  split at h
  ·rename_i te hte
   obtain ⟨ie,ue,ze,hie,hue,hze,_,hsz,_,_,hzc⟩:=zat hte;split at h
   ·rename_i xs hxs
    obtain ⟨hn,hpos,hsmall,h⟩:=h;generalize hst1:st.frzs (zfy (xs.map st.val))=st1 at h;have hm:Mods X w0 st1 β a w:=by rw [← hst1];exact hm0.frzs
    have hd : ∀ t,o.dst=some t→t<st1.n:=by rw [← hst1,(zio _ st).2];exact hd0
    split at h
    ·rename_i rows hr
     have hops:=Sms.zjz hm xs;obtain ⟨q1,q2,q3,q4⟩:=zin hm.one hr hops.2 hops.1;have hlen:(xs.map a.eval).length=n:=by simpa using hn
     have hcsz:((xs.map a.eval).flatMap fun v=>v.cells.toList).length=n*te.size:=by
      rw [q2.length,flat_length q3,q4];simp [hn]
     have hrun:(Instr.buildSlice t n (parts.map fun (i,x)=>(i,a.eval x))).run P w = .ok (.slice (some ⟨w.heap.size,0,none⟩) n n) (w.alloc (.cells ((xs.map a.eval).flatMap fun v=>v.cells.toList).toArray e)):=by
      have hp:(parts.map fun (i,x)=>(i,a.eval x)).toList=((xs.map a.eval).zipIdx 0).map fun x=>(x.2,x.1):=by
       rw [Array.toList_map];exact zmw a.eval hxs
      by_cases h0:n=0
      ·subst h0
       have hx0:xs=[]:=List.eq_nil_of_length_eq_zero hn
       subst hx0;have hp0:(parts.map fun (i,x)=>(i,a.eval x)) = #[]:=by
        have:=congrArg List.toArray hp;simpa using this
       rw [hp0];simp [Instr.buildSlice,run_underlying hu,run_sizeOf hie,Instr.fill,newRow];congr 2;apply Array.ext';simp
      ·refine run_buildSlice w t e n _ _ ie ze hu hie hze (by rw [← hsz];omega) (by rw [← hsz];exact Nat.mul_ne_zero h0 (by omega)) ?_
       rw [hp,← hsz];refine Great.fill_whole hpos _ _ q1 ?_
       simp [hn]
     have hm':Mods X w0 (st1.new (.arr e te.size rows)) (fun i=>if i=st1.next then .slice (some ⟨w.heap.size,0,none⟩) n n else β i) a (w.alloc (.cells ((xs.map a.eval).flatMap fun v=>v.cells.toList).toArray e)):=by
      refine hm.new (zbj w _) rfl trivial (fun b hb=>by simp [blk] at hb;omega) ?_
      refine ⟨_,?_,zae.over (zsl hm _) _ _ q2,q3⟩
      refine ⟨⟨by rw [hcsz,q4];simp [hn],.inr ⟨w.heap.size,n,_,by simp [q4,hn],Nat.zero_le _,Go.heap_alloc_new w _,by rw [q4];simp [hn],?_,by simpa using hcsz,?_⟩⟩,fun b hb=>⟨.inl (by simp [blk] at hb;have:=hm.below.size;omega),by
       simp [blk] at hb;subst hb;exact zcv.of (Go.heap_alloc_new w _) (fun u hu=>q2.one u (by simpa using hu))⟩⟩
      ·have h2:n*1≤n*te.size:=Nat.mul_le_mul_left _ hpos
       simp only [maxLen];omega
      ·rw [List.take_of_length_le]
       rw [q4];simp only [List.length_map];show ((xs.map a.eval).flatMap fun v=>v.cells.toList).length≤xs.length*te.size
       rw [hcsz,hn];exact Nat.le_refl _
     refine Goes.za6 (v:=.slice (some ⟨w.heap.size,0,none⟩) n n) (w':=w.alloc (.cells ((xs.map a.eval).flatMap fun v=>v.cells.toList).toArray e)) ?_ h (hm'.za0 hd (by simp [Sym.lo,St.new]) ?_)
     ·simp [execOp,ho,hrun]
     ·simp [Sm]
    ·exact h.elim
   ·exact h.elim
  ·exact h.elim
 ·exact h.elim
theorem zda (z:Array Value) (n:Nat):((Array.range (n*z.size)).map fun i=>z[i%z.size]!).toList=(List.replicate n z.toList).flatten:=by
 rw [Array.toList_map,Array.toList_range]
 induction n with
 | zero=>simp
 | succ n ih=>
  rw [Nat.add_mul,Nat.one_mul,List.range_add,List.map_append,ih,List.replicate_succ',List.flatten_append];congr 1
  simp only [List.map_map,List.flatten_cons,List.flatten_nil,List.append_nil];apply List.ext_getElem
  ·simp
  ·intro i h1 h2
   simp at h1 h2
   simp [Nat.mul_add_mod_of_lt,Nat.mul_comm n z.size,h1,Nat.mod_eq_of_lt h1]
theorem zlo {z:Array Value} (h : ∀ u∈z.toList,u.oneCell'=true) (n:Nat) : ∀ u∈(Builtin.zeroCells z n).toList,u.oneCell'=true:=by
 intro u hu
 unfold Builtin.zeroCells at hu
 rw [zda] at hu
 obtain ⟨l,hl,hu⟩:=List.mem_flatten.1 hu
 rw [(List.mem_replicate.1 hl).2] at hu
 exact h u hu
theorem zze (base:Nat) (t ty e:TypeId) (i:TypeInfo) (z:Value) (size bytes:Nat) (ht:P.underlying t=some (.slice e)) (hi:P.info? e=some i) (hz:i.zero=some z)
  (hsize:i.size=size) (hby:i.bytes=bytes) (hzs:z.cells.size=size) (hsz:0<size)
  (v:Value) (n:Nat) (xs:List Value) (hown:w.ownsRow base e size v n xs)
  (a:Addr) (m c:Nat) (news:List Value) (hl:news.length=m*size) (hnews : ∀ j u,news[j]?=some u→w.cell? (a.add j)=some u) (h1 : ∀ u∈news,u.oneCell'=true)
  (h63:n+m≤maxLen) (hbytes:(n+m)*bytes≤140737488355328) (hbase:base≤w.heap.size)
  (hones : ∀ b,blk v=some b→zcv w b) (hx1 : ∀ u∈xs,u.oneCell'=true) (hz1 : ∀ u∈z.cells.toList,u.oneCell'=true) :
  ∃ v' w',(Builtin.append_ #[t,t] ty #[v,.slice (some a) m c]).run P w = .ok v' w'∧w'.ownsRow base e size v' (n+m) (xs++news)∧w.grownBy w' v.ownBlock ∧
   (v'.ownBlock=v.ownBlock∨∃ g,v'.ownBlock=some g∧w.heap.size≤g)∧∀ b,blk v'=some b→zcv w' b:=by
 obtain ⟨v',w',hr,h2,h3,h4⟩:=run_append_own (P:=P) w base t ty e i z size bytes ht hi hz hsize hby hzs hsz v n xs hown a m c news hl hnews h1 h63 hbytes hbase
 refine ⟨v',w',hr,h2,h3,?_⟩
 have hnew : ∀ (olds:List Value) (k:Nat),(∀ u∈olds,u.oneCell'=true)→zcv (w.drew.alloc (.cells (olds.toArray++news.toArray++Builtin.zeroCells z.cells k) e)) w.heap.size:=by
  intro olds k ho;refine zcv.of (arr:=olds.toArray++news.toArray++Builtin.zeroCells z.cells k) (T:=e) (fz:=(0,0)) (Go.heap_alloc_new w.drew _) ?_
  intro u hu;simp only [Array.toList_append,List.mem_append] at hu;rcases hu with (hu | hu) | hu
  ·exact ho u hu
  ·exact h1 u hu
  ·exact zlo hz1 k u hu
 subst hsize;subst hby
 have hsmall:n+m≤9223372036854775807:=by simp only [maxLen] at h63;omega
 rcases hown.2 with ⟨rfl,rfl⟩ | ⟨g,cap,cur,rfl,hbg,hg,hnc,hcm,hcs,htake⟩
 ·by_cases hm:m=0
  ·have:=h4.2 ⟨rfl,hm⟩
   rw [this];exact ⟨.inl rfl,fun b hb=>by simp [blk] at hb⟩
  ·have hr':=run_append_nil (P:=P) w t ty e i z ht hi hz a m c news hl hnews (by omega) (by omega) (by have hb:=hbytes;simp only [Nat.zero_add] at hb;omega)
   rw [hr] at hr';injection hr' with e1 e2;refine ⟨by rw [e1];exact .inr ⟨_,rfl,Nat.le_refl _⟩,fun b hb=>?_⟩
   rw [e1] at hb;simp [blk] at hb;subst hb;rw [e2];have:=hnew [] (grownCap w m 0 e-m) (fun _ h=>by cases h)
   simpa using this
 ·by_cases hroom:n+m≤cap
  ·have hfit:n*i.size+news.length≤cur.size:=by rw [hl,hcs,← Nat.add_mul];exact Nat.mul_le_mul_right _ hroom
   have hr':=run_append_room (P:=P) w t ty e i ht hi g n cap cur hg a m c news hl hnews h1 hroom hfit;rw [hr] at hr';injection hr' with e1 e2;refine ⟨by rw [e1];exact .inl rfl,fun b hb=>?_⟩
   rw [e1] at hb;simp [blk] at hb;subst hb;rw [e2];refine zcv.of (setRow_heap w g cur _ e (0,0) hg) ?_
   intro u hu;have h0:=hones g (by rfl) _ _ _ hg
   simp only [List.mem_append] at hu;rcases hu with (hu | hu) | hu
   ·exact h0 u (List.mem_of_mem_take hu)
   ·exact h1 u hu
   ·exact h0 u (List.mem_of_mem_drop hu)
  ·have holds : ∀ j u,xs[j]?=some u→w.cell? ((⟨g,0,none⟩:Addr).add j)=some u:=hown.cells (g:=g) rfl
   have hr':=run_append_grow (P:=P) w t ty e i z ht hi hz ⟨g,0,none⟩ n cap xs hown.1 holds a m c news hl hnews (by omega) (by omega) (growslice_fits (by omega) hbytes)
   rw [hr] at hr';injection hr' with e1 e2;refine ⟨by rw [e1];exact .inr ⟨_,rfl,Nat.le_refl _⟩,fun b hb=>?_⟩
   rw [e1] at hb;simp [blk] at hb;subst hb;rw [e2];exact hnew xs _ hx1
end
end Go.V
namespace Go.V
variable [Dr] [Ov]
open Go.RowKit
section
variable {P:Program} {X:Nat→Prop} {w0:Base} {st:St} {β:Nat→Value} {a:Act} {w w':World} {m:Nat} {k:Sym→Prop}
theorem ziq {sz:Nat} : ∀ {rows:List (List D)} {n:Nat},(∀ r∈rows,r.length=sz)→(rows.drop n).flatten=rows.flatten.drop (n*sz)
 | [],n,h=>by simp
 | r::rs,0,h=>by simp
 | r::rs,n+1,h=>by
  have hr:=h r (by simp)
  simp only [List.drop_succ_cons,List.flatten_cons];rw [ziq (fun x hx=>h x (by simp [hx])),Nat.add_mul,List.drop_append]
  have:n*sz+1*sz-r.length=n*sz:=by omega
  rw [this,List.drop_eq_nil_of_le (as:=r) (by rw [hr];have:0≤n*sz:=Nat.zero_le _;omega)];rfl
theorem zgw {sz:Nat} : ∀ {rows:List (List D)} {n:Nat},(∀ r∈rows,r.length=sz)→(rows.take n).flatten=rows.flatten.take (n*sz)
 | [],n,h=>by simp
 | r::rs,0,h=>by simp
 | r::rs,n+1,h=>by
  have hr:=h r (by simp)
  simp only [List.take_succ_cons,List.flatten_cons];rw [zgw (fun x hx=>h x (by simp [hx])),Nat.add_mul,List.take_append]
  have:n*sz+1*sz-r.length=n*sz:=by omega
  rw [this,List.take_of_length_le (l:=r) (by rw [hr];have:0≤n*sz:=Nat.zero_le _;omega)]
theorem zzf {sz:Nat} {rows l:List (List D)} {lo:Nat} (h : ∀ r∈rows,r.length=sz) (hl : ∀ r∈l,r.length=sz):(splice rows lo l).flatten=splice rows.flatten (lo*sz) l.flatten:=by
 unfold splice
 rw [List.flatten_append,List.flatten_append,zgw h,ziq h,flat_length hl,Nat.add_mul]
theorem zgx (hm:Mods X w0 st β a w) {id sz:Nat} {s:Sym} {v:Value} {l:List (List D)} (h:zc1 st id s=some l) (hs:Sm w (Ex X β st.own) β s v) (hsz : ∀ r∈l,r.length=sz) :
  ∃ ad c,v = .slice ad l.length c∧(ad=none→l=[]∧c=0)∧∀ a0,ad=some a0→∃ news:List Value,zae w (Ex X β st.own) l.flatten news∧∀ (j:Nat) u,news[j]?=some u→w.cell? (a0.add j)=some u:=by
 cases s <;> simp only [zc1] at h
 case d x=>
  cases x <;> simp only [zc1] at h
  case sl l'=>
   simp at h;subst h
   simp only [Sm,R] at hs;obtain ⟨ad,c,rfl,h1,h2,h3,h4⟩:=hs;refine ⟨ad,c,rfl,fun hn=>?_,fun a0 ha=>?_⟩
   ·have:=h3 hn
    exact ⟨List.eq_nil_of_length_eq_zero (by omega),this⟩
   ·by_cases hne:l'=[]
    ·subst hne;exact ⟨[],by simp [zae],by simp⟩
    ·obtain ⟨b,off,hb,hE,hlt,hr⟩:=h4 hne
     rw [ha] at hb;simp at hb;subst hb;obtain ⟨vs,e1,e2⟩:=(zb2.flat hr).cells;exact ⟨vs,e1,fun j u hu=>by rw [add_lit];exact e2 j u hu⟩
  all_goals cases h
 case nils=>
  simp at h;subst h
  simp only [Sm] at hs;subst hs;exact ⟨none,0,rfl,fun _=>⟨rfl,rfl⟩,fun a0 h=>by cases h⟩
 case ar j=>
  split at h
  ·cases h
  ·split at h
   ·rename_i T sz' rows ho
    simp at h;subst h
    obtain ⟨_,_,xs,hx,hc,hsz'⟩:=hm.obj ho;simp only [Sm] at hs;subst hs;rcases hx.1.2 with ⟨hn,h0⟩ | ⟨g,cap,cur,hg,_⟩
    ·exact ⟨none,0,by rw [hn,h0],fun _=>⟨List.eq_nil_of_length_eq_zero h0,rfl⟩,fun a0 h=>by cases h⟩
    ·refine ⟨some ⟨g,0,none⟩,cap,hg,(fun h=>by cases h),fun a0 ha=>⟨xs,hc,fun j u hu=>?_⟩⟩
     cases ha;exact hx.1.cells (by rw [hg];rfl) j u hu
   ·cases h
 case aS j sz' lo n=>
  split at h
  ·cases h
  ·split at h
   ·rename_i T sz2 rows ho
    split at h
    ·rename_i hfit
     obtain ⟨rfl,hfit⟩:=hfit;simp at h;subst h
     obtain ⟨_,_,xs,hx,hc,hsz'⟩:=hm.obj ho;simp only [Sm] at hs;obtain ⟨b,m,c,k,hβ,rfl,h1,h2⟩:=hs;have hlen:((rows.drop lo).take n).length=n:=by simp;omega
     refine ⟨some ⟨b,lo*sz',none⟩,k,by rw [hlen],(fun h=>by cases h),fun a0 ha=>?_⟩
     cases ha;refine ⟨(xs.drop (lo*sz')).take (n*sz'),?_,fun j u hu=>?_⟩
     ·rw [zgw (fun r hr=>hsz' r (List.mem_of_mem_drop hr)),ziq hsz']
      exact zae.take _ (zae.drop _ hc)
     ·rw [List.getElem?_take] at hu
      split at hu
      ·rw [List.getElem?_drop] at hu
       rcases hx.1.2 with ⟨hn,h0⟩ | ⟨g,cap,cur,hg,_⟩
       ·rw [hn] at hβ;cases hβ
       ·have hcell:=hx.1.cells (by rw [hg];rfl) (lo*sz'+j) u hu
        rw [hg] at hβ;simp at hβ;obtain ⟨rfl,_⟩:=hβ;rw [add_lit] at hcell ⊢;simpa using hcell
      ·cases hu
    ·cases h
   ·cases h
 case av j sz' lo n=>
  split at h
  ·cases h
  ·split at h
   ·rename_i T sz2 rows ho
    split at h
    ·rename_i hfit
     obtain ⟨rfl,hfit⟩:=hfit;simp at h;subst h
     obtain ⟨_,_,xs,hx,hc,hsz'⟩:=hm.obj ho;simp only [Sm] at hs;obtain ⟨b,c,hβ,rfl,h1,h2⟩:=hs;have hlen:((rows.drop lo).take n).length=n:=by simp;omega
     refine ⟨some ⟨b,lo*sz',none⟩,c-lo,by rw [hlen],(fun h=>by cases h),fun a0 ha=>?_⟩
     cases ha;refine ⟨(xs.drop (lo*sz')).take (n*sz'),?_,fun j u hu=>?_⟩
     ·rw [zgw (fun r hr=>hsz' r (List.mem_of_mem_drop hr)),ziq hsz']
      exact zae.take _ (zae.drop _ hc)
     ·rw [List.getElem?_take] at hu
      split at hu
      ·rw [List.getElem?_drop] at hu
       rcases hx.1.2 with ⟨hn,h0⟩ | ⟨g,cap,cur,hg,_⟩
       ·rw [hn] at hβ;cases hβ
       ·have hcell:=hx.1.cells (by rw [hg];rfl) (lo*sz'+j) u hu
        rw [hg] at hβ;simp at hβ;obtain ⟨rfl,_⟩:=hβ;rw [add_lit] at hcell ⊢;simpa using hcell
      ·cases hu
    ·cases h
   ·cases h
 all_goals cases h
theorem zhj {base T sz n:Nat} {v:Value} {xs:List Value} (h:w.ownsRow base T sz v n xs):v.ownBlock=blk v:=by
 rcases h.2 with ⟨rfl,_⟩ | ⟨g,cap,cur,rfl,_⟩ <;> rfl
theorem zzg {base T sz n:Nat} {v:Value} {xs:List Value} (h:w.ownsRow base T sz v n xs):v.oneCell'=true:=by
 rcases h.2 with ⟨rfl,_⟩ | ⟨g,cap,cur,rfl,_⟩ <;> rfl
theorem znu (hm:Mods X w0 st β a w) {o:Oper} {t t':Nat} {s x:Operand} (ho:o.op = .call {callee:=.builtin .append,args:=#[s,x],argTypes:=#[t,t']}) (hd : ∀ t,o.dst=some t→t<st.n) {K:St→Prop}
  {e:Nat} {te:TI} (hu:P.underlying t=some (.slice e)) (hte:TI.of P e=some te) (htt:t'=t) (hpos:0<te.size) (hzl:te.zero.length=te.size) (hz1:te.zero.all (·.oneCell')=true) {id:Nat} (hvs:a.eval s=β id) {rows l:List (List D)}
  (hob:st.look id=some (.arr e te.size rows)) (hsrc:zc1 st id (st.val x)=some l) (hrl : ∀ r∈l,r.length=te.size) (hb:(rows.length+l.length)*te.bytes≤140737488355328) (hml:rows.length+l.length≤maxLen)
  (h:K ((st.renew id (.arr e te.size (rows++l))).put o.dst (.ar id))):Goes P X w0 o a w K:=by
 subst htt
 obtain ⟨ie,ue,ze,hie,hue,hze,_,hsz,hby,_,hzc⟩:=zat hte
 obtain ⟨hid,hlc,xs,hx,hxc,hrs⟩:=hm.obj hob
 obtain ⟨ad,c,hvx,hnone,hsome⟩:=zgx hm hsrc (hm.val x).2 hrl
 have hrs' : ∀ r∈rows++l,r.length=te.size:=fun r hr=>(List.mem_append.1 hr).elim (hrs r) (hrl r)
 have hzs:ze.cells.size=te.size:=by rw [← hzl,hzc];simp
 have fin : ∀ (v':Value) (w':World) (xs':List Value),(Builtin.append_ #[t',t'] o.type #[β id,a.eval x]).run P w = .ok v' w'→Owns w0.may w' e te.size v' (rows++l).length xs' →
   Kept w0 w'→(∀ c,c<w.heap.size→some c≠blk (β id)→w'.heap[c]?=w.heap[c]?)→(∀ b,blk v'=some b→blk (β id)=some b∨w.heap.size≤b) →
   (∀ E,Over w (Ex X β st.own) w' E→zae w' E (rows++l).flatten xs')→Goes P X w0 o a w K:=by
  intro v' w' xs' hr ho' hbel hsame hnew hcells;have hm':=hm.renew (o':=.arr e te.size (rows++l)) hob (zzg ho'.1) hbel hsame hnew trivial (fun E hov hbE=>⟨xs',by simpa using ho',hcells E hov,hrs'⟩)
  refine Goes.za6 (v:=v') (w':=w') ?_ h (hm'.za0 hd (by simpa [Sym.lo,St.renew] using hid) (by simp [Sm]))
  simp [execOp,ho,resolve,invoke,builtin,hvs,hr]
 cases ad with
 | none=>
  obtain ⟨rfl,rfl⟩:=hnone rfl;refine fin (β id) w xs ?_ (by simpa using hx) hm.below (fun _ _ _=>rfl) (fun b hb=>.inl hb) (fun E hov=>by simpa using zae.over hov _ _ hxc)
  rw [hvx];rcases hx.1.2 with ⟨hn,h0⟩ | ⟨g,cap,cur,hg,_,hh,hncap,_⟩
  ·rw [hn]
   simp [Builtin.append_,run_underlying hu,sizeOf,typeInfo,hie,Builtin.lenOf,Builtin.firstCells]
  ·rw [hg]
   simp [Builtin.append_,run_underlying hu,sizeOf,typeInfo,hie,Builtin.lenOf,Builtin.firstCells,hncap,storeCells]
 | some a0=>
  obtain ⟨news,hnc,hnews⟩:=hsome a0 rfl;have hnl:news.length=l.length*te.size:=by rw [hnc.length,flat_length hrl]
  obtain ⟨v',w',hr,ho',hg,hblk,hones⟩:=zze (P:=P) (w:=w) 0 t' o.type e ie ze te.size te.bytes hu hie hze hsz.symm hby.symm hzs hpos (β id) rows.length xs hx.1 a0 l.length c news hnl hnews hnc.one hml hb (Nat.zero_le _) (fun b hb=>(hx.2 b hb).2) hxc.one (by rw [← hzc];exact List.all_eq_true.1 hz1)
  have hsrc2 : ∀ b,blk v'=some b→blk (β id)=some b∨w.heap.size≤b:=by
   intro b hb;rw [← zhj ho'] at hb;rcases hblk with e | ⟨g,e,hge⟩
   ·left;rw [e,zhj hx.1] at hb;exact hb
   ·right;rw [e] at hb;cases hb;exact hge
  have hmay : ∀ b,blk v'=some b→w0.may b:=fun b hb=>(hsrc2 b hb).elim (fun e=>(hx.2 b e).1) (fun h=>.inl (Nat.le_trans hm.below.size h))
  refine fin v' w' (xs++news) (by rw [hvx];exact hr) ⟨by simpa using ho',fun b hb=>⟨hmay b hb,hones b hb⟩⟩ ?_ ?_ hsrc2 ?_
  ·exact hm.below.turn hg.os hg.tape hg.output hg.size (fun k hk hn=>hg.block k hk (fun e=>hn (hx.2 k (by rw [← zhj hx.1];exact e.symm)).1)) (fun _=>zbx P _ _ _ _ hr)
  ·intro c hc hne
   exact hg.block c hc (by rw [zhj hx.1];exact hne)
  ·intro E hov
   rw [List.flatten_append];exact zae.over hov _ _ (zae.append hxc hnc)
theorem zlp (hm:Mods X w0 st β a w) {o:Oper} {t t':Nat} {s x:Operand} (ho:o.op = .call {callee:=.builtin .append,args:=#[s,x],argTypes:=#[t,t']}) (hd : ∀ t,o.dst=some t→t<st.n) {K:St→Prop}
  (h:zkl P st o.dst t t' (st.val s) (st.val x) K):Goes P X w0 o a w K:=by
 unfold zkl at h
 split at h
 ·rename_i e _ _ _ _ ht
  obtain ⟨i,u,z,hi,hu,hz,hkd,_⟩:=zat ht;have:=za5 hkd.symm;subst this
  split at h
  ·rename_i te hte
   obtain ⟨htt,hpos,hzl,hz1,h⟩:=h;split at h
   ·rename_i id hs
    split at h
    ·rename_i T sz rows l hob hsrc
     obtain ⟨rfl,rfl,hrl,hb,hml,h⟩:=h;have hvs:=(hm.val s).2;rw [hs] at hvs;simp only [Sm] at hvs;exact znu hm ho hd hu hte htt hpos hzl hz1 hvs hob hsrc hrl hb hml h
    ·exact h.elim
   ·rename_i hs
    split at h
    ·rename_i l hsrc
     obtain ⟨hrl,hb,hml,h⟩:=h;have hvs:=(hm.val s).2;rw [hs] at hvs;simp only [Sm] at hvs;have hm1:=hm.z08 e te.size;refine znu hm1 ho hd hu hte htt hpos hzl hz1 (id:=st.next) (rows:=[]) ?_ ?_ hsrc hrl (by simpa using hb) (by simpa using hml) (by simpa using h)
     ·simp [hvs]
     ·simp [St.look,St.new,zab]
    ·exact h.elim
   ·exact h.elim
  ·exact h.elim
 ·exact h.elim
def z8c (P:Program) (st:St) (dst:Option Tmp) (t:Nat) (d s:Sym) (K:St→Prop):Prop:=
 match TI.of P t with
 | some ⟨.slice e,_,_,_,_⟩=>match TI.of P e with
  | some te=>0<te.size∧match zc1 st st.next s with
   | some l=>(∀ r∈l,r.length=te.size)∧match d with
    | .d (.sl [])=>K (st.put dst (.d (.int .i64 0)))
    | .aS id sz lo n=>match st.look id with
     | some (.arr T sz' rows)=>sz=te.size∧sz'=te.size∧lo+n≤rows.length∧K ((st.set id (.arr T sz' (splice rows lo (l.take n)))).put dst (.d (.int .i64 ((l.take n).length:Nat))))
     | _=>False
    | .av id sz lo n=>match st.look id with
     | some (.arr T sz' rows)=>sz=te.size∧sz'=te.size∧lo+n≤rows.length∧K ((st.set id (.arr T sz' (splice rows lo (l.take n)))).put dst (.d (.int .i64 ((l.take n).length:Nat))))
     | _=>False
    | .ar id=>match st.look id with
     | some (.arr T sz' rows)=>sz'=te.size∧K ((st.set id (.arr T sz' (splice rows 0 (l.take rows.length)))).put dst (.d (.int .i64 ((l.take rows.length).length:Nat))))
     | _=>False
    | _=>False
   | none=>False
  | none=>False
 | _=>False
theorem zua (w:World) (dT sT ty elem:TypeId) (g o dLen dCap:Nat) (a:Addr) (sLen sCap:Nat) (cur:Array Value) (t:TypeId) (cs:List Value) (K:Nat)
  (hu:P.underlying dT=some (.slice elem)) (hs:(P.info? elem).map (·.size)=some K)
  (hg:w.heap[g]?=some (.cells cur t (0,0))) (hn:cs.length=Nat.min sLen dLen*K)
  (hsrc : ∀ j v,cs[j]?=some v→w.cell? (a.add j)=some v) (hfit:o+cs.length≤cur.size) (h1 : ∀ v∈cs,v.oneCell'=true) :
  (Builtin.copy_ #[dT,sT] ty #[.slice (some ⟨g,o,none⟩) dLen dCap,.slice (some a) sLen sCap]).run P w =
   .ok (goInt (Nat.min sLen dLen)) (w.setRow g (cur.toList.take o++cs++cur.toList.drop (o+cs.length)).toArray):=by
 have hl:=run_loadCells_list (P:=P) w a cs hsrc
 have hst:=run_storeCells_at P g o t cs 0 cur w hg (by simpa using hfit) h1
 cases hq:P.info? elem with
 | none=>simp [hq] at hs
 | some i=>
  have hi:i.size=K:=by simpa [hq] using hs
  subst hi;simp only [Nat.add_zero] at hst;simp [Builtin.copy_,run_underlying hu,Builtin.lenOf,Builtin.firstCells,sizeOf,typeInfo,hq,← hn,hl,hst]
theorem zga (w:World) (dT sT ty elem:TypeId) (d a:Option Addr) (dLen dCap sLen sCap:Nat) (K:Nat) (hu:P.underlying dT=some (.slice elem)) (hs:(P.info? elem).map (·.size)=some K) (hn:Nat.min sLen dLen=0) :
  (Builtin.copy_ #[dT,sT] ty #[.slice d dLen dCap,.slice a sLen sCap]).run P w = .ok (goInt 0) w:=by
 cases hq:P.info? elem with
 | none=>simp [hq] at hs
 | some i=>
  have hl : ∀ (x:Addr),(loadCells x 0).run P w = .ok #[] w:=fun x=>by simpa using run_loadCells_list (P:=P) w x [] (by simp)
  cases d <;> cases a <;> simp [Builtin.copy_,run_underlying hu,Builtin.lenOf,Builtin.firstCells,sizeOf,typeInfo,hq,hn,storeCells,hl]
theorem zfz (hm:Mods X w0 st β a w) {id T sz b m c lo:Nat} {rows l:List (List D)} (hob:st.look id=some (.arr T sz rows)) (hβ:β id = .slice (some ⟨b,0,none⟩) m c)
  (hfit:lo+l.length≤rows.length) (hl : ∀ r∈l,r.length=sz) {us:List Value} (hus:zae w (Ex X β st.own) l.flatten us) :
  ∃ cur:Array Value,w.heap[b]?=some (.cells cur T (0,0))∧us.length=l.length*sz∧lo*sz+us.length≤cur.size ∧
   Mods X w0 (st.set id (.arr T sz (splice rows lo l))) β a (w.setRow b (splice cur.toList (lo*sz) us).toArray):=by
 obtain ⟨hid,hlc,xs,hx,hxc,hrs⟩:=hm.obj hob
 have hul:us.length=l.length*sz:=by rw [hus.length,flat_length hl]
 rcases hx.1.2 with ⟨hn,_⟩ | ⟨g,cap,cur,hg,h00,hh,hncap,hcm,hcs,htake⟩
 ·rw [hn] at hβ;cases hβ
 ·have hbg:b=g:=by rw [hg] at hβ;simp at hβ;exact hβ.1.symm
  subst hbg;have hxl:xs.length=rows.length*sz:=hx.1.1
  have hcl:cur.toList.length=cap*sz:=by simpa using hcs
  have hm1:(lo+l.length)*sz≤rows.length*sz:=Nat.mul_le_mul_right _ hfit
  have hm2:rows.length*sz≤cap*sz:=Nat.mul_le_mul_right _ hncap
  rw [Nat.add_mul] at hm1;have hfitx:lo*sz+us.length≤xs.length:=by omega
  have hfitc:lo*sz+us.length≤cur.size:=by have h7:cur.size=cur.toList.length:=(Array.length_toList).symm;omega
  have hsetlen:(splice rows lo l).length=rows.length:=zdd hfit
  have hbase:=(hx.2 b (by rw [hg];rfl)).1
  have hones:=(hx.2 b (by rw [hg];rfl)).2 _ _ _ hh
  have hbE:Ex X β st.own b:=.inr ⟨id,_,zaw hob,by rw [hg];rfl⟩
  have hsame : ∀ c,c≠b→(w.setRow b (splice cur.toList (lo*sz) us).toArray).heap[c]?=w.heap[c]?:=fun c hc=>setRow_other w b c _ hc
  have hov:=zlk hbE hsame;have hrowh:=setRow_heap w b cur (splice cur.toList (lo*sz) us).toArray T (0,0) hh;refine ⟨cur,hh,hul,hfitc,?_⟩
  refine hm.update hob (b:=b) (by rw [hg];rfl) hbase hsame (by simp) rfl rfl rfl (fun _=>by simp) trivial ?_
  refine ⟨splice xs (lo*sz) us,⟨⟨?_,.inr ⟨b,cap,_,?_,h00,hrowh,?_,hcm,?_,?_⟩⟩,fun b2 hb2=>⟨(hx.2 b2 hb2).1,by
   rw [hg] at hb2;simp [blk] at hb2;subst hb2;exact zcv.of hrowh (fun u hu=>(zgt (by simpa using hu)).elim (hones u) (hus.one u))⟩⟩,?_,?_⟩
  ·rw [zdd hfitx,hsetlen];exact hxl
  ·rw [hg,hsetlen]
  ·rw [hsetlen];exact hncap
  ·simp only [List.size_toArray];rw [zdd (by omega)];exact hcl
  ·rw [hsetlen];simp only []
   rw [zpv (by omega) (by omega),htake]
  ·rw [zzf hrs hl]
   exact zae.over hov _ _ (zae.splice hxc hus _)
  ·intro r hr
   exact (zgt hr).elim (hrs r) (hl r)
theorem zlq (hm:Mods X w0 st β a w) {id T sz:Nat} {rows:List (List D)} (hob:st.look id=some (.arr T sz rows)):Mods X w0 (st.set id (.arr T sz rows)) β a w:=by
 obtain ⟨hid,hlc,xs,hx,hxc,hrs⟩:=hm.obj hob
 have hk : ∀ {l:List (Nat×Obj')},zab l id=some (.arr T sz rows)→aset id (.arr T sz rows) l=l:=by
  intro l;induction l with
  | nil=>intro h;simp [zab] at h
  | cons x r ih=>
   intro h;obtain ⟨k,u⟩:=x;simp only [zab] at h;simp only [aset];split at h
   ·rename_i e;simp at h;simp [e,h]
   ·rename_i e;rw [if_neg e,ih h]
 have:st.set id (.arr T sz rows)=st:=by
  unfold St.set;rw [hk hob]
 rw [this];exact hm
theorem zmx (hm:Mods X w0 st β a w) {o:Oper} {t t':Nat} {d s:Operand} (ho:o.op = .call {callee:=.builtin .copy,args:=#[d,s],argTypes:=#[t,t']}) (hd : ∀ t,o.dst=some t→t<st.n) {K:St→Prop}
  {e sz:Nat} (hu:P.underlying t=some (.slice e)) (hinf:(P.info? e).map (·.size)=some sz) {l:List (List D)} (hsrc:zc1 st st.next (st.val s)=some l) (hrl : ∀ r∈l,r.length=sz)
  {id T lo n m c k b:Nat} {rows:List (List D)} (hob:st.look id=some (.arr T sz rows)) (hfit:lo+n≤rows.length) (hβ:β id = .slice (some ⟨b,0,none⟩) m c) (hvd:a.eval d = .slice (some ⟨b,lo*sz,none⟩) n k)
  (h:K ((st.set id (.arr T sz (splice rows lo (l.take n)))).put o.dst (.d (.int .i64 ((l.take n).length:Nat))))):Goes P X w0 o a w K:=by
 obtain ⟨ad,c1,hvx,hnone,hsome⟩:=zgx hm hsrc (hm.val s).2 hrl
 have hlk:(l.take n).length=Nat.min l.length n:=by simp [Nat.min_comm]
 have hsrl : ∀ r∈l.take n,r.length=sz:=fun r hr=>hrl r (List.mem_of_mem_take hr)
 by_cases h0:(l.take n).length=0
 ·have hnil:l.take n=[]:=List.eq_nil_of_length_eq_zero h0
  have hsp:splice rows lo ([]:List (List D))=rows:=by simp [splice]
  rw [hnil,hsp] at h;have hrun:=zga (P:=P) w t t' o.type e (some ⟨b,lo*sz,none⟩) ad n k l.length c1 sz hu hinf (by rw [hlk] at h0;exact h0)
  refine Goes.za6 (v:=goInt 0) (w':=w) ?_ h ((zlq hm hob).za0 hd (by simp [Sym.lo]) (by simp [Sm,R,goInt]))
  simp [execOp,ho,resolve,invoke,builtin,hvd,hvx,hrun]
 ·cases ad with
  | none=>obtain ⟨rfl,_⟩:=hnone rfl;simp at h0
  | some a0=>
   obtain ⟨news,hnc,hnews⟩:=hsome a0 rfl;have hnl:news.length=l.length*sz:=by rw [hnc.length,flat_length hrl]
   have husc:zae w (Ex X β st.own) (l.take n).flatten (news.take (n*sz)):=by
    rw [zgw hrl];exact zae.take _ hnc
   obtain ⟨cur,hh,hul,hfc,hm'⟩:=zfz hm hob hβ (l:=l.take n) (lo:=lo) (by simp;omega) hsrl husc
   have hrun:=zua (P:=P) w t t' o.type e b (lo*sz) n k a0 l.length c1 cur T (news.take (n*sz)) sz hu hinf hh (by rw [hul,hlk])
    (fun j v hj=>hnews j v (by rw [List.getElem?_take] at hj;split at hj;exact hj;cases hj)) hfc (fun v hv=>hnc.one v (List.mem_of_mem_take hv))
   have hrow:(cur.toList.take (lo*sz)++news.take (n*sz)++cur.toList.drop (lo*sz+(news.take (n*sz)).length)).toArray=(splice cur.toList (lo*sz) (news.take (n*sz))).toArray:=rfl
   rw [hrow] at hrun;refine Goes.za6 (v:=goInt (Nat.min l.length n)) (w':=w.setRow b (splice cur.toList (lo*sz) (news.take (n*sz))).toArray) ?_ h (hm'.za0 hd (by simp [Sym.lo]) (by simp only [Sm,R,goInt];rw [hlk]))
   simp [execOp,ho,resolve,invoke,builtin,hvd,hvx,hrun]
theorem zp1 (hm:Mods X w0 st β a w) {o:Oper} {t t':Nat} {d s:Operand} (ho:o.op = .call {callee:=.builtin .copy,args:=#[d,s],argTypes:=#[t,t']}) (hd : ∀ t,o.dst=some t→t<st.n) {K:St→Prop}
  (h:z8c P st o.dst t (st.val d) (st.val s) K):Goes P X w0 o a w K:=by
 unfold z8c at h
 split at h
 ·rename_i e _ _ _ _ ht
  obtain ⟨i,u,z,hi,hu,hz,hkd,_⟩:=zat ht;have:=za5 hkd.symm;subst this
  split at h
  ·rename_i te hte
   obtain ⟨ie,ue,ze,hie,hue,hze,_,hsz,hby,_,hzc⟩:=zat hte;obtain ⟨hpos,h⟩:=h;have hinf:(P.info? e).map (·.size)=some te.size:=by rw [hie];simp;omega
   split at h
   ·rename_i l hsrc
    obtain ⟨hrl,h⟩:=h;have hvd:=(hm.val d).2;split at h
    ·rename_i hds
     rw [hds] at hvd;simp only [Sm,R] at hvd;obtain ⟨da,dc,hvd,_⟩:=hvd;obtain ⟨ad,c,hvx,hnone,hsome⟩:=zgx hm hsrc (hm.val s).2 hrl;have hrun:=zga (P:=P) w t t' o.type e da ad 0 dc l.length c te.size hu hinf (by simp)
     refine Goes.za6 (v:=goInt 0) (w':=w) ?_ h (hm.za0 hd (by simp [Sym.lo]) (by simp [Sm,R,goInt]))
     simp only [List.length_nil] at hvd;simp [execOp,ho,resolve,invoke,builtin,hvd,hvx,hrun]
    ·rename_i id sz lo n hds
     rw [hds] at hvd;simp only [Sm] at hvd;split at h
     ·rename_i T sz' rows hob
      obtain ⟨rfl,rfl,hfit,h⟩:=h;obtain ⟨b,m,c',k,hβ,hvd,h1,h2⟩:=hvd;exact zmx hm ho hd hu hinf hsrc hrl hob hfit hβ hvd h
     ·exact h.elim
    ·rename_i id sz lo n hds
     rw [hds] at hvd;simp only [Sm] at hvd;split at h
     ·rename_i T sz' rows hob
      obtain ⟨rfl,rfl,hfit,h⟩:=h;obtain ⟨b,c',hβ,hvd,h1,h2⟩:=hvd;exact zmx hm ho hd hu hinf hsrc hrl hob hfit hβ hvd h
     ·exact h.elim
    ·rename_i id hds
     rw [hds] at hvd;simp only [Sm] at hvd;split at h
     ·rename_i T sz' rows hob
      obtain ⟨rfl,h⟩:=h;obtain ⟨hid,hlc,xs,hx,hxc,hrs⟩:=hm.obj hob;rcases hx.1.2 with ⟨hn,h0⟩ | ⟨g,cap,cur,hg,_⟩
      ·have hr0:rows=[]:=List.eq_nil_of_length_eq_zero h0
       subst hr0;obtain ⟨ad,c,hvx,hnone,hsome⟩:=zgx hm hsrc (hm.val s).2 hrl;have hrun:=zga (P:=P) w t t' o.type e none ad 0 0 l.length c te.size hu hinf (by simp)
       have hsp:splice ([]:List (List D)) 0 (l.take ([]:List (List D)).length)=[]:=by simp [splice]
       rw [hsp] at h;refine Goes.za6 (v:=goInt 0) (w':=w) ?_ h ((zlq hm hob).za0 hd (by simp [Sym.lo]) (by simp [Sm,R,goInt]))
       rw [hn] at hvd;simp [execOp,ho,resolve,invoke,builtin,hvd,hvx,hrun]
      ·refine zmx hm ho hd hu hinf hsrc hrl (lo:=0) (n:=rows.length) (k:=cap) hob (by omega) hg ?_ h
       rw [Nat.zero_mul];rw [hvd,hg]
     ·exact h.elim
    ·exact h.elim
   ·exact h.elim
  ·exact h.elim
 ·exact h.elim
theorem zgy {E:Nat→Prop} {w:World} : ∀ {zs:List Value} {ds:List D},allD (zs.map ofConst)=some ds→zs.all (·.oneCell')=true→zae w E ds zs
 | [],ds,h,_=>by simp [allD] at h;subst h;simp [zae]
 | z::zs,ds,h,h1=>by
  simp only [List.map_cons,allD] at h;simp only [List.all_cons,Bool.and_eq_true] at h1;split at h
  ·rename_i x xs hx hxs
   simp at h;subst h
   simp only [zae];exact ⟨z,zs,rfl,h1.1,zpp hx (zjd _ E (fun _=>.nilFunc) z),zgy hxs h1.2⟩
  ·cases h
theorem zae.replicate {E:Nat→Prop} {w:World} {ds:List D} {zs:List Value} (h:zae w E ds zs) : ∀ n,zae w E (List.replicate n ds).flatten (List.replicate n zs).flatten
 | 0=>by simp [zae]
 | n+1=>by
  simp only [List.replicate_succ,List.flatten_cons];exact zae.append h (zae.replicate h n)
theorem zfm : ∀ {l:List Sym} {ds:List D},allD l=some ds→ds.length=l.length
 | [],ds,h=>by simp [allD] at h;subst h;rfl
 | s::r,ds,h=>by
  simp only [allD] at h;split at h
  ·rename_i x xs hx hxs
   simp at h;subst h
   simp [zfm hxs]
  ·cases h
def zwt (P:Program) (st:St) (dst:Option Tmp) (t:Nat) (x:Sym) (K:St→Prop):Prop:=
 match TI.of P t with
 | some ⟨.slice e,_,_,_,_⟩=>match TI.of P e with
  | some te=>match allD (te.zero.map ofConst) with
   | some z=>te.zero.all (·.oneCell')=true∧te.zero.length=te.size∧match x with
    | .d (.sl [])=>K (st.put dst (.d (.tup [])))
    | .aS id sz lo n=>match st.look id with
     | some (.arr T sz' rows)=>sz=te.size∧sz'=te.size∧lo+n≤rows.length∧K ((st.set id (.arr T sz' (splice rows lo (List.replicate n z)))).put dst (.d (.tup [])))
     | _=>False
    | .av id sz lo n=>match st.look id with
     | some (.arr T sz' rows)=>sz=te.size∧sz'=te.size∧lo+n≤rows.length∧K ((st.set id (.arr T sz' (splice rows lo (List.replicate n z)))).put dst (.d (.tup [])))
     | _=>False
    | _=>False
   | none=>False
  | none=>False
 | _=>False
theorem znv (hm:Mods X w0 st β a w) {o:Oper} {t:Nat} {x:Operand} (ho:o.op = .call {callee:=.builtin .clear,args:=#[x],argTypes:=#[t]}) (hd : ∀ t,o.dst=some t→t<st.n) {K:St→Prop}
  (h:zwt P st o.dst t (st.val x) K):Goes P X w0 o a w K:=by
 unfold zwt at h
 split at h
 ·rename_i e _ _ _ _ ht
  obtain ⟨i,u,z,hi,hu,hz,hkd,_⟩:=zat ht;have:=za5 hkd.symm;subst this
  split at h
  ·rename_i te hte
   obtain ⟨ie,ue,ze,hie,hue,hze,_,hsz,hby,_,hzc⟩:=zat hte;split at h
   ·rename_i zd hzd
    obtain ⟨hz1,hzl,h⟩:=h;have hvd:=(hm.val x).2;split at h
    ·rename_i hds
     rw [hds] at hvd;simp only [Sm,R] at hvd;obtain ⟨da,dc,hvd,_⟩:=hvd;simp only [List.length_nil] at hvd;refine Goes.za6 (v:=.tuple #[]) (w':=w) ?_ h (hm.za0 hd (by simp [Sym.lo]) (by simp [Sm,R,za9]))
     cases da <;> simp [execOp,ho,resolve,invoke,builtin,hvd,Builtin.clear_,run_underlying hu]
    ·rename_i id sz lo n hds
     rw [hds] at hvd;simp only [Sm] at hvd;split at h
     ·rename_i T sz' rows hob
      obtain ⟨rfl,rfl,hfit,h⟩:=h;obtain ⟨b,m,c',k,hβ,hvd,h1,h2⟩:=hvd;have hzr:=zgy (E:=Ex X β st.own) (w:=w) hzd hz1;have hzdl:zd.length=te.size:=by rw [zfm hzd];simpa using hzl
      cases n with
      | zero=>
       have hsp:splice rows lo (List.replicate 0 zd)=rows:=by simp [splice]
       rw [hsp] at h;refine Goes.za6 (v:=.tuple #[]) (w':=w) ?_ h ((zlq hm hob).za0 hd (by simp [Sym.lo]) (by simp [Sm,R,za9]))
       simp [execOp,ho,resolve,invoke,builtin,hvd,Builtin.clear_,run_underlying hu]
      | succ n=>
       have hrw : ∀ r∈List.replicate (n+1) zd,r.length=te.size:=fun r hr=>by rw [(List.mem_replicate.1 hr).2];exact hzdl
       obtain ⟨cur,hh,hul,hfc,hm'⟩:=zfz hm hob hβ (l:=List.replicate (n+1) zd) (lo:=lo) (by simp;omega) hrw (hzr.replicate (n+1))
       have hone : ∀ v∈(List.replicate (n+1) te.zero).flatten,v.oneCell'=true:=(hzr.replicate (n+1)).one
       have hst:=run_storeCells_at P b (lo*te.size) T (List.replicate (n+1) te.zero).flatten 0 cur w hh (by simpa using hfc) hone
       simp only [Nat.add_zero] at hst;have hrow:(cur.toList.take (lo*te.size)++(List.replicate (n+1) te.zero).flatten++cur.toList.drop (lo*te.size+(List.replicate (n+1) te.zero).flatten.length)).toArray=(splice cur.toList (lo*te.size) (List.replicate (n+1) te.zero).flatten).toArray:=rfl
       rw [hrow] at hst;have hzz:(Builtin.zeroCells ze.cells (n+1)).toList=(List.replicate (n+1) te.zero).flatten:=by
        unfold Builtin.zeroCells;rw [zda,hzc]
       refine Goes.za6 (v:=.tuple #[]) (w':=w.setRow b (splice cur.toList (lo*te.size) (List.replicate (n+1) te.zero).flatten).toArray) ?_ h (hm'.za0 hd (by simp [Sym.lo]) (by simp [Sm,R,za9]))
       simp [execOp,ho,resolve,invoke,builtin,hvd,Builtin.clear_,run_underlying hu,zeroValue,typeInfo,hie,hze,hzz,hst]
     ·exact h.elim
    ·rename_i id sz lo n hds
     rw [hds] at hvd;simp only [Sm] at hvd;split at h
     ·rename_i T sz' rows hob
      obtain ⟨rfl,rfl,hfit,h⟩:=h;obtain ⟨b,c',hβ,hvd,h1,h2⟩:=hvd;have hzr:=zgy (E:=Ex X β st.own) (w:=w) hzd hz1;have hzdl:zd.length=te.size:=by rw [zfm hzd];simpa using hzl
      cases n with
      | zero=>
       have hsp:splice rows lo (List.replicate 0 zd)=rows:=by simp [splice]
       rw [hsp] at h;refine Goes.za6 (v:=.tuple #[]) (w':=w) ?_ h ((zlq hm hob).za0 hd (by simp [Sym.lo]) (by simp [Sm,R,za9]))
       simp [execOp,ho,resolve,invoke,builtin,hvd,Builtin.clear_,run_underlying hu]
      | succ n=>
       have hrw : ∀ r∈List.replicate (n+1) zd,r.length=te.size:=fun r hr=>by rw [(List.mem_replicate.1 hr).2];exact hzdl
       obtain ⟨cur,hh,hul,hfc,hm'⟩:=zfz hm hob hβ (l:=List.replicate (n+1) zd) (lo:=lo) (by simp;omega) hrw (hzr.replicate (n+1))
       have hone : ∀ v∈(List.replicate (n+1) te.zero).flatten,v.oneCell'=true:=(hzr.replicate (n+1)).one
       have hst:=run_storeCells_at P b (lo*te.size) T (List.replicate (n+1) te.zero).flatten 0 cur w hh (by simpa using hfc) hone
       simp only [Nat.add_zero] at hst;have hrow:(cur.toList.take (lo*te.size)++(List.replicate (n+1) te.zero).flatten++cur.toList.drop (lo*te.size+(List.replicate (n+1) te.zero).flatten.length)).toArray=(splice cur.toList (lo*te.size) (List.replicate (n+1) te.zero).flatten).toArray:=rfl
       rw [hrow] at hst;have hzz:(Builtin.zeroCells ze.cells (n+1)).toList=(List.replicate (n+1) te.zero).flatten:=by
        unfold Builtin.zeroCells;rw [zda,hzc]
       refine Goes.za6 (v:=.tuple #[]) (w':=w.setRow b (splice cur.toList (lo*te.size) (List.replicate (n+1) te.zero).flatten).toArray) ?_ h (hm'.za0 hd (by simp [Sym.lo]) (by simp [Sm,R,za9]))
       simp [execOp,ho,resolve,invoke,builtin,hvd,Builtin.clear_,run_underlying hu,zeroValue,typeInfo,hie,hze,hzz,hst]
     ·exact h.elim
    ·exact h.elim
   ·exact h.elim
  ·exact h.elim
 ·exact h.elim
def bytesOf:List (List D)→Option (List UInt8)
 | []=>some []
 | [.int .u8 n]::r=>match bytesOf r with
  | some l=>some (UInt8.ofNat n.toNat::l)
  | none=>none
 | _::_=>none
def za7 (s:ByteArray):List (List D):=s.data.toList.map fun b=>[.int .u8 (b.toNat:Int)]
def zc6 (P:Program) (st:St) (s t:Nat) (x:Sym) (k:Sym→Prop):Prop:=
 match TI.of P s,TI.of P t with
 | some ⟨.slice e,_,_,_,_⟩,some ⟨.str,_,_,_,_⟩=>match TI.of P e with
  | some ⟨.int .u8,_,_,_,_⟩=>match zc1 st st.next x with
   | some rows=>match bytesOf rows with
    | some bs=>k (.d (.str ⟨bs.toArray⟩))
    | none=>False
   | none=>False
  | _=>False
 | some ⟨.str,_,_,_,_⟩,some ⟨.slice e,_,_,_,_⟩=>match TI.of P e,x with
  | some ⟨.int .u8,_,_,_,_⟩,.d (.str b)=>b.size≤maxLen∧k (.d (.sl (za7 b)))
  | _,_=>False
 | _,_=>False
theorem znw : ∀ {rows:List (List D)} {bs:List UInt8},bytesOf rows=some bs→∃ ns:List Int,rows=ns.map (fun n=>[.int .u8 n])∧bs=ns.map (fun n=>UInt8.ofNat n.toNat)
 | [],bs,h=>by simp [bytesOf] at h;subst h;exact ⟨[],rfl,rfl⟩
 | row::r,bs,h=>by
  unfold bytesOf at h;split at h
  ·rename_i heq;cases heq
  ·rename_i n r' heq
   cases heq;split at h
   ·rename_i l hl
    simp at h;subst h
    obtain ⟨ns,rfl,rfl⟩:=znw hl;exact ⟨n::ns,rfl,rfl⟩
   ·cases h
  ·cases h
theorem fold_push : ∀ (ns:List Int) (s:ByteArray),ns.foldl (fun r n=>r.push (UInt8.ofNat n.toNat)) s=⟨s.data++(ns.map (fun n=>UInt8.ofNat n.toNat)).toArray⟩
 | [],s=>by simp
 | n::ns,s=>by
  rw [List.foldl_cons,fold_push ns];simp [ByteArray.push]
theorem zmy {w:World} {E:Nat→Prop} : ∀ {ns:List Int} {news:List Value},zae w E (ns.map (fun n=>[D.int .u8 n])).flatten news→news=ns.map (Value.int .u8)
 | [],news,h=>by simpa [zae] using h
 | n::ns,news,h=>by
  simp only [List.map_cons,List.flatten_cons,List.singleton_append,zae] at h;obtain ⟨v,vs',rfl,_,hr,hnc⟩:=h;simp only [R] at hr;rw [hr,zmy hnc];rfl
theorem zir (hm:Mods X w0 st β a w) {o:Oper} {s t:Nat} {x:Operand} (ho:o.op = .convert s t x) (h:zc6 P st s t (st.val x) k):Yields P X st β a w o k:=by
 unfold zc6 at h
 split at h
 ·rename_i e _ _ _ _ _ _ _ _ hs ht
  obtain ⟨i,u,z,hi,hu,hz,hkd,_⟩:=zat hs;have:=za5 hkd.symm;subst this
  obtain ⟨i2,u2,z2,hi2,hu2,hz2,hkd2,_⟩:=zat ht;have:=zek hkd2.symm;subst this
  split at h
  ·rename_i he
   obtain ⟨i3,u3,z3,hi3,hu3,hz3,hkd3,_⟩:=zat he;have:=kind_int hkd3.symm;subst this
   split at h
   ·rename_i rows hsrc
    split at h
    ·rename_i bs hbs
     obtain ⟨ns,rfl,rfl⟩:=znw hbs;obtain ⟨ad,c,hvx,hnone,hsome⟩:=zgx (sz:=1) hm hsrc (hm.val x).2 (by intro r hr;obtain ⟨n,_,rfl⟩:=List.mem_map.1 hr;rfl)
     have hconv:=run_convert_bytes_string (P:=P) w s t e ad (ns.map (fun n=>[D.int .u8 n])).length c hu hu3 hu2
     have hyv:YV P w (Ex X β st.own) β st.next (convert s t (a.eval x)) k:=by
      refine YV.str h ?_
      rw [hvx,hconv];cases ad with
      | none=>
       obtain ⟨hn,rfl⟩:=hnone rfl;have:ns=[]:=by simpa using hn
       subst this;simp [Conv.bytesToString];rfl
      | some a0=>
       obtain ⟨news,hnc,hnews⟩:=hsome a0 rfl;have hn:news=ns.map (Value.int .u8):=zmy hnc
       subst hn;have hl:=run_loadCells_list (P:=P) w a0 _ hnews;rw [List.length_map] at hl;rw [List.length_map,run_bytesToString (P:=P) w a0 ns.length c ns hl,fold_push];rw [show (ByteArray.empty).data = #[] from rfl];simp
     exact .zik hyv (fun v hv=>by simp [execOp,ho,hv])
    ·exact h.elim
   ·exact h.elim
  ·exact h.elim
 ·rename_i e _ _ _ _ hs ht
  obtain ⟨i,u,z,hi,hu,hz,hkd,_⟩:=zat hs;have:=zek hkd.symm;subst this
  obtain ⟨i2,u2,z2,hi2,hu2,hz2,hkd2,_⟩:=zat ht;have:=za5 hkd2.symm;subst this
  split at h
  ·rename_i b he hx
   obtain ⟨i3,u3,z3,hi3,hu3,hz3,hkd3,_⟩:=zat he;have:=kind_int hkd3.symm;subst this
   obtain ⟨hb,h⟩:=h;have hv:=(hm.val x).2;rw [hx] at hv;simp only [Sm,R] at hv;intro K Q hN;have hrun:=Lib.run_convert_string_bytes (P:=P) w s t e b hu hu2 hu3;have hbel:Below w.heap.size w (Lib.bytesWorld w e b):=
    ⟨⟨rfl,rfl,rfl,by rw [Lib.bytesWorld_size];omega,fun k hk=>Lib.bytesWorld_at_old w e b k hk⟩,fun _=>Nat.le_succ _⟩
   unfold Oper.wp;have:(execOp a.eval o).run P w = .ok (.value (.slice (some ⟨w.heap.size,0,none⟩) b.size (grownCap w b.size 0 e))) (Lib.bytesWorld w e b):=by
    simp [execOp,ho,hv,hrun]
   rw [this];refine hN _ _ _ h (by simp [Sym.lo]) hbel ?_
   have hlen:(za7 b).length=b.size:=by unfold za7;rw [List.length_map];rfl
   simp only [Sm,R];refine ⟨_,_,by rw [hlen],by rw [hlen];exact grownCap_ge w _ _ _,grownCap_le_maxLen w _ _ _ hb,by simp,fun hne=>⟨w.heap.size,0,rfl,fun hex=>?_,by rw [Lib.bytesWorld_size];omega,?_⟩⟩
   ·have:=hm.lt _ hex;omega
   ·have hsz:rowLen (za7 b)=1:=by
     cases hr:za7 b with
     | nil=>exact absurd hr hne
     | cons r rs=>
      have:r∈za7 b:=by rw [hr];simp
      simp only [za7,List.mem_map] at this;obtain ⟨_,_,rfl⟩:=this;rfl
    rw [hsz];refine zb2.of_flat (by intro r hr;simp only [za7,List.mem_map] at hr;obtain ⟨_,_,rfl⟩:=hr;rfl) ?_
    have hfl:(za7 b).flatten=b.data.toList.map (fun c=>D.int .u8 (c.toNat:Int)):=by
     unfold za7;induction b.data.toList with
     | nil=>rfl
     | cons c l ih=>simp [ih]
    rw [hfl];refine Rrow.of_cells (vs:=b.data.toList.map (fun c=>Value.int .u8 (c.toNat:Int))) ?_ fun j u hj=>?_
    ·have : ∀ l:List UInt8,zae (Lib.bytesWorld w e b) (Ex X β st.own) (l.map fun c=>D.int .u8 (c.toNat:Int)) (l.map fun c=>Value.int .u8 (c.toNat:Int)):=by
      intro l;induction l with
      | nil=>simp [zae]
      | cons c l ih=>simp only [List.map_cons,zae];exact ⟨_,_,rfl,rfl,by simp [R],ih⟩
     exact this _
    ·rw [List.getElem?_map] at hj
     cases hc:b.data.toList[j]? with
     | none=>rw [hc] at hj;simp at hj
     | some c=>
      rw [hc] at hj;simp at hj;have hjl:j<b.size:=by
       exact (List.getElem?_eq_some_iff.1 hc).1
      rw [Nat.zero_add,Lib.bytesWorld_cell w e b j hjl];simp [List.getD,hc,hj]
  ·exact h.elim
 ·exact h.elim
def zol (st:St) (dst:Option Tmp) (t:Nat) (K:St→Prop):Prop:=K ((st.new (.map t [])).put dst (.mp st.next))
theorem zj1 (hm:Mods X w0 st β a w) {o:Oper} {t:Nat} (ho:o.op = .makeMap t none) (hd : ∀ t,o.dst=some t→t<st.n) {K:St→Prop} (h:zol st o.dst t K):Goes P X w0 o a w K:=by
 have hm':Mods X w0 (st.new (.map t [])) (fun i=>if i=st.next then .map (some w.heap.size) else β i) a (w.alloc (.map #[] 0)):=by
  refine hm.new (zbj w _) rfl trivial (fun b hb=>by simp [blk] at hb;omega) ?_
  exact ⟨w.heap.size,#[],0,by simp,.inl hm.below.size,(MapKept.heap_alloc w _).1,by simp [zci]⟩
 refine Goes.za6 (v:=.map (some w.heap.size)) (w':=w.alloc (.map #[] 0)) ?_ h (hm'.za0 hd (by simp [Sym.lo,St.new]) (by simp [Sm]))
 simp [execOp,ho,Instr.makeMap]
def zgz (P:Program) (st:St) (t:Nat) (m x v:Sym) (K:St→Prop):Prop:=
 match m,x,unD v,TI.of P t with
 | .mp id,.d x,some v,some ⟨.map kt _,_,_,_,_⟩=>match st.look id,TI.of P kt with
  | some (.map T rows),some tk=>zfw tk.kind x=true∧(match putD x v rows with
   | some rows'=>K {st with own:=aset id (.map T rows') st.own}
   | none=>False)
  | _,_=>False
 | _,_,_,_=>False
theorem zci.append {w:World} {E:Nat→Prop} {k v:D} {e:MapEntry} (hk:R w E k e.key) (hv:R w E v e.val) : ∀ {rows:List (List D)} {es:List MapEntry},zci w E rows es→zci w E (rows++[[k,v]]) (es++[e])
 | [],es,h=>by
  simp only [zci] at h;subst h;simp only [List.nil_append,zci];exact ⟨e,[],rfl,by simp only [za9];exact ⟨_,_,rfl,hk,_,_,rfl,hv,rfl⟩,rfl⟩
 | r::rs,es,h=>by
  simp only [zci] at h;obtain ⟨e1,es',rfl,h1,h2⟩:=h;simp only [List.cons_append,zci];exact ⟨e1,_,rfl,h1,zci.append hk hv h2⟩
theorem z1e {u:TypeDesc} {x d:D} {v t:Value} {w:World} {E:Nat→Prop} (hk:zfw (zc4 P u) x=true) (hx:R w E x v) (hd:R w E d t) :
  ∀ {rows rows':List (List D)} {es:List MapEntry} {i:Nat},zci w E rows es→putD x d rows=some rows' →
   (Instr.findNow u v es i=some none∧∀ c,zci w E rows' (es++[{key:=v,val:=t,born:=c}])) ∨
   (∃ j e,Instr.findNow u v es i=some (some (i+j,e.val))∧es[j]?=some e∧e.key=v∧zci w E rows' (es.modify j fun e=>{e with key:=v,val:=t}))
 | [],rows',es,i,he,h=>by
  simp only [zci] at he;subst he;simp [putD] at h;subst h;exact .inl ⟨rfl,fun c=>by simp only [List.nil_append,zci];exact ⟨_,[],rfl,by simp only [za9];exact ⟨_,_,rfl,hx,_,_,rfl,hd,rfl⟩,rfl⟩⟩
 | []::_,rows',es,i,he,h=>by simp [putD] at h
 | [_]::_,rows',es,i,he,h=>by simp [putD] at h
 | (_::_::_::_)::_,rows',es,i,he,h=>by simp [putD] at h
 | [k,y]::rs,rows',es,i,he,h=>by
  simp only [zci,za9] at he;obtain ⟨e,es',rfl,⟨v1,l1,e1,hr1,v2,l2,rfl,hr2,rfl⟩,hes⟩:=he;simp at e1
  obtain ⟨rfl,rfl⟩:=e1;simp only [putD] at h;split at h
  ·rename_i hq
   simp at h;subst h
   have hn:=(zij hk hx hr1 hq).1;have hkeys:MapKept.IsKey u v:=z07 hk hx
   have hke:e.key=v:=by
    obtain ⟨r,q1,q2⟩:=MapKept.sameNow_of_keys hkeys (z07 (zij hk hx hr1 hq).2 hr1);rw [hn] at q1;simp at q1;exact (q2.1 q1).symm
   refine .inr ⟨0,e,by simp [Instr.findNow,hn],by simp,hke,?_⟩
   simp only [List.modify_zero_cons,zci];exact ⟨_,es',rfl,by simp only [za9];exact ⟨_,_,rfl,hx,_,_,rfl,hd,rfl⟩,hes⟩
  ·rename_i hq
   have hn:=(zij hk hx hr1 hq).1;split at h
   ·rename_i r' hr'
    simp at h;subst h
    rcases z1e hk hx hd (i:=i+1) hes hr' with ⟨q1,q2⟩ | ⟨j,e',q1,q2,q3,q4⟩
    ·refine .inl ⟨by simpa [Instr.findNow,hn] using q1,fun c=>?_⟩
     simp only [List.cons_append,zci];exact ⟨e,_,rfl,by simp only [za9];exact ⟨_,_,rfl,hr1,_,_,rfl,hr2,rfl⟩,q2 c⟩
    ·refine .inr ⟨j+1,e',?_,by simpa using q2,q3,?_⟩
     ·simp only [Instr.findNow,hn];rw [q1];congr 3;omega
     ·simp only [List.modify_succ_cons,zci]
      exact ⟨e,_,rfl,by simp only [za9];exact ⟨_,_,rfl,hr1,_,_,rfl,hr2,rfl⟩,q4⟩
   ·cases h
  ·cases h
theorem zhw (hm:Mods X w0 st β a w) {o:Oper} {t:Nat} {m x v:Operand} (ho:o.op = .mapUpdate t m x v) (hd:o.dst=none) {K:St→Prop}
  (h:zgz P st t (st.val m) (st.val x) (st.val v) K):Goes P X w0 o a w K:=by
 unfold zgz at h
 split at h
 ·rename_i id y d kt _ _ _ _ _ hmv hxv hvv ht
  split at h
  ·rename_i T rows tk hob htk
   obtain ⟨hkey,h⟩:=h;split at h
   ·rename_i rows' hput
    obtain ⟨j,u,z,hi,hu,hz,hkd,_⟩:=zat ht;have:=z05 hkd.symm;subst this
    obtain ⟨ik,uk,zk,hik,huk,hzk,hkk,_⟩:=zat htk;rw [hkk] at hkey;obtain ⟨_,_,r,es,clock,hb,hN,hh,hents⟩:=hm.obj hob;have hma:=(hm.val m).2;rw [hmv] at hma;simp only [Sm] at hma;have hxa:=(hm.val x).2;rw [hxv] at hxa;simp only [Sm] at hxa;have hva:=zpp hvv (hm.val v).2;have hkv:=z07 hkey hxa;have hck:=MapKept.run_checkKey (P:=P) (w:=w) huk hkv false 9999;have fin : ∀ es' clock',(Instr.mapUpdate t (a.eval m) (a.eval x) (a.eval v)).run P w = .ok () {w with heap:=w.heap.setIfInBounds r (.map es' clock')}→zci w (Ex X β st.own) rows' es'.toList→Goes P X w0 o a w K:=by
     intro es' clock' hrun hents';have hset:=MapKept.heap_set (o':=.map es' clock') hh;have hbE:Ex X β st.own r:=.inr ⟨id,_,zaw hob,by rw [hb];rfl⟩
     have hov:=zlk (w':={w with heap:=w.heap.setIfInBounds r (.map es' clock')}) hbE (fun c hc=>hset.2 c hc)
     refine Goes.zy9 (β':=β) (w':={w with heap:=w.heap.setIfInBounds r (.map es' clock')}) ?_ h ?_
     ·simp [execOp,ho,hrun]
     ·have hput':(a.put o.dst undef)=a:=by rw [hd];rfl
      try rw [hput']
      refine hm.update hob (b:=r) (by rw [hb];rfl) hN (fun c hc=>hset.2 c hc) (by simp) rfl rfl rfl (fun _=>by simp) trivial ?_
      exact ⟨r,es',clock',hb,hN,hset.1,zci.over hov _ _ hents'⟩
    rcases z1e (P:=P) hkey hxa hva (i:=0) hents hput with ⟨q1,q2⟩ | ⟨j,e,q1,q2,q3,q4⟩
    ·refine fin (es.push {key:=a.eval x,val:=a.eval v,born:=clock}) (clock+1) ?_ (by simpa using q2 clock)
     simp [Instr.mapUpdate,run_underlying hu,hma,hb,MapKept.run_getObj_map hh,hck,MapKept.run_findKey huk q1,MapKept.run_setObj_map _ hh]
    ·have hj:es[j]?=some e:=by simpa using q2
     refine fin (es.modify j fun e=>{e with key:=a.eval x,val:=a.eval v}) clock ?_ (by simpa using q4)
     simp [Instr.mapUpdate,run_underlying hu,hma,hb,MapKept.run_getObj_map hh,hck,MapKept.run_findKey huk q1,hj,q3,MapKept.run_keyThatStays hkv,MapKept.run_setObj_map _ hh]
   ·exact h.elim
  ·exact h.elim
 ·exact h.elim
def z8d (P:Program) (st:St) (dst:Option Tmp) (t:Nat) (l c:Sym) (K:St→Prop):Prop:=
 match TI.of P t,l,c with
 | some ⟨.slice e,_,_,_,_⟩,.d (.int _ l),.d (.int _ c)=>match TI.of P e with
  | some te=>match allD (te.zero.map ofConst) with
   | some x=>0<te.size∧te.zero.length=te.size∧te.zero.all (·.oneCell')=true∧0≤l∧l≤c∧(te.bytes:Int)*c≤281474976710656∧c≤maxLen ∧
     K ((st.new (.arr e te.size (List.replicate l.toNat x))).put dst (.ar st.next))
   | none=>False
  | none=>False
 | _,_,_=>False
theorem zlr (zs:List Value) : ∀ (l c:Nat),l≤c→(List.replicate c zs).flatten.take (l*zs.length)=(List.replicate l zs).flatten
 | 0,c,_=>by simp
 | l+1,0,h=>by omega
 | l+1,c+1,h=>by
  simp only [List.replicate_succ,List.flatten_cons];rw [Nat.add_mul,Nat.one_mul,Nat.add_comm,List.take_append,List.take_of_length_le (by omega)]
  rw [show zs.length+l*zs.length-zs.length=l*zs.length by omega,zlr zs l c (by omega)]
theorem zp2 (hm:Mods X w0 st β a w) {o:Oper} {t:Nat} {l c:Operand} (ho:o.op = .makeSlice t l c) (hd : ∀ t,o.dst=some t→t<st.n) {K:St→Prop}
  (h:z8d P st o.dst t (st.val l) (st.val c) K):Goes P X w0 o a w K:=by
 unfold z8d at h
 split at h
 ·rename_i e _ _ _ _ kl l' kc c' ht hl hc
  split at h
  ·rename_i te hte
   split at h
   ·rename_i x hx
    obtain ⟨h1,hzl,hz1,h2,h3,h4,h5,h⟩:=h;obtain ⟨j,u,zz,hi,hu,hzz,hkd,_⟩:=zat ht;have:=za5 hkd.symm;subst this
    obtain ⟨ie,ue,ze,hie,hue,hze,_,hsz,hby,_,hzc⟩:=zat hte;have hlv:=(hm.val l).2;rw [hl] at hlv;simp only [Sm,R] at hlv;have hcv:=(hm.val c).2;rw [hc] at hcv;simp only [Sm,R] at hcv;have hrun:=run_make (P:=P) w t e ie ze hu hie hze kl kc l' c' h2 h3 (by rw [← hby];exact h4) (by simp only [maxLen] at h5;omega)
    have hzs:ze.cells.size=ie.size:=by rw [← hsz,← hzl,hzc];simp
    have hcl:(madeCells ze.cells (c'.toNat*ie.size)).toList=(List.replicate c'.toNat te.zero).flatten:=by
     unfold madeCells;rw [← hzs,zda,hzc]
    obtain ⟨cs,hcs⟩ : ∃ cs,madeCells ze.cells (c'.toNat*ie.size)=cs:=⟨_,rfl⟩;rw [hcs] at hrun hcl;have hzr : ∀ E,zae (w.alloc (.cells cs e)) E x te.zero:=fun E=>zgy hx hz1
    have hxl:x.length=te.size:=by rw [zfm hx];simpa using hzl
    have hfl : ∀ n,(List.replicate n te.zero).flatten.length=n*te.size:=by
     intro n;induction n with
     | zero=>simp
     | succ n ih=>rw [List.replicate_succ,List.flatten_cons,List.length_append,ih,hzl,Nat.add_mul];omega
    have hm':Mods X w0 (st.new (.arr e te.size (List.replicate l'.toNat x))) (fun i=>if i=st.next then .slice (some ⟨w.heap.size,0,none⟩) l'.toNat c'.toNat else β i) a (w.alloc (.cells cs e)):=by
     refine hm.new (zbj w _) rfl trivial (fun b hb=>by simp [blk] at hb;omega) ?_
     refine ⟨(List.replicate l'.toNat te.zero).flatten,⟨⟨?_,.inr ⟨w.heap.size,c'.toNat,cs,by simp,Nat.zero_le _,Go.heap_alloc_new w _,by simp;omega,by simp only [maxLen] at h5 ⊢;omega,?_,?_⟩⟩,fun b hb=>⟨.inl (by simp [blk] at hb;have:=hm.below.size;omega),by
      simp [blk] at hb;subst hb;exact zcv.of (Go.heap_alloc_new w _) (fun u hu=>by rw [hcl] at hu;exact ((hzr (fun _=>False)).replicate _).one u hu)⟩⟩,(hzr _).replicate _,by intro r hr;rw [(List.mem_replicate.1 hr).2];exact hxl⟩
     ·rw [hfl];simp
     ·have:cs.size=cs.toList.length:=(Array.length_toList).symm
      rw [this,hcl,hfl]
     ·rw [hcl]
      have:=zlr te.zero l'.toNat c'.toNat (by omega)
      rw [hzl] at this;simpa using this
    refine Goes.za6 (v:=.slice (some ⟨w.heap.size,0,none⟩) l'.toNat c'.toNat) (w':=w.alloc (.cells cs e)) ?_ h (hm'.za0 hd (by simp [Sym.lo,St.new]) (by simp [Sm]))
    simp [execOp,ho,hlv,hcv,hrun]
   ·exact h.elim
  ·exact h.elim
 ·exact h.elim
theorem zwu {α:Type} {t:Nat} {v:α} : ∀ {l:List (Nat×α)},zab l t=some v→aset t v l=l
 | [],h=>by simp [zab] at h
 | (k,u)::r,h=>by
  simp only [zab] at h;simp only [aset];split at h
  ·rename_i e;simp at h;subst h;simp [e]
  ·rename_i e;rw [if_neg e,zwu h]
def zwv (P:Program) (st:St) (dst:Option Tmp) (t:Nat) (x:Sym) (K:St→Prop):Prop:=
 match TI.of P t,x with
 | some ⟨.str,_,_,_,_⟩,.d (.str s)=>K ((st.new (.raw (.it s 0) [])).put dst (.bp st.next 0))
 | _,_=>False
def z1f (s:ByteArray) (pos:Nat):Nat×D:=
 if pos<s.size then (pos+(Utf8.decode s pos).2,.tup [.bool true,.int .i64 (pos:Int),.int .i32 ((Utf8.decode s pos).1:Int)])
 else (pos,.tup [.bool false])
def z8e (st:St) (dst:Option Tmp) (x:Sym) (K:St→Prop):Prop:=
 match x with
 | .bp id 0=>match st.look id with
  | some (.raw (.it s pos) [])=>K (({st with own:=aset id (.raw (.it s (z1f s pos).1) []) st.own}:St).put dst (.d (z1f s pos).2))
  | _=>False
 | _=>False
theorem znx (hm:Mods X w0 st β a w) {o:Oper} {t:Nat} {x:Operand} (ho:o.op = .range t x) (hd : ∀ t,o.dst=some t→t<st.n) {K:St→Prop} (h:zwv P st o.dst t (st.val x) K):Goes P X w0 o a w K:=by
 unfold zwv at h
 split at h
 ·rename_i s ht hx
  obtain ⟨i,u,z,hi,hu,hz,hkd,_⟩:=zat ht;have:=zek hkd.symm;subst this
  have hv:=(hm.val x).2;rw [hx] at hv;simp only [Sm,R] at hv;have hm':Mods X w0 (st.new (.raw (.it s 0) [])) (fun i=>if i=st.next then .pointer (some ⟨w.heap.size,0,none⟩) else β i) a (w.alloc (.stringIter s 0)):=by
   refine hm.new (zbj w _) rfl trivial (fun b hb=>by simp [blk] at hb;omega) ?_
   exact ⟨w.heap.size,0,0,[],by simp,.inl hm.below.size,(MapKept.heap_alloc w _).1,by simp [Sms]⟩
  refine Goes.za6 (v:=.pointer (some ⟨w.heap.size,0,none⟩)) (w':=w.alloc (.stringIter s 0)) ?_ h (hm'.za0 hd (by simp [Sym.lo,St.new]) (by simp [Sm]))
  simp [execOp,ho,Instr.range,run_underlying hu,hv]
 ·exact h.elim
theorem zls {w:World} {r:Nat} {s:ByteArray} {pos:Nat} (h:w.heap[r]?=some (.stringIter s pos)):(getObj r).run P w = .ok (.stringIter s pos) w:=by simp [getObj,Sem.run,h]
theorem zue {w:World} {r:Nat} {s:ByteArray} {pos:Nat} (o:Obj) (h:w.heap[r]?=some (.stringIter s pos)):(setObj r o).run P w = .ok () (w.putObj r o):=by simp [setObj,Sem.run,h,World.putObj]
theorem zp3 (hm:Mods X w0 st β a w) {o:Oper} {x:Operand} (ho:o.op = .next x true) (hd : ∀ t,o.dst=some t→t<st.n) {K:St→Prop} (h:z8e st o.dst (st.val x) K):Goes P X w0 o a w K:=by
 unfold z8e at h
 split at h
 ·rename_i id hx
  split at h
  ·rename_i s pos hob
   have hv:=(hm.val x).2;rw [hx] at hv;simp only [Sm] at hv;obtain ⟨b0,hb0,hxv⟩:=hv;obtain ⟨_,_,b,fn,D,vs,hb,hN,hh,hs⟩:=hm.obj hob;rw [hb] at hb0;obtain rfl:b=b0:=by simpa using hb0
   simp only [RK.obj] at hh;have hvs:vs=[]:=by simpa [Sms] using hs
   unfold z1f at h;by_cases hp:pos<s.size
   ·rw [if_pos hp] at h
    simp only at h
    have hlt:=(Array.getElem?_eq_some_iff.1 hh).1;refine Goes.za6 (β':=β) (v:=.tuple #[.bool true,.int .i64 (pos:Int),.int .i32 ((Utf8.decode s pos).1:Int)]) (w':=w.putObj b (.stringIter s (pos+(Utf8.decode s pos).2))) ?_ h ?_
    ·simp [execOp,ho,hxv,Instr.next,zls hh,zue _ hh,hp,goInt]
    ·refine (hm.update (w':=w.putObj b (.stringIter s (pos+(Utf8.decode s pos).2))) hob (b:=b) (by rw [hb];rfl) hN (fun c hc=>World.putObj_heap_other hc) (by simp) rfl rfl rfl (fun _=>Nat.le_refl _) (by simp [Obj'.lo,Sym.los]) ?_).za0 hd (by simp [Sym.lo]) (by simp [Sm,R,za9])
     exact ⟨b,fn,D,[],hb,hN,by simp only [RK.obj];exact World.putObj_heap_same hlt,by simp [Sms]⟩
   ·rw [if_neg hp] at h
    simp only at h
    have hsame:({st with own:=aset id (.raw (.it s pos) []) st.own}:St)=st:=by
     have:aset id (Obj'.raw (.it s pos) []) st.own=st.own:=zwu (by simpa [St.look] using hob)
     rw [this]
    rw [hsame] at h;refine Goes.za6 (v:=.tuple #[.bool false]) (w':=w) ?_ h (hm.za0 hd (by simp [Sym.lo]) (by simp [Sm,R,za9]))
    simp [execOp,ho,hxv,Instr.next,zls hh,hp]
  ·exact h.elim
 ·exact h.elim
end
end Go.V
namespace Go.V
variable [Dr] [Ov]
open Go.RowKit
mutual
def ren (ρ:Nat→Nat):Sym→Sym
 | .bp i o=>.bp (ρ i) o
 | .ar i=>.ar (ρ i)
 | .ap i s j o=>.ap (ρ i) s j o
 | .aS i s j o=>.aS (ρ i) s j o
 | .av i s j o=>.av (ρ i) s j o
 | .yd i=>.yd (ρ i)
 | .mp i=>.mp (ρ i)
 | .tup l=>.tup (rens ρ l)
 | .agg l=>.agg (rens ρ l)
 | .fn f l=>.fn f (rens ρ l)
 | .d x=>.d x
 | .nils=>.nils
 | .junk=>.junk
def rens (ρ:Nat→Nat):List Sym→List Sym
 | []=>[]
 | s::r=>ren ρ s::rens ρ r
end
def zcm (ρ:Nat→Nat):Obj'→Obj'
 | .box T cells=>.box T (rens ρ cells)
 | .arr T sz rows=>.arr T sz rows
 | .map T rows=>.map T rows
 | .raw k cells=>.raw k (rens ρ cells)
section
variable {ρ:Nat→Nat} {β β':Nat→Value} {w w':World} {E E':Nat→Prop} {m m':Nat}
mutual
theorem yc4 (hβ : ∀ i,i<m→β' (ρ i)=β i) : ∀ {s:Sym} {v:Value},Sym.lo m s→Sm w E β s v→Sm w E β' (ren ρ s) v
 | .bp i o,v,hl,h=>by simp only [ren,Sm,Sym.lo] at hl h ⊢;rw [hβ i hl];exact h
 | .ar i,v,hl,h=>by simp only [ren,Sm,Sym.lo] at hl h ⊢;rw [hβ i hl];exact h
 | .ap i s j o,v,hl,h=>by simp only [ren,Sm,Sym.lo] at hl h ⊢;rw [hβ i hl];exact h
 | .aS i s j o,v,hl,h=>by simp only [ren,Sm,Sym.lo] at hl h ⊢;rw [hβ i hl];exact h
 | .av i s j o,v,hl,h=>by simp only [ren,Sm,Sym.lo] at hl h ⊢;rw [hβ i hl];exact h
 | .yd i,v,hl,h=>by simp only [ren,Sm,Sym.lo] at hl h ⊢;rw [hβ i hl];exact h
 | .mp i,v,hl,h=>by simp only [ren,Sm,Sym.lo] at hl h ⊢;rw [hβ i hl];exact h
 | .tup l,v,hl,h=>by
  simp only [ren,Sm,Sym.lo] at hl h ⊢;obtain ⟨vs,h1,h2⟩:=h;exact ⟨vs,h1,zmz hβ hl h2⟩
 | .agg l,v,hl,h=>by
  simp only [ren,Sm,Sym.lo] at hl h ⊢;obtain ⟨vs,h1,h2,h3⟩:=h;exact ⟨vs,h1,zmz hβ hl h2,h3⟩
 | .fn f l,v,hl,h=>by
  simp only [ren,Sm,Sym.lo] at hl h ⊢;obtain ⟨vs,h1,h2⟩:=h;exact ⟨vs,h1,zmz hβ hl h2⟩
 | .d x,v,hl,h=>by simpa [ren,Sm] using h
 | .nils,v,hl,h=>by simpa [ren,Sm] using h
 | .junk,v,hl,h=>by simp [ren,Sm]
theorem zmz (hβ : ∀ i,i<m→β' (ρ i)=β i) : ∀ {l:List Sym} {vs:List Value},Sym.los m l→Sms w E β l vs→Sms w E β' (rens ρ l) vs
 | [],vs,hl,h=>by simpa [rens,Sms] using h
 | s::r,vs,hl,h=>by
  simp only [rens,Sms,Sym.los] at hl h ⊢;obtain ⟨v,vs',rfl,h1,h2⟩:=h;exact ⟨v,vs',rfl,yc4 hβ hl.1 h1,zmz hβ hl.2 h2⟩
end
mutual
theorem yfo (hβ : ∀ i,i<m→β' (ρ i)=β i) : ∀ {s:Sym} {v:Value},Sym.lo m s→Sm w E β' (ren ρ s) v→Sm w E β s v
 | .bp i o,v,hl,h=>by simp only [ren,Sm,Sym.lo] at hl h ⊢;rw [← hβ i hl];exact h
 | .ar i,v,hl,h=>by simp only [ren,Sm,Sym.lo] at hl h ⊢;rw [← hβ i hl];exact h
 | .ap i s j o,v,hl,h=>by simp only [ren,Sm,Sym.lo] at hl h ⊢;rw [← hβ i hl];exact h
 | .aS i s j o,v,hl,h=>by simp only [ren,Sm,Sym.lo] at hl h ⊢;rw [← hβ i hl];exact h
 | .av i s j o,v,hl,h=>by simp only [ren,Sm,Sym.lo] at hl h ⊢;rw [← hβ i hl];exact h
 | .yd i,v,hl,h=>by simp only [ren,Sm,Sym.lo] at hl h ⊢;rw [← hβ i hl];exact h
 | .mp i,v,hl,h=>by simp only [ren,Sm,Sym.lo] at hl h ⊢;rw [← hβ i hl];exact h
 | .tup l,v,hl,h=>by
  simp only [ren,Sm,Sym.lo] at hl h ⊢;obtain ⟨vs,h1,h2⟩:=h;exact ⟨vs,h1,zgb hβ hl h2⟩
 | .agg l,v,hl,h=>by
  simp only [ren,Sm,Sym.lo] at hl h ⊢;obtain ⟨vs,h1,h2,h3⟩:=h;exact ⟨vs,h1,zgb hβ hl h2,h3⟩
 | .fn f l,v,hl,h=>by
  simp only [ren,Sm,Sym.lo] at hl h ⊢;obtain ⟨vs,h1,h2⟩:=h;exact ⟨vs,h1,zgb hβ hl h2⟩
 | .d x,v,hl,h=>by simpa [ren,Sm] using h
 | .nils,v,hl,h=>by simpa [ren,Sm] using h
 | .junk,v,hl,h=>by simp [Sm]
theorem zgb (hβ : ∀ i,i<m→β' (ρ i)=β i) : ∀ {l:List Sym} {vs:List Value},Sym.los m l→Sms w E β' (rens ρ l) vs→Sms w E β l vs
 | [],vs,hl,h=>by simpa [rens,Sms] using h
 | s::r,vs,hl,h=>by
  simp only [rens,Sms,Sym.los] at hl h ⊢;obtain ⟨v,vs',rfl,h1,h2⟩:=h;exact ⟨v,vs',rfl,yfo hβ hl.1 h1,zgb hβ hl.2 h2⟩
end
mutual
theorem yc5 (hρ : ∀ i,i<m→ρ i<m') : ∀ {s:Sym},Sym.lo m s→Sym.lo m' (ren ρ s)
 | .bp i o,hl=>by simp only [ren,Sym.lo] at hl ⊢;exact hρ i hl
 | .ar i,hl=>by simp only [ren,Sym.lo] at hl ⊢;exact hρ i hl
 | .ap i s j o,hl=>by simp only [ren,Sym.lo] at hl ⊢;exact hρ i hl
 | .aS i s j o,hl=>by simp only [ren,Sym.lo] at hl ⊢;exact hρ i hl
 | .av i s j o,hl=>by simp only [ren,Sym.lo] at hl ⊢;exact hρ i hl
 | .yd i,hl=>by simp only [ren,Sym.lo] at hl ⊢;exact hρ i hl
 | .mp i,hl=>by simp only [ren,Sym.lo] at hl ⊢;exact hρ i hl
 | .tup l,hl=>by simp only [ren,Sym.lo] at hl ⊢;exact zm0 hρ hl
 | .agg l,hl=>by simp only [ren,Sym.lo] at hl ⊢;exact zm0 hρ hl
 | .fn f l,hl=>by simp only [ren,Sym.lo] at hl ⊢;exact zm0 hρ hl
 | .d x,hl=>by simp [ren,Sym.lo]
 | .nils,hl=>by simp [ren,Sym.lo]
 | .junk,hl=>by simp [ren,Sym.lo]
theorem zm0 (hρ : ∀ i,i<m→ρ i<m') : ∀ {l:List Sym},Sym.los m l→Sym.los m' (rens ρ l)
 | [],hl=>by simp [rens,Sym.los]
 | s::r,hl=>by simp only [rens,Sym.los] at hl ⊢;exact ⟨yc5 hρ hl.1,zm0 hρ hl.2⟩
end
theorem z8f (hρ : ∀ i,i<m→ρ i<m') {o:Obj'} (h:o.lo m):(zcm ρ o).lo m':=by
 cases o with
 | box T cells=>exact zm0 hρ h
 | arr=>trivial
 | map=>trivial
 | raw k cells=>exact zm0 hρ h
theorem z8g {N N':Nat→Prop} (hβ : ∀ i,i<m→β' (ρ i)=β i) (hN : ∀ b,N b→N' b) {i:Nat} (hi:i<m) {o:Obj'} (hl:o.lo m) (h:zc9 w N E β i o):zc9 w N' E β' (ρ i) (zcm ρ o):=by
 cases o with
 | box T cells=>
  obtain ⟨b,vs,h1,h2,h3,h4,h5⟩:=h;exact ⟨b,vs,by rw [hβ i hi];exact h1,hN b h2,h3,zmz hβ hl h4,h5⟩
 | arr T sz rows=>
  obtain ⟨xs,h1,h2,h3⟩:=h;exact ⟨xs,by rw [hβ i hi];exact ⟨h1.1,fun b hb=>⟨hN b (h1.2 b hb).1,(h1.2 b hb).2⟩⟩,h2,h3⟩
 | map T rows=>
  obtain ⟨r,es,clock,h1,h2,h3,h4⟩:=h;exact ⟨r,es,clock,by rw [hβ i hi];exact h1,hN r h2,h3,h4⟩
 | raw k cells=>
  obtain ⟨b,fn,D,vs,h1,h2,h3,h4⟩:=h;exact ⟨b,fn,D,vs,by rw [hβ i hi];exact h1,hN b h2,h3,zmz hβ hl h4⟩
theorem z8h {N N':Nat→Prop} (hβ : ∀ i,i<m→β' (ρ i)=β i) {i:Nat} (hi:i<m) (hN : ∀ b,blk (β i)=some b→N' b) {o:Obj'} (hl:o.lo m) (h:zc9 w N E β' (ρ i) (zcm ρ o)):zc9 w N' E β i o:=by
 cases o with
 | box T cells=>
  obtain ⟨b,vs,h1,h2,h3,h4,h5⟩:=h;rw [hβ i hi] at h1;exact ⟨b,vs,h1,hN b (by rw [h1];rfl),h3,zgb hβ hl h4,h5⟩
 | arr T sz rows=>
  obtain ⟨xs,h1,h2,h3⟩:=h;rw [hβ i hi] at h1;exact ⟨xs,⟨h1.1,fun b hb=>⟨hN b hb,(h1.2 b hb).2⟩⟩,h2,h3⟩
 | map T rows=>
  obtain ⟨r,es,clock,h1,h2,h3,h4⟩:=h;rw [hβ i hi] at h1;exact ⟨r,es,clock,h1,hN r (by rw [h1];rfl),h3,h4⟩
 | raw k cells=>
  obtain ⟨b,fn,D,vs,h1,h2,h3,h4⟩:=h;rw [hβ i hi] at h1;exact ⟨b,fn,D,vs,h1,hN b (by rw [h1];rfl),h3,zgb hβ hl h4⟩
end
mutual
def zar (M:List Nat):Sym→Sym
 | .ar i=>if i∈M then .junk else .ar i
 | .ap i s j o=>if i∈M then .junk else .ap i s j o
 | .aS i s j o=>if i∈M then .junk else .aS i s j o
 | .av i s j o=>if i∈M then .junk else .av i s j o
 | .yd i=>if i∈M then .junk else .yd i
 | .bp i o=>if i∈M then .junk else .bp i o
 | .mp i=>if i∈M then .junk else .mp i
 | .agg l=>.agg (zbt M l)
 | .tup l=>.tup (zbt M l)
 | .fn f l=>.fn f (zbt M l)
 | .d x=>.d x
 | .nils=>.nils
 | .junk=>.junk
def zbt (M:List Nat):List Sym→List Sym
 | []=>[]
 | s::r=>zar M s::zbt M r
end
def zbl (M:List Nat):Obj'→Obj'
 | .box T cells=>.box T (zbt M cells)
 | .arr T sz rs=>.arr T sz rs
 | .map T rs=>.map T rs
 | .raw k cells=>.raw k (zbt M cells)
def za8 (M:List Nat):List (Nat×Sym)→List (Nat×Sym)
 | []=>[]
 | (t,s)::r=>(t,zar M s)::za8 M r
section
variable {M:List Nat} {β β':Nat→Value} {w w':World} {E E':Nat→Prop} {m:Nat}
mutual
theorem zww : ∀ {s:Sym},Sym.lo m s→Sym.lo m (zar M s)
 | .ar i,h=>by simp only [zar];split <;> simp_all [Sym.lo]
 | .ap i s j o,h=>by simp only [zar];split <;> simp_all [Sym.lo]
 | .aS i s j o,h=>by simp only [zar];split <;> simp_all [Sym.lo]
 | .av i s j o,h=>by simp only [zar];split <;> simp_all [Sym.lo]
 | .yd i,h=>by simp only [zar];split <;> simp_all [Sym.lo]
 | .bp i o,h=>by simp only [zar];split <;> simp_all [Sym.lo]
 | .mp i,h=>by simp only [zar];split <;> simp_all [Sym.lo]
 | .agg l,h=>by simp only [zar,Sym.lo] at h ⊢;exact zfa h
 | .tup l,h=>by simp only [zar,Sym.lo] at h ⊢;exact zfa h
 | .fn f l,h=>by simp only [zar,Sym.lo] at h ⊢;exact zfa h
 | .d x,h=>by simpa [zar] using h
 | .nils,h=>by simpa [zar] using h
 | .junk,h=>by simpa [zar] using h
theorem zfa : ∀ {l:List Sym},Sym.los m l→Sym.los m (zbt M l)
 | [],h=>by simpa [zbt] using h
 | s::r,h=>by simp only [zbt,Sym.los] at h ⊢;exact ⟨zww h.1,zfa h.2⟩
end
mutual
theorem zwx (hβ : ∀ i,i<m→i∉M→β' i=β i) (hov:Over w E w' E') : ∀ {s:Sym} {v:Value},Sym.lo m s→Sm w E β s v→Sm w' E' β' (zar M s) v
 | .ar i,v,hl,h=>by
  simp only [zar];split
  ·simp [Sm]
  ·rename_i hi;simp only [Sm,Sym.lo] at hl h ⊢;rw [hβ i hl hi];exact h
 | .ap i s j o,v,hl,h=>by
  simp only [zar];split
  ·simp [Sm]
  ·rename_i hi;simp only [Sm,Sym.lo] at hl h ⊢;rw [hβ i hl hi];exact h
 | .aS i s j o,v,hl,h=>by
  simp only [zar];split
  ·simp [Sm]
  ·rename_i hi;simp only [Sm,Sym.lo] at hl h ⊢;rw [hβ i hl hi];exact h
 | .av i s j o,v,hl,h=>by
  simp only [zar];split
  ·simp [Sm]
  ·rename_i hi;simp only [Sm,Sym.lo] at hl h ⊢;rw [hβ i hl hi];exact h
 | .yd i,v,hl,h=>by
  simp only [zar];split
  ·simp [Sm]
  ·rename_i hi;simp only [Sm,Sym.lo] at hl h ⊢;rw [hβ i hl hi];exact h
 | .bp i o,v,hl,h=>by
  simp only [zar];split
  ·simp [Sm]
  ·rename_i hi;simp only [Sm,Sym.lo] at hl h ⊢;rw [hβ i hl hi];exact h
 | .mp i,v,hl,h=>by
  simp only [zar];split
  ·simp [Sm]
  ·rename_i hi;simp only [Sm,Sym.lo] at hl h ⊢;rw [hβ i hl hi];exact h
 | .agg l,v,hl,h=>by
  simp only [zar,Sm,Sym.lo] at hl h ⊢;obtain ⟨vs,rfl,h1,h2⟩:=h;exact ⟨vs,rfl,zfb hβ hov hl h1,h2⟩
 | .tup l,v,hl,h=>by
  simp only [zar,Sm,Sym.lo] at hl h ⊢;obtain ⟨vs,rfl,h1⟩:=h;exact ⟨vs,rfl,zfb hβ hov hl h1⟩
 | .fn f l,v,hl,h=>by
  simp only [zar,Sm,Sym.lo] at hl h ⊢;obtain ⟨vs,rfl,h1⟩:=h;exact ⟨vs,rfl,zfb hβ hov hl h1⟩
 | .d x,v,hl,h=>by simp only [zar,Sm] at h ⊢;exact R.over hov _ _ h
 | .nils,v,hl,h=>by simpa [zar,Sm] using h
 | .junk,v,hl,h=>by simp [zar,Sm]
theorem zfb (hβ : ∀ i,i<m→i∉M→β' i=β i) (hov:Over w E w' E') : ∀ {l:List Sym} {vs:List Value},Sym.los m l→Sms w E β l vs→Sms w' E' β' (zbt M l) vs
 | [],vs,hl,h=>by simpa [zbt,Sms] using h
 | s::r,vs,hl,h=>by
  simp only [zbt,Sms,Sym.los] at hl h ⊢;obtain ⟨v,vs',rfl,h1,h2⟩:=h;exact ⟨v,vs',rfl,zwx hβ hov hl.1 h1,zfb hβ hov hl.2 h2⟩
end
theorem zhx : ∀ {l:List (Nat×Sym)} {t:Nat} {s:Sym},zab (za8 M l) t=some s→∃ s',zab l t=some s'∧s=zar M s'
 | [],t,s,h=>by simp [za8,zab] at h
 | (k,u)::r,t,s,h=>by
  simp only [za8,zab] at h ⊢;split at h
  ·rename_i e;simp at h;exact ⟨u,by simp [e],h.symm⟩
  ·rename_i e;simp only [e,if_false];exact zhx h
theorem zwy {o:Obj'} (h:o.lo m):(zbl M o).lo m:=by
 cases o with
 | box T cells=>exact zfa h
 | arr=>trivial
 | map=>trivial
 | raw k cells=>exact zfa h
theorem zwz {N:Nat→Prop} (hβ : ∀ i,i<m→i∉M→β' i=β i) (hov:Over w E w' E') {id:Nat} (hid:β' id=β id) {o:Obj'} (hl:o.lo m)
  (hb : ∀ b,blk (β id)=some b→w'.heap[b]?=w.heap[b]?) (h:zc9 w N E β id o):zc9 w' N E' β' id (zbl M o):=by
 cases o with
 | box T cells=>
  obtain ⟨b,vs,h1,h2,h3,h4,h5⟩:=h;exact ⟨b,vs,by rw [hid];exact h1,h2,by rw [hb b (by rw [h1];rfl)];exact h3,zfb hβ hov hl h4,h5⟩
 | arr T sz rows=>
  obtain ⟨xs,h1,h2,h3⟩:=h;exact ⟨xs,by rw [hid];exact Owns.same h1 hb,zae.over hov _ _ h2,h3⟩
 | map T rows=>
  obtain ⟨r,es,clock,h1,h2,h3,h4⟩:=h;exact ⟨r,es,clock,by rw [hid];exact h1,h2,by rw [hb r (by rw [h1];rfl)];exact h3,zci.over hov _ _ h4⟩
 | raw k cells=>
  obtain ⟨b,fn,D,vs,h1,h2,h3,h4⟩:=h;exact ⟨b,fn,D,vs,by rw [hid];exact h1,h2,by rw [hb b (by rw [h1];rfl)];exact h3,zfb hβ hov hl h4⟩
end
end Go.V
namespace Go.V
variable [Dr] [Ov]
open Go.RowKit
def act0:Act:={tmps:=#[],defers:=[]}
def zde (own:List (Nat×Obj')) (n nx:Nat) (mv:List Nat):St:={n:=0,next:=nx,slots:=[],own:=own,base:=n,moved:=mv}
def zcb (P:Program) (f:Nat) (args:List Sym) (own:List (Nat×Obj')) (n:Nat) (s:Sym) (nx:Nat) (own':List (Nat×Obj')) (mv:List Nat):Prop:=
 callable P f=true∧∀ (X:Nat→Prop) (w0:Base) (β:Nat→Value) (w:World) (vs:List Value),w0.β0=β→Mods X w0 (zde own n n []) β act0 w→Sms w (Ex X β own) β args vs →
  Calls P f vs.toArray w fun e w'=>∃ β' v,e = .returned v∧Mods X w0 (zde own' n nx mv) β' act0 w'∧Sym.lo nx s∧Sm w' (Ex X β' own') β' s v
def rho (ids:List Nat) (i:Nat):Nat:=ids.getD i 0
def rho' (ids:List Nat) (nx i:Nat):Nat:=if i<ids.length then ids.getD i 0 else nx+(i-ids.length)
def zg0 (ρ:Nat→Nat):List (Nat×Obj')→List (Nat×Obj')
 | []=>[]
 | (i,o)::r=>(ρ i,zcm ρ o)::zg0 ρ r
def zdb (ids M:List Nat):List (Nat×Obj')→List (Nat×Obj')
 | []=>[]
 | (i,o)::r=>if i∈ids then zdb ids M r else (i,zbl M o)::zdb ids M r
def zf0 (st:St) (ids:List Nat):List (Nat×Obj')→Prop
 | []=>True
 | (i,o)::r=>(match st.look (rho ids i) with | some o'=>o'=zcm (rho ids) o | none=>False)∧o.lo ids.length∧zf0 st ids r
def Fits (st:St) (ids:List Nat) (own:List (Nat×Obj')):Prop:=ids.Nodup∧(∀ id∈ids,id<st.next)∧own.map (·.1)=List.range ids.length∧zf0 st ids own
def St.after (st:St) (ids:List Nat) (nx:Nat) (own':List (Nat×Obj')) (mv:List Nat):St:=
 {st with next:=st.next+(nx-ids.length),slots:=za8 (mv.map (rho' ids st.next)) st.slots,own:=zg0 (rho' ids st.next) own'++zdb ids (mv.map (rho' ids st.next)) st.own,moved:=mv.map (rho' ids st.next)++st.moved}
theorem zee {ρ:Nat→Nat} : ∀ {l:List (Nat×Obj')} {i:Nat} {o:Obj'},(i,o)∈zg0 ρ l→∃ j o',(j,o')∈l∧i=ρ j∧o=zcm ρ o'
 | [],i,o,h=>by cases h
 | (j,o')::r,i,o,h=>by
  simp only [zg0] at h;rcases List.mem_cons.1 h with e | h
  ·cases e;exact ⟨j,o',by simp,rfl,rfl⟩
  ·obtain ⟨k,x,h1,h2⟩:=zee h;exact ⟨k,x,List.mem_cons_of_mem _ h1,h2⟩
theorem zkm {ρ:Nat→Nat} : ∀ (l:List (Nat×Obj')),(zg0 ρ l).map (·.1)=(l.map (·.1)).map ρ
 | []=>rfl
 | (j,o')::r=>by simp only [zg0,List.map_cons,zkm r]
theorem zso {ρ:Nat→Nat} : ∀ {l:List (Nat×Obj')} {i:Nat} {o:Obj'},(i,o)∈l→(ρ i,zcm ρ o)∈zg0 ρ l
 | (j,o')::r,i,o,h=>by
  simp only [zg0];rcases List.mem_cons.1 h with e | h
  ·cases e;simp
  ·exact List.mem_cons_of_mem _ (zso h)
theorem zch {ids M:List Nat} : ∀ {l:List (Nat×Obj')} {i:Nat} {o:Obj'},(i,o)∈zdb ids M l→i∉ids∧∃ o',(i,o')∈l∧o=zbl M o'
 | [],i,o,h=>by cases h
 | (j,o')::r,i,o,h=>by
  simp only [zdb] at h;split at h
  ·obtain ⟨h1,x,h2,h3⟩:=zch h;exact ⟨h1,x,List.mem_cons_of_mem _ h2,h3⟩
  ·rename_i hj
   rcases List.mem_cons.1 h with e | h
   ·cases e;exact ⟨hj,o',by simp,rfl⟩
   ·obtain ⟨h1,x,h2,h3⟩:=zch h;exact ⟨h1,x,List.mem_cons_of_mem _ h2,h3⟩
theorem zkn {ids M:List Nat} : ∀ {l:List (Nat×Obj')} {i:Nat} {o:Obj'},i∉ids→(i,o)∈l→(i,zbl M o)∈zdb ids M l
 | (j,o')::r,i,o,hi,h=>by
  simp only [zdb];rcases List.mem_cons.1 h with e | h
  ·cases e;rw [if_neg hi];simp
  ·split
   ·exact zkn hi h
   ·exact List.mem_cons_of_mem _ (zkn hi h)
theorem zhk {ids M:List Nat} : ∀ {l:List (Nat×Obj')},(l.map (·.1)).Nodup→((zdb ids M l).map (·.1)).Nodup
 | [],_=>by simp [zdb]
 | (j,o')::r,hn=>by
  simp only [List.map_cons,List.nodup_cons] at hn;simp only [zdb];split
  ·exact zhk hn.2
  ·simp only [List.map_cons,List.nodup_cons]
   refine ⟨fun h=>hn.1 ?_,zhk hn.2⟩
   obtain ⟨⟨i,o⟩,hm,e⟩:=List.mem_map.1 h;obtain ⟨_,x,h2,_⟩:=zch hm;exact List.mem_map.2 ⟨(i,x),h2,e⟩
section
variable {P:Program} {X:Nat→Prop} {w0:Base} {st:St} {β:Nat→Value} {a:Act} {w w':World} {ids:List Nat} {own0:List (Nat×Obj')}
theorem zfc : ∀ {l:List (Nat×Obj')} {i:Nat} {o:Obj'},zf0 st ids l→(i,o)∈l→st.look (rho ids i)=some (zcm (rho ids) o)∧o.lo ids.length
 | (j,o')::r,i,o,hf,h=>by
  simp only [zf0] at hf;rcases List.mem_cons.1 h with e | h
  ·cases e
   refine ⟨?_,hf.2.1⟩
   have:=hf.1
   split at this
   ·rename_i x hx;rw [hx,this]
   ·exact this.elim
  ·exact zfc hf.2.2 h
theorem Fits.lt (hf:Fits st ids own0) {i:Nat} {o:Obj'} (h:(i,o)∈own0):i<ids.length:=by
 have:i∈own0.map (·.1):=List.mem_map.2 ⟨(i,o),h,rfl⟩
 rw [hf.2.2.1] at this
 exact List.mem_range.1 this
theorem zm1 {i:Nat} (h:i<ids.length):rho ids i∈ids:=by
 unfold rho;rw [List.getD_eq_getElem?_getD,List.getElem?_eq_getElem h];exact List.getElem_mem h
theorem zm2 (hn:ids.Nodup) {i:Nat} (h:i<ids.length):ids.idxOf (rho ids i)=i:=by
 unfold rho;rw [List.getD_eq_getElem?_getD,List.getElem?_eq_getElem h]
 exact hn.idxOf_getElem i h
theorem zuf {id:Nat} (h:id∈ids):rho ids (ids.idxOf id)=id∧ids.idxOf id<ids.length:=by
 have hlt:ids.idxOf id<ids.length:=List.idxOf_lt_length_of_mem h
 refine ⟨?_,hlt⟩
 unfold rho;rw [List.getD_eq_getElem?_getD,List.getElem?_eq_getElem hlt]
 simp
theorem Mods.may (hm:Mods X w0 st β a w) {id:Nat} {o:Obj'} (h:(id,o)∈st.own) {b:Nat} (hb:blk (β id)=some b):w0.may b:=by
 obtain ⟨_,_,ho⟩:=hm.own id o h
 cases o with
 | box T cells=>
  obtain ⟨b',vs,h1,h2,_⟩:=ho;rw [h1] at hb;simp [blk] at hb;subst hb;exact h2
 | arr T sz rows=>
  obtain ⟨xs,h1,_⟩:=ho;exact (h1.2 b hb).1
 | map T rows=>
  obtain ⟨r,es,clock,h1,h2,_⟩:=ho;rw [h1] at hb;simp [blk] at hb;subst hb;exact h2
 | raw k cells=>
  obtain ⟨b',fn,D,vs,h1,h2,_⟩:=ho;rw [h1] at hb;simp [blk] at hb;subst hb;exact h2
def yc6 (β:Nat→Value) (ids:List Nat) (b:Nat):Prop:=∃ id,id∈ids∧blk (β id)=some b
def outOf (X:Nat→Prop) (β:Nat→Value) (ids:List Nat) (own:List (Nat×Obj')) (b:Nat):Prop:=X b∨∃ id o,(id,o)∈own∧id∉ids∧blk (β id)=some b
theorem Fits.has (hf:Fits st ids own0) {i:Nat} (h:i<ids.length) : ∃ o,(i,o)∈own0:=by
 have:i∈own0.map (·.1):=by rw [hf.2.2.1];exact List.mem_range.2 h
 obtain ⟨⟨j,o⟩,h1,rfl⟩:=List.mem_map.1 this
 exact ⟨o,h1⟩
theorem Fits.ex (hf:Fits st ids own0) (b:Nat):Ex (outOf X β ids st.own) (fun i=>β (rho ids i)) own0 b↔Ex X β st.own b:=by
 constructor
 ·rintro ((h | ⟨id,o,h1,h2,h3⟩) | ⟨i,o,h1,h2⟩)
  ·exact .inl h
  ·exact .inr ⟨id,o,h1,h3⟩
  ·have:=(zfc hf.2.2.2 h1).1
   exact .inr ⟨_,_,zaw this,h2⟩
 ·rintro (h | ⟨id,o,h1,h2⟩)
  ·exact .inl (.inl h)
  ·by_cases hid:id∈ids
   ·obtain ⟨e,hlt⟩:=zuf hid
    obtain ⟨o',ho'⟩:=hf.has hlt;exact .inr ⟨_,o',ho',by show blk (β (rho ids _))=some b;rw [e];exact h2⟩
   ·exact .inl (.inr ⟨id,o,h1,hid,h2⟩)
theorem Fits.inv (hf:Fits st ids own0) {id:Nat} (h:id∈ids) : ∃ o,(id,o)∈st.own:=by
 obtain ⟨e,hlt⟩:=zuf h
 obtain ⟨o,ho⟩:=hf.has hlt
 have:=(zfc hf.2.2.2 ho).1
 rw [e] at this
 exact ⟨_,zaw this⟩
def inBase (β:Nat→Value) (ids:List Nat) (w:World):Base:=⟨w,yc6 β ids,fun i=>β (rho ids i)⟩
theorem Mods.zp4 (hm:Mods X w0 st β a w) (hf:Fits st ids own0) :
  Mods (outOf X β ids st.own) (inBase β ids w) (zde own0 ids.length ids.length []) (fun i=>β (rho ids i)) act0 w:=by
 have hE:Ex (outOf X β ids st.own) (fun i=>β (rho ids i)) own0=Ex X β st.own:=funext fun b=>propext (hf.ex b)
 refine ⟨⟨?_,?_⟩,⟨Nat.le_refl _,fun i _ _=>rfl⟩,fun i=>hm.one _,rfl,rfl,Kept.refl _,?_,?_,?_,?_⟩
 ·intro b hb hmay
  have hlt:b<w.heap.size:=by
   rcases hb with h | ⟨id,o,h1,_,h3⟩
   ·exact hm.lt b (.inl h)
   ·exact hm.lt b (.inr ⟨id,o,h1,h3⟩)
  rcases hmay with h | ⟨id,h1,h2⟩
  ·have:w.heap.size≤b:=h;omega
  ·obtain ⟨o,ho⟩:=hf.inv h1
   rcases hb with h | ⟨id',o',h3,h4,h5⟩
   ·exact hm.outer.1 b h (hm.may ho h2)
   ·have:=hm.apart id o id' o' b ho h3 h2 h5
    subst this;exact h4 h1
 ·refine hm.glob.over (Over.less fun b hb=>?_)
  rcases hb with (h | ⟨id,o,h1,_,h3⟩) | ⟨id,h1,h2⟩
  ·exact .inl h
  ·exact .inr ⟨id,o,h1,h3⟩
  ·obtain ⟨o,ho⟩:=hf.inv h1
   exact .inr ⟨_,o,ho,h2⟩
 ·show (own0.map (·.1)).Nodup
  rw [hf.2.2.1];exact List.nodup_range
 ·intro i o hio
  have hlt:=hf.lt hio;obtain ⟨h1,h2⟩:=zfc hf.2.2.2 hio;refine ⟨hlt,h2,?_⟩
  show zc9 w (inBase β ids w).may (Ex (outOf X β ids st.own) (fun i=>β (rho ids i)) own0) _ i o
  rw [hE];exact z8h (m:=ids.length) (fun _ _=>rfl) hlt (fun b hb=>.inr ⟨_,zm1 hlt,hb⟩) h2 (hm.obj h1).2.2
 ·intro i o j o' b h1 h2 e1 e2
  have g1:=zaw (zfc hf.2.2.2 h1).1;have g2:=zaw (zfc hf.2.2.2 h2).1;have:=hm.apart _ _ _ _ b g1 g2 e1 e2
  rw [← zm2 hf.1 (hf.lt h1),← zm2 hf.1 (hf.lt h2),this]
 ·intro t s ht;simp [zde,zab] at ht
def zjt (β β1:Nat→Value) (ids:List Nat) (nx:Nat) (id:Nat):Value:=
 if id∈ids then β1 (ids.idxOf id) else if id<nx then β id else β1 (ids.length+(id-nx))
theorem zw0 {β1:Nat→Value} (hf:Fits st ids own0) (i:Nat):zjt β β1 ids st.next (rho' ids st.next i)=β1 i:=by
 unfold zjt rho'
 by_cases h:i<ids.length
 ·rw [if_pos h]
  have:=zm1 h
  unfold rho at this;rw [if_pos this];have:=zm2 hf.1 h
  unfold rho at this;rw [this]
 ·rw [if_neg h]
  have hn:st.next+(i-ids.length)∉ids:=fun hi=>by have:=hf.2.1 _ hi;omega
  rw [if_neg hn,if_neg (by omega)]
  congr 1;omega
theorem yby (hf:Fits st ids own0) {i j:Nat} (h:rho' ids st.next i=rho' ids st.next j):i=j:=by
 unfold rho' at h
 by_cases hi:i<ids.length <;> by_cases hj:j<ids.length
 ·rw [if_pos hi,if_pos hj] at h
  rw [← zm2 hf.1 hi,← zm2 hf.1 hj];unfold rho;rw [h]
 ·rw [if_pos hi,if_neg hj] at h
  have:=hf.2.1 _ (zm1 hi)
  unfold rho at this;omega
 ·rw [if_neg hi,if_pos hj] at h
  have:=hf.2.1 _ (zm1 hj)
  unfold rho at this;omega
 ·rw [if_neg hi,if_neg hj] at h;omega
theorem Mods.zlt (hm:Mods X w0 st β a w) (hf:Fits st ids own0) {nx:Nat} {own':List (Nat×Obj')} {mv:List Nat} {β1:Nat→Value}
  (hc:Mods (outOf X β ids st.own) (inBase β ids w) (zde own' ids.length nx mv) β1 act0 w') :
  Mods X w0 (st.after ids nx own' mv) (zjt β β1 ids st.next) a w' ∧
  (∀ s v,Sym.lo nx s→Sm w' (Ex (outOf X β ids st.own) β1 own') β1 s v→Sym.lo (st.after ids nx own' mv).next (ren (rho' ids st.next) s)∧Sm w' (Ex X (zjt β β1 ids st.next) (st.after ids nx own' mv).own) (zjt β β1 ids st.next) (ren (rho' ids st.next) s) v):=by
 have hback:=fun i=>zw0 (β:=β) (β1:=β1) hf i
 have hnx:ids.length≤nx:=hc.still.1
 -- what has not moved
 have hβ : ∀ id,id<st.next→id∉mv.map (rho' ids st.next)→zjt β β1 ids st.next id=β id:=by
  intro id hlt hmv;unfold zjt;by_cases h:id∈ids
  ·rw [if_pos h]
   obtain ⟨e,hl⟩:=zuf h;have:=hc.still.2 (ids.idxOf id) hl (fun hin=>hmv (List.mem_map.2 ⟨_,hin,by unfold rho';rw [if_pos hl];exact e⟩))
   rw [this];show β (rho ids (ids.idxOf id))=β id
   rw [e]
  ·rw [if_neg h,if_pos hlt]
 have hrest : ∀ id,id<st.next→id∉ids→zjt β β1 ids st.next id=β id:=by
  intro id hlt h;unfold zjt;rw [if_neg h,if_pos hlt]
 have hown' : ∀ b,(∃ i o,(i,o)∈own'∧blk (β1 i)=some b)→(inBase β ids w).may b:=by
  rintro b ⟨i,o,h1,h2⟩
  exact hc.may (st:=zde own' ids.length nx mv) h1 h2
 have hEx : ∀ b,Ex X (zjt β β1 ids st.next) (st.after ids nx own' mv).own b↔Ex (outOf X β ids st.own) β1 own' b:=by
  intro b;constructor
  ·rintro (h | ⟨id,o,h1,h2⟩)
   ·exact .inl (.inl h)
   ·rcases List.mem_append.1 h1 with h1 | h1
    ·obtain ⟨i,o',h3,rfl,rfl⟩:=zee h1
     rw [hback] at h2;exact .inr ⟨i,o',h3,h2⟩
    ·obtain ⟨h3,o',h4,rfl⟩:=zch h1
     rw [hrest id (hm.own id o' h4).1 h3] at h2;exact .inl (.inr ⟨id,o',h4,h3,h2⟩)
  ·rintro ((h | ⟨id,o,h1,h2,h3⟩) | ⟨i,o,h1,h2⟩)
   ·exact .inl h
   ·exact .inr ⟨id,_,List.mem_append.2 (.inr (zkn h2 h1)),by rw [hrest id (hm.own id o h1).1 h2];exact h3⟩
   ·exact .inr ⟨_,_,List.mem_append.2 (.inl (zso h1)),by rw [hback];exact h2⟩
 have hE:Ex X (zjt β β1 ids st.next) (st.after ids nx own' mv).own=Ex (outOf X β ids st.own) β1 own':=funext fun b=>propext (hEx b)
 have hfoot : ∀ b,yc6 β ids b→Ex X β st.own b∧w0.may b:=by
  rintro b ⟨id,h1,h2⟩
  obtain ⟨o,ho⟩:=hf.inv h1;exact ⟨.inr ⟨id,o,ho,h2⟩,hm.may ho h2⟩
 have hov:Over w (Ex X β st.own) w' (Ex (outOf X β ids st.own) β1 own'):=by
  intro b hlt he;have hnm:¬(inBase β ids w).may b:=by
   rintro (h | h)
   ·have:w.heap.size≤b:=h;omega
   ·exact he (hfoot b h).1
  refine ⟨?_,hc.below.block b hnm⟩
  rintro ((h | ⟨id,o,h1,h2,h3⟩) | h)
  ·exact he (.inl h)
  ·exact he (.inr ⟨id,o,h1,h3⟩)
  ·exact hnm (hown' b h)
 have hlo : ∀ i,i<nx→rho' ids st.next i<st.next+(nx-ids.length):=by
  intro i hi;unfold rho';by_cases h:i<ids.length
  ·rw [if_pos h]
   have:=hf.2.1 _ (zm1 h)
   unfold rho at this;omega
  ·rw [if_neg h];omega
 have hone : ∀ id,(zjt β β1 ids st.next id).oneCell'=true:=by
  intro id;unfold zjt;split
  ·exact hc.one _
  ·split
   ·exact hm.one _
   ·exact hc.one _
 have hle:st.next≤st.next+(nx-ids.length):=Nat.le_add_right _ _
 have restSame : ∀ id o,(id,o)∈st.own→id∉ids→∀ b,blk (β id)=some b→w'.heap[b]?=w.heap[b]?:=by
  intro id o h1 h2 b hb;exact hc.below.block b (hc.outer.1 b (.inr ⟨id,o,h1,h2,hb⟩))
 refine ⟨⟨hm.outer,⟨Nat.le_trans hm.still.1 hle,?_⟩,hone,hm.defers,hm.size,?_,?_,?_,?_,?_⟩,?_⟩
 ·intro id h1 h2
  have h2':id∉mv.map (rho' ids st.next)∧id∉st.moved:=by
   constructor
   ·exact fun h=>h2 (List.mem_append.2 (.inl h))
   ·exact fun h=>h2 (List.mem_append.2 (.inr h))
  exact (hβ id (Nat.lt_of_lt_of_le h1 hm.still.1) h2'.1).trans (hm.still.2 id h1 h2'.2)
 ·refine hm.below.turn hc.below.os hc.below.tape hc.below.output hc.below.size (fun k hk hn=>hc.below.block k ?_) hc.below.drawn
  rintro (h | h)
  ·have:w.heap.size≤k:=h;omega
  ·exact hn (hfoot k h).2
 ·show ((zg0 (rho' ids st.next) own'++zdb ids _ st.own).map (·.1)).Nodup
  rw [List.map_append,List.nodup_append];refine ⟨?_,zhk hm.keys,?_⟩
  ·rw [zkm]
   have:(own'.map (·.1)).Nodup:=hc.keys
   exact List.Pairwise.map _ (fun p q hpq e=>hpq (yby hf e)) this
  ·intro p hp q hq e
   subst e;rw [zkm] at hp;obtain ⟨i,_,rfl⟩:=List.mem_map.1 hp;obtain ⟨⟨id,o⟩,h1,h2⟩:=List.mem_map.1 hq;obtain ⟨h3,o',h4,_⟩:=zch h1;have hlt:=(hm.own id o' h4).1;have e:id=rho' ids st.next i:=h2
   unfold rho' at e;by_cases h:i<ids.length
   ·rw [if_pos h] at e
    have:=zm1 h
    unfold rho at this;rw [← e] at this;exact h3 this
   ·rw [if_neg h] at e;omega
 ·intro id o hmem
  rw [hE];rcases List.mem_append.1 hmem with h1 | h1
  ·obtain ⟨i,o',h3,rfl,rfl⟩:=zee h1
   obtain ⟨q1,q2,q3⟩:=hc.own i o' h3;refine ⟨hlo i q1,z8f hlo q2,z8g (m:=nx) (fun i _=>hback i) ?_ q1 q2 q3⟩
   rintro b (h | h)
   ·exact .inl (Nat.le_trans hm.below.size h)
   ·exact (hfoot b h).2
  ·obtain ⟨h3,o',h4,rfl⟩:=zch h1
   obtain ⟨q1,q2,q3⟩:=hm.own id o' h4;exact ⟨Nat.lt_of_lt_of_le q1 hle,Obj'.zdi hle (zwy q2),zwz hβ hov (hrest id q1 h3) q2 (restSame id o' h4 h3) q3⟩
 ·intro i o j o2 b h1 h2 e1 e2
  rcases List.mem_append.1 h1 with h1 | h1 <;> rcases List.mem_append.1 h2 with h2 | h2
  ·obtain ⟨i',o',h3,rfl,rfl⟩:=zee h1
   obtain ⟨j',o'',h4,rfl,rfl⟩:=zee h2;rw [hback] at e1 e2;rw [hc.apart i' o' j' o'' b h3 h4 e1 e2]
  ·obtain ⟨i',o',h3,rfl,rfl⟩:=zee h1
   obtain ⟨h5,o'',h4,rfl⟩:=zch h2;rw [hback] at e1;rw [hrest j (hm.own j o'' h4).1 h5] at e2;exact absurd (hown' b ⟨i',o',h3,e1⟩) (hc.outer.1 b (.inr ⟨j,o'',h4,h5,e2⟩))
  ·obtain ⟨i',o',h3,rfl,rfl⟩:=zee h2
   obtain ⟨h5,o'',h4,rfl⟩:=zch h1;rw [hback] at e2;rw [hrest i (hm.own i o'' h4).1 h5] at e1;exact absurd (hown' b ⟨i',o',h3,e2⟩) (hc.outer.1 b (.inr ⟨i,o'',h4,h5,e1⟩))
  ·obtain ⟨h5,o'',h4,rfl⟩:=zch h1
   obtain ⟨h6,o3,h7,rfl⟩:=zch h2;rw [hrest i (hm.own i o'' h4).1 h5] at e1;rw [hrest j (hm.own j o3 h7).1 h6] at e2;exact hm.apart i o'' j o3 b h4 h7 e1 e2
 ·intro t s ht
  rw [hE];obtain ⟨s',h1,rfl⟩:=zhx ht;obtain ⟨q1,q2⟩:=hm.slots t s' h1;exact ⟨Sym.zdi hle (zww q1),zwx hβ hov q1 q2⟩
 ·intro s v hl hs
  rw [hE];exact ⟨yc5 hlo hl,yc4 (m:=nx) (fun i _=>hback i) hl hs⟩
def EMut (P:Program) (st:St) (f:Operand) (xs:List Operand) (dst:Option Tmp) (K:St→Prop):Prop:=
 ∃ (g:Nat) (caps:List Sym) (ids:List Nat) (args0:List Sym) (own0:List (Nat×Obj')) (s:Sym) (nx:Nat) (own':List (Nat×Obj')) (mv:List Nat),
  zbi (st.val f)=some (g,caps)∧rens (rho ids) args0=xs.map st.val++caps∧Sym.los ids.length args0∧Fits st ids own0 ∧
  zcb P g args0 own0 ids.length s nx own' mv∧K ((st.after ids nx own' mv).put dst (ren (rho' ids st.next) s))
theorem zjk (hm:Mods X w0 st β a w) {o:Oper} {f:Operand} {args:Array Operand} {ts:Array TypeId} (ho:o.op = .call {callee:=.value f,args,argTypes:=ts})
  (hd : ∀ t,o.dst=some t→t<st.n) {K:St→Prop} (h:EMut P st f args.toList o.dst K):Goes P X w0 o a w K:=by
 obtain ⟨g,caps,ids,args0,own0,s,nx,own',mv,hc,hargs0,hlo,hf,hcall,hk⟩:=h
 intro N Q hN
 obtain ⟨hcb,hp⟩:=hcall
 have hv:=(hm.val f).2
 obtain ⟨cs,hev,hcs⟩ : ∃ cs:List Value,a.eval f = .func (.func g) #[] cs.toArray∧Sms w (Ex X β st.own) β caps cs:=by
  cases hf:st.val f <;> rw [hf] at hc hv <;> simp only [zbi] at hc
  case d x=>
   cases x <;> simp only [zbi] at hc
   case fn f' l=>
    simp at hc;obtain ⟨rfl,rfl⟩:=hc
    simp only [Sm,R] at hv;obtain ⟨vs,h1,h2⟩:=hv;exact ⟨vs,h1,Sms.zf9 h2⟩
   all_goals cases hc
  case fn f' l=>
   simp at hc;obtain ⟨rfl,rfl⟩:=hc
   simp only [Sm] at hv;exact hv
  all_goals cases hc
 have hargs:=(Sms.zjz hm args.toList).1
 have hall:=Sms.append hargs hcs
 rw [← hargs0] at hall
 have hE:Ex (outOf X β ids st.own) (fun i=>β (rho ids i)) own0=Ex X β st.own:=funext fun b=>propext (hf.ex b)
 have hin:=zgb (ρ:=rho ids) (β:=fun i=>β (rho ids i)) (β':=β) (m:=ids.length) (fun _ _=>rfl) hlo hall
 unfold callable at hcb
 cases hfn:P.funcs[g]? with
 | none=>simp [hfn] at hcb
 | some fn=>
  simp [hfn] at hcb;have hrun:(execOp a.eval o).run P w = .ok (.enter g (args.toList.map a.eval++cs).toArray) w:=by
   have e1:¬ fn.body=none:=by intro e;rw [e] at hcb;simp at hcb
   have e3:Array.map a.eval args++cs.toArray=(List.map a.eval args.toList++cs).toArray:=by simp
   rw [← e3];simp [execOp,ho,resolve,hev,Deferred.ofValue,invoke,callFunc,hfn,e1,hcb.1]
  unfold Oper.wp;rw [hrun];simp only [Oper.upon];refine (hp (outOf X β ids st.own) (inBase β ids w) (fun i=>β (rho ids i)) w _ rfl (hm.zp4 hf) (by rw [hE];exact hin)).mono fun e w' he=>?_
  obtain ⟨β1,v,rfl,hm1,hsl,hsm⟩:=he;obtain ⟨h1,h2⟩:=hm.zlt hf hm1;obtain ⟨q1,q2⟩:=h2 s v hsl hsm;exact hN _ _ _ _ hk (h1.za0 hd q1 q2)
end
end Go.V
namespace Go.V
variable [Dr] [Ov]
open Go.RowKit
def ybz (id sz n:Nat):Sym→Sym
 | .ar i=>if i=id then .av id sz 0 n else .ar i
 | s=>zbf id s
def zg1 (id sz n:Nat):List (Nat×Sym)→List (Nat×Sym)
 | []=>[]
 | (t,s)::r=>(t,ybz id sz n s)::zg1 id sz n r
def St.opened (st:St) (id sz n:Nat) (o:Obj'):St:={st with moved:=id::st.moved,slots:=zg1 id sz n st.slots,own:=zca id o st.own}
def eCap (P:Program) (st:St) (dst:Option Tmp) (t:Nat) (x:Sym) (K:St→Prop):Prop:=
 match TI.of P t,x with
 | some ⟨.slice e,_,_,_,_⟩,.ar id=>match st.look id with
  | some (.arr T sz rows)=>0<rows.length∧∀ junk:List (List D),(∀ r∈junk,r.length=sz)→rows.length+junk.length≤maxLen →
    K ((st.opened id sz rows.length (.arr T sz (rows++junk))).put dst (.d (.int .i64 ((rows.length+junk.length:Nat):Int))))
  | _=>False
 | _,_=>False
def chunks {α:Type} (sz:Nat):Nat→List α→List (List α)
 | 0,_=>[]
 | k+1,l=>l.take sz::chunks sz k (l.drop sz)
theorem zsp {α:Type} {sz:Nat} : ∀ {k:Nat} {l:List α},(chunks sz k l).length=k
 | 0,_=>rfl
 | k+1,l=>by simp [chunks,zsp]
theorem zp5 {α:Type} {sz:Nat} : ∀ {k:Nat} {l:List α},l.length=k*sz→(chunks sz k l).flatten=l
 | 0,l,h=>by simp at h;subst h;rfl
 | k+1,l,h=>by
  simp only [chunks,List.flatten_cons];rw [zp5 (k:=k) (by rw [List.length_drop,h,Nat.add_mul];omega),List.take_append_drop]
theorem zsq {α:Type} {sz:Nat} : ∀ {k:Nat} {l:List α},l.length=k*sz→∀ r∈chunks sz k l,r.length=sz
 | 0,_,_,r,hr=>by simp [chunks] at hr
 | k+1,l,h,r,hr=>by
  simp only [chunks] at hr;have h1:l.length=k*sz+sz:=by rw [h,Nat.add_mul];omega
  rcases List.mem_cons.1 hr with e | hr
  ·subst e;simp;omega
  ·exact zsq (k:=k) (by rw [List.length_drop];omega) r hr
theorem zw1 {w:World} {E:Nat→Prop} : ∀ {l:List Value},(∀ v∈l,v.oneCell'=true)→zae w E (l.map D.val) l
 | [],_=>by simp [zae]
 | v::r,h=>by
  simp only [List.map_cons,zae];exact ⟨v,r,rfl,h v (by simp),by simp [R],zw1 fun u hu=>h u (by simp [hu])⟩
section
variable {P:Program} {X:Nat→Prop} {w0:Base} {st:St} {β:Nat→Value} {a:Act} {w w':World} {E:Nat→Prop} {m:Nat} {k:Sym→Prop}
theorem zsr (hm:Mods X w0 st β a w) (hbel:Below w.heap.size w w') {n c:Nat}:Over w (Ex X β st.own) w' (fun b=>Ex X β st.own b∨blk (.slice (some ⟨w.heap.size,0,none⟩) n c)=some b):=by
 intro b hb he
 refine ⟨fun h=>h.elim he (fun h=>by simp [blk] at h;omega),hbel.block b hb⟩
theorem zzh (hm:Mods X w0 st β a w) {id T sz:Nat} {rows:List (List D)} (hob:st.look id=some (.arr T sz rows)) (hne:0<rows.length) : ∃ (b cap:Nat) (cur:Array Value) (xs:List Value),
  β id = .slice (some ⟨b,0,none⟩) rows.length cap∧w.heap[b]?=some (.cells cur T (0,0))∧rows.length≤cap∧cap≤maxLen∧cur.size=cap*sz∧(∀ u∈cur.toList,u.oneCell'=true) ∧
  xs=cur.toList.take (rows.length*sz)∧zae w (Ex X β st.own) rows.flatten xs∧(∀ r∈rows,r.length=sz)∧w0.may b∧w.ownsRow 0 T sz (β id) rows.length xs:=by
 obtain ⟨hid,hlc,xs,hx,hxc,hrs⟩:=hm.obj hob
 have hx0:=hx.1
 rcases hx.1.2 with ⟨hn,h0⟩ | ⟨g,cap,cur,hg,h00,hh,hncap,hcm,hcs,htake⟩
 ·omega
 ·have h2:=hx.2 g (by rw [hg];rfl)
  exact ⟨g,cap,cur,xs,hg,hh,hncap,hcm,hcs,h2.2 _ _ _ hh,htake.symm,hxc,hrs,h2.1,hx0⟩
theorem zj2 {id sz n:Nat} : ∀ {l:List (Nat×Sym)} {t:Nat} {s:Sym},zab (zg1 id sz n l) t=some s→∃ s',zab l t=some s'∧s=ybz id sz n s'
 | [],t,s,h=>by simp [zg1,zab] at h
 | (k,u)::r,t,s,h=>by
  simp only [zg1,zab] at h ⊢;split at h
  ·rename_i e;simp at h;exact ⟨u,by simp [e],h.symm⟩
  ·rename_i e;simp only [e,if_false];exact zj2 h
theorem zj3 {id:Nat} : ∀ {l:List (Nat×Sym)} {t:Nat} {s:Sym},zab l t=some s→zab (zb4 id l) t=some (zbf id s)
 | [],t,s,h=>by simp [zab] at h
 | (k,u)::r,t,s,h=>by
  simp only [zb4,zab] at h ⊢;split at h
  ·rename_i e;simp at h;subst h;simp [e]
  ·rename_i e;simp only [e,if_false];exact zj3 h
theorem z3z (hm:Mods X w0 st β a w) {o:Oper} {t:Nat} {x:Operand} (ho:o.op = .call {callee:=.builtin .cap,args:=#[x],argTypes:=#[t]}) (hd : ∀ t,o.dst=some t→t<st.n) {K:St→Prop}
  (h:eCap P st o.dst t (st.val x) K):Goes P X w0 o a w K:=by
 unfold eCap at h
 split at h
 ·rename_i e _ _ _ _ id ht hxs
  obtain ⟨i,u,z,hi,hu,hz,hkd,_⟩:=zat ht;have:=za5 hkd.symm;subst this
  split at h
  ·rename_i T sz rows hob
   obtain ⟨hpos,h⟩:=h;have hvx:=(hm.val x).2;rw [hxs] at hvx;simp only [Sm] at hvx;obtain ⟨b,cap,cur,xs,hβ,hh,hncap,hcm,hcs,hones,hxs',hxc,hrs,hmay,hox⟩:=zzh hm hob hpos;have hclen:cur.toList.length=cap*sz:=by simpa using hcs
   obtain ⟨rest,hrest⟩ : ∃ rest,rest=cur.toList.drop (rows.length*sz):=⟨_,rfl⟩;have hle:rows.length*sz≤cap*sz:=Nat.mul_le_mul_right _ hncap
   have hrl:(rest.map D.val).length=(cap-rows.length)*sz:=by rw [hrest,List.length_map,List.length_drop,hclen,Nat.sub_mul]
   have hj1:=zsq (sz:=sz) (k:=cap-rows.length) hrl;have hj2:=zp5 (sz:=sz) (k:=cap-rows.length) hrl;have hj3:=zsp (sz:=sz) (k:=cap-rows.length) (l:=rest.map D.val);have hK:=h (chunks sz (cap-rows.length) (rest.map D.val)) hj1 (by rw [hj3];omega)
   rw [hj3] at hK;have hcap:rows.length+(cap-rows.length)=cap:=by omega
   rw [hcap] at hK;have hov:Over w (Ex X β st.own) w (Ex X β st.own):=Over.refl _ _
   have hmr:=hm.renew (w':=w) (o':=.arr T sz (rows++chunks sz (cap-rows.length) (rest.map D.val))) hob (v:=.slice (some ⟨b,0,none⟩) cap cap) rfl hm.below (fun _ _ _=>rfl)
    (fun b' hb'=>.inl (by rw [hβ];simpa [blk] using hb')) trivial (fun E hovE hbE=>by
     refine ⟨cur.toList,?_,?_,?_⟩
     ·simp only [if_true]
      refine ⟨⟨by simp only [List.length_append,hj3];rw [hcap];exact hclen,.inr ⟨b,cap,cur,by simp only [List.length_append,hj3];rw [hcap],Nat.zero_le _,hh,by simp only [List.length_append,hj3];omega,hcm,hcs,by
       rw [List.take_of_length_le];simp only [List.length_append,hj3];rw [hcap];omega⟩⟩,fun b' hb'=>?_⟩
      simp [blk] at hb';subst hb';exact ⟨hmay,zcv.of hh hones⟩
     ·rw [List.flatten_append,hj2]
      have h1:=zae.append (zae.over hovE _ _ hxc) (zw1 (w:=w) (E:=E) (l:=rest) (fun v hv=>hones v (by rw [hrest] at hv;exact List.mem_of_mem_drop hv)))
      rw [hxs',hrest,List.take_append_drop,← hrest] at h1;exact h1
     ·intro r hr
      exact (List.mem_append.1 hr).elim (hrs r) (hj1 r))
   have hmo:Mods X w0 (st.opened id sz rows.length (.arr T sz (rows++chunks sz (cap-rows.length) (rest.map D.val)))) (fun i=>if i=id then .slice (some ⟨b,0,none⟩) cap cap else β i) a w:=by
    refine ⟨hmr.outer,hmr.still,hmr.one,hmr.defers,hmr.size,hmr.below,hmr.keys,hmr.own,hmr.apart,?_⟩
    intro t' s hs;obtain ⟨s',h1,rfl⟩:=zj2 hs;have hp:=hmr.slots t' _ (zj3 h1);have hold:=hm.slots t' s' h1;cases s' <;> try exact hp
    rename_i i';simp only [ybz];split
    ·rename_i e;subst e
     simp only [Sm,Sym.lo] at hold ⊢;refine ⟨hold.1,b,cap,by simp,?_,by omega,hcm⟩
     rw [hold.2,hβ];simp
    ·rename_i e
     simp only [zbf,if_neg e] at hp;exact hp
   refine Goes.za6 (v:=.int .i64 cap) (w':=w) ?_ hK (hmo.za0 hd (by simp [Sym.lo]) (by simp [Sm,R]))
   simp [execOp,ho,resolve,invoke,builtin,hvx,hβ,Builtin.cap_,goInt,run_underlying hu]
  ·exact h.elim
 ·exact h.elim
def zom (P:Program) (st:St) (dst:Option Tmp) (t t':Nat) (s x:Sym) (K:St→Prop):Prop:=
 match s,x with
 | .av id sz lo n,.d (.int _ m)=>match TI.of P t,TI.of P t' with
  | some ⟨.slice e,_,_,_,_⟩,some ⟨.int _,_,_,_,_⟩=>match TI.of P e with
   | some te=>match allD (te.zero.map ofConst),st.look id with
    | some z,some (.arr T sz' rows)=>sz=te.size∧sz'=te.size∧0<te.size∧te.zero.length=te.size∧te.zero.all (·.oneCell')=true∧lo+n≤rows.length∧0<m∧(rows.length:Int)<lo+n+m ∧
      ((n:Int)+m)*te.bytes≤140737488355328∧(n:Int)+m≤maxLen∧K ((st.new (.arr e te.size ((rows.drop lo).take n++List.replicate m.toNat z))).put dst (.ar st.next))
    | _,_=>False
   | none=>False
  | _,_=>False
 | _,_=>False
theorem z8i {u:TypeDesc} {k:IntKind} (h:zc4 P u = .int k):u = .int k:=by
 unfold zc4 at h
 split at h <;> first | (cases h;rfl) | cases h | (split at h <;> cases h)
theorem zra (hm:Mods X w0 st β a w) {o:Oper} {t t':Nat} {s x:Operand} (ho:o.op = .call {callee:=.builtin .append,args:=#[s,x],argTypes:=#[t,t']}) (hd : ∀ t,o.dst=some t→t<st.n) {K:St→Prop}
  (h:zom P st o.dst t t' (st.val s) (st.val x) K):Goes P X w0 o a w K:=by
 unfold zom at h
 split at h
 ·rename_i id sz lo n kx m hs hx
  split at h
  ·rename_i e _ _ _ _ kk _ _ _ _ ht ht'
   obtain ⟨i,u,z,hi,hu,hz,hkd,_⟩:=zat ht;have:=za5 hkd.symm;subst this
   obtain ⟨i',u',z',hi',hu',hz',hkd',_⟩:=zat ht';have:=z8i hkd'.symm;subst this
   split at h
   ·rename_i te hte
    obtain ⟨ie,ue,ze,hie,hue,hze,_,hsz,hby,_,hzc⟩:=zat hte;split at h
    ·rename_i zd T sz' rows hzd hob
     obtain ⟨rfl,rfl,hpos,hzl,hz1,hfit,hm0,hroom,hbytes,hml,h⟩:=h;have hvs:=(hm.val s).2;rw [hs] at hvs;simp only [Sm] at hvs;obtain ⟨b,c,hβ,hvs,hlc,hcm⟩:=hvs;have hvx:=(hm.val x).2;rw [hx] at hvx;simp only [Sm,R] at hvx;obtain ⟨q,rfl⟩ : ∃ q:Nat,m=q:=⟨m.toNat,by omega⟩
     have hrc:rows.length=c∧(0<rows.length→True):=by
      obtain ⟨hid,_,xs,hx0,_,_⟩:=hm.obj hob;rcases hx0.1.2 with ⟨hn,h0⟩ | ⟨g,cap,cur,hg,_⟩
      ·rw [hn] at hβ;cases hβ
      ·rw [hg] at hβ;simp at hβ;exact ⟨hβ.2.1,fun _=>trivial⟩
     obtain ⟨hid,_,xs,hx0,hxc,hrs⟩:=hm.obj hob;have hxl:xs.length=rows.length*te.size:=hx0.1.1
     have holdc : ∀ j v,((xs.drop (lo*te.size)).take (n*te.size))[j]?=some v→w.cell? ((⟨b,lo*te.size,none⟩:Addr).add j)=some v:=by
      intro j v hj;rw [List.getElem?_take] at hj;split at hj
      ·rw [List.getElem?_drop] at hj
       have hcell:=hx0.1.cells (g:=b) (by rw [hβ];rfl) (lo*te.size+j) v hj
       rw [add_lit] at hcell ⊢;simpa using hcell
      ·cases hj
     have hnf:(lo+n)*te.size≤rows.length*te.size:=Nat.mul_le_mul_right _ hfit
     rw [Nat.add_mul] at hnf;have hol:((xs.drop (lo*te.size)).take (n*te.size)).length=n*te.size:=by simp;omega
     have hold:(Builtin.firstCells ie.size n (.slice (some ⟨b,lo*te.size,none⟩) n (c-lo))).run P w.drew = .ok ((xs.drop (lo*te.size)).take (n*te.size)).toArray w.drew:=by
      rw [← hsz];exact run_firstCells_some w.drew te.size n ⟨b,lo*te.size,none⟩ n (c-lo) _ hol (fun j v hj=>holdc j v hj)
     have hb2:(n+q)*ie.bytes≤140737488355328:=by
      rw [← hby];have h9:(((n+q)*te.bytes:Nat):Int)≤((140737488355328:Nat):Int):=by rw [Int.natCast_mul,Int.natCast_add];exact hbytes
      exact Int.ofNat_le.1 h9
     have hb3:q*ie.bytes≤281474976710656:=by
      have:q*ie.bytes≤(n+q)*ie.bytes:=Nat.mul_le_mul_right _ (by omega)
      omega
     have hmx:n+q≤maxLen:=by omega
     have hrun:=Lib.run_append_grow_zeros (P:=P) w t t' o.type e ie ze kx kk hu hu' hie hze (some ⟨b,lo*te.size,none⟩) n (c-lo) _ hold q (by omega) (by omega) (by omega) (by simp only [maxLen] at hmx;omega) hb3 (growslice_fits (by omega) hb2)
     obtain ⟨G,hG⟩ : ∃ G,G=grownCap w (n+q) (c-lo) e:=⟨_,rfl⟩;rw [← hG] at hrun;obtain ⟨row,hrow⟩ : ∃ row,row=(((xs.drop (lo*te.size)).take (n*te.size)).toArray++Builtin.zeroCells ze.cells q++Builtin.zeroCells ze.cells (G-(n+q))):=⟨_,rfl⟩;rw [← hrow] at hrun;have hzr:=zgy (E:=Ex X β st.own) (w:=w) hzd hz1;have hzdl:zd.length=te.size:=by rw [zfm hzd];simpa using hzl
     have hzz : ∀ k,(Builtin.zeroCells ze.cells k).toList=(List.replicate k te.zero).flatten:=by
      intro k;unfold Builtin.zeroCells;rw [zda,hzc]
     have hfl : ∀ k,(List.replicate k te.zero).flatten.length=k*te.size:=by
      intro k;induction k with
      | zero=>simp
      | succ k ih=>rw [List.replicate_succ,List.flatten_cons,List.length_append,ih,hzl,Nat.add_mul];omega
     have hGn:n+q≤G:=by rw [hG];exact grownCap_ge w _ _ _
     have hGm:G≤maxLen:=by rw [hG];exact grownCap_le_maxLen w _ _ _ hmx
     have hrowl:row.toList=(xs.drop (lo*te.size)).take (n*te.size)++(List.replicate q te.zero).flatten++(List.replicate (G-(n+q)) te.zero).flatten:=by
      rw [hrow];simp [hzz]
     have hrowsz:row.size=G*te.size:=by
      have:row.size=row.toList.length:=(Array.length_toList).symm
      rw [this,hrowl];simp only [List.length_append,hol,hfl];rw [← Nat.add_mul,← Nat.add_mul];congr 1;omega
     have hbel:Below w.heap.size w (w.drew.alloc (.cells row e)):=by
      have h1:Below w.heap.size w w.drew:=⟨⟨rfl,rfl,rfl,Nat.le_refl _,fun _ _=>rfl⟩,fun _=>Nat.le_succ _⟩
      exact h1.trans (zbj w.drew _)
     have hda : ∀ (E:Nat→Prop),Over w E (w.drew.alloc (.cells row e)) E:=fun E=>Over.of_below hbel E
     have hm':Mods X w0 (st.new (.arr e te.size ((rows.drop lo).take n++List.replicate q zd))) (fun i=>if i=st.next then .slice (some ⟨w.heap.size,0,none⟩) (n+q) G else β i) a (w.drew.alloc (.cells row e)):=by
      refine hm.new hbel rfl trivial (fun b hb=>by simp [blk] at hb;omega) ?_
      have hdl:((rows.drop lo).take n).length=n:=by simp;omega
      refine ⟨(xs.drop (lo*te.size)).take (n*te.size)++(List.replicate q te.zero).flatten,⟨⟨?_,.inr ⟨w.heap.size,G,row,by simp only [if_true,List.length_append,hdl,List.length_replicate],Nat.zero_le _,Go.heap_alloc_new w.drew _,by simp only [List.length_append,hdl,List.length_replicate];exact hGn,hGm,hrowsz,?_⟩⟩,fun b hb=>⟨.inl (by simp [blk] at hb;have:=hm.below.size;omega),?_⟩⟩,?_,?_⟩
      ·simp only [List.length_append,hol,hfl,hdl,List.length_replicate];rw [Nat.add_mul]
      ·simp only [List.length_append,hdl,List.length_replicate]
       rw [hrowl,List.take_append_of_le_length (by simp only [List.length_append,hol,hfl];rw [← Nat.add_mul];exact Nat.le_refl _),List.take_of_length_le (by simp only [List.length_append,hol,hfl];rw [← Nat.add_mul];exact Nat.le_refl _)]
      ·simp [blk] at hb;subst hb
       refine zcv.of (Go.heap_alloc_new w.drew (.cells row e)) ?_
       intro u hu;rw [hrowl] at hu;rcases List.mem_append.1 hu with hu | hu
       ·rcases List.mem_append.1 hu with hu | hu
        ·exact hxc.one u (List.mem_of_mem_drop (List.mem_of_mem_take hu))
        ·exact (hzr.replicate q).one u hu
       ·exact (hzr.replicate _).one u hu
      ·rw [List.flatten_append]
       refine zae.append ?_ ?_
       ·have h1:zae w (Ex X β st.own) ((rows.drop lo).take n).flatten ((xs.drop (lo*te.size)).take (n*te.size)):=by
         rw [zgw (fun r hr=>hrs r (List.mem_of_mem_drop hr)),ziq hrs]
         exact zae.take _ (zae.drop _ hxc)
        exact zae.over (zsr hm hbel) _ _ h1
       ·exact zae.over (zsr hm hbel) _ _ (hzr.replicate q)
      ·intro r hr
       rcases List.mem_append.1 hr with hr | hr
       ·exact hrs r (List.mem_of_mem_drop (List.mem_of_mem_take hr))
       ·rw [(List.mem_replicate.1 hr).2];exact hzdl
     have htn:(q:Int).toNat=q:=by omega
     rw [htn] at h;refine Goes.za6 (v:=.slice (some ⟨w.heap.size,0,none⟩) (n+q) G) (w':=w.drew.alloc (.cells row e)) ?_ h (hm'.za0 hd (by simp [Sym.lo,St.new]) (by simp [Sm]))
     simp [execOp,ho,resolve,invoke,builtin,hvs,hvx,hrun]
    ·exact h.elim
   ·exact h.elim
  ·exact h.elim
 ·exact h.elim
theorem zug (w:World) (t ty e:TypeId) (i:TypeInfo) (ht:P.underlying t=some (.slice e)) (hi:P.info? e=some i) (g o n cap:Nat) (cur:Array Value) (T:TypeId) (hg:w.heap[g]?=some (.cells cur T (0,0)))
  (a:Addr) (m c:Nat) (news:List Value) (hl:news.length=m*i.size) (hnews : ∀ j u,news[j]?=some u→w.cell? (a.add j)=some u) (h1 : ∀ u∈news,u.oneCell'=true)
  (hroom:n+m≤cap) (hfit:o+n*i.size+news.length≤cur.size) :
  (Builtin.append_ #[t,t] ty #[.slice (some ⟨g,o,none⟩) n cap,.slice (some a) m c]).run P w = .ok (.slice (some ⟨g,o,none⟩) (n+m) cap) (w.setRow g (splice cur.toList (o+n*i.size) news).toArray):=by
 have hfc:=run_firstCells_some (P:=P) w i.size m a m c news hl hnews
 have hst:=run_storeCells_at P g (o+n*i.size) T news 0 cur w hg (by simpa using hfit) h1
 simp only [Nat.add_zero] at hst
 have hrow:(cur.toList.take (o+n*i.size)++news++cur.toList.drop (o+n*i.size+news.length)).toArray=(splice cur.toList (o+n*i.size) news).toArray:=rfl
 rw [hrow] at hst
 simp [Builtin.append_,run_underlying ht,sizeOf,typeInfo,hi,Builtin.lenOf,hroom,hfc,Addr.add_lit,hst]
def zon (P:Program) (st:St) (dst:Option Tmp) (t t':Nat) (s x:Sym) (K:St→Prop):Prop:=
 match s with
 | .av id sz lo n=>match TI.of P t with
  | some ⟨.slice e,_,_,_,_⟩=>match TI.of P e with
   | some te=>match zc1 st st.next x,st.look id with
    | some l,some (.arr T sz' rows)=>t'=t∧sz=te.size∧sz'=te.size∧(∀ r∈l,r.length=te.size)∧lo+n+l.length≤rows.length∧K ((st.set id (.arr T sz' (splice rows (lo+n) l))).put dst (.av id sz lo (n+l.length)))
    | _,_=>False
   | none=>False
  | _=>False
 | _=>False
theorem zrb (hm:Mods X w0 st β a w) {o:Oper} {t t':Nat} {s x:Operand} (ho:o.op = .call {callee:=.builtin .append,args:=#[s,x],argTypes:=#[t,t']}) (hd : ∀ t,o.dst=some t→t<st.n) {K:St→Prop}
  (h:zon P st o.dst t t' (st.val s) (st.val x) K):Goes P X w0 o a w K:=by
 unfold zon at h
 split at h
 case h_2=>exact h.elim
 rename_i id sz lo n hs
 split at h
 case h_2=>exact h.elim
 rename_i e _ _ _ _ ht
 obtain ⟨i,u,z,hi,hu,hz,hkd,_⟩:=zat ht
 have:=za5 hkd.symm;subst this
 split at h
 case h_2=>exact h.elim
 rename_i te hte
 obtain ⟨ie,ue,ze,hie,hue,hze,_,hsz,hby,_,hzc⟩:=zat hte
 split at h
 case h_2=>exact h.elim
 rename_i l T sz' rows hsrc hob
 obtain ⟨rfl,rfl,rfl,hrl,hfit,h⟩:=h
 have hvs:=(hm.val s).2
 rw [hs] at hvs;simp only [Sm] at hvs
 obtain ⟨b,c,hβ,hvs,hlc,hcm⟩:=hvs
 have hlo:=(hm.val s).1
 rw [hs] at hlo
 obtain ⟨ad,c1,hvx,hnone,hsome⟩:=zgx hm hsrc (hm.val x).2 hrl
 have hrc:rows.length=c:=by
  obtain ⟨hid,_,xs,hx0,_,_⟩:=hm.obj hob;rcases hx0.1.2 with ⟨hn,h0⟩ | ⟨g,cap,cur,hg,_⟩
  ·rw [hn] at hβ;cases hβ
  ·rw [hg] at hβ;simp at hβ;exact hβ.2.1
 have hsm : ∀ (w':World) (E:Nat→Prop),Sm w' E β (.av id te.size lo (n+l.length)) (.slice (some ⟨b,lo*te.size,none⟩) (n+l.length) (c-lo)):=fun w' E=>by
  simp only [Sm];exact ⟨b,c,hβ,rfl,by omega,hcm⟩
 cases ad with
 | none=>
  obtain ⟨rfl,rfl⟩:=hnone rfl;have hsp:splice rows (lo+n) ([]:List (List D))=rows:=by simp [splice]
  rw [hsp] at h;refine Goes.za6 (v:=.slice (some ⟨b,lo*te.size,none⟩) n (c-lo)) (w':=w) ?_ h ((zlq hm hob).za0 hd (by simpa [Sym.lo,St.set] using hlo) (by simpa using hsm w _))
  simp [execOp,ho,resolve,invoke,builtin,hvs,hvx,Builtin.append_,run_underlying hu,sizeOf,typeInfo,hie,Builtin.lenOf,Builtin.firstCells,storeCells];omega
 | some a0=>
  obtain ⟨news,hnc,hnews⟩:=hsome a0 rfl;have hnl:news.length=l.length*te.size:=by rw [hnc.length,flat_length hrl]
  obtain ⟨cur,hh,hul,hfc,hm'⟩:=zfz hm hob hβ (l:=l) (lo:=lo+n) hfit hrl hnc;have hrun:=zug (P:=P) w _ o.type e ie hu hie b (lo*te.size) n (c-lo) cur T hh a0 l.length c1 news (by rw [hnl,← hsz]) hnews hnc.one (by omega) (by rw [← hsz,← Nat.add_mul];exact hfc)
  rw [← hsz,← Nat.add_mul] at hrun;refine Goes.za6 (v:=.slice (some ⟨b,lo*te.size,none⟩) (n+l.length) (c-lo)) (w':=w.setRow b (splice cur.toList ((lo+n)*te.size) news).toArray) ?_ h (hm'.za0 hd (by simpa [Sym.lo,St.set] using hlo) (hsm _ _))
  simp [execOp,ho,resolve,invoke,builtin,hvs,hvx,hrun]
def yfp (P : Program) (g t : Nat) : Prop := ∃ (fn : Func) (tr e : Nat), P.funcs[g]? = some fn ∧ (fn.name == "runtime.NumGoroutine") = false ∧ fn.body.isNone = true ∧ Extern.findNext fn = none ∧
 Extern.find fn=some (Extern.SlicesOverlaps.overlaps #[t,t] #[tr])∧P.underlying t=some (.slice e)∧(P.info? e).isSome=true
def yb0 (P:Program) (st:St) (f:Operand) (xs:List Operand) (dst:Option Tmp) (K:St→Prop):Prop:=
 match zbi (st.val f),xs.map st.val with
 | some (g,[]),[.ar i,.av j _ _ _]=>i≠j∧(∃ t,yfp P g t)∧(match st.look i,st.look j with
  | some (.arr _ _ (_::_)),some (.arr _ sz (_::_))=>sz≠0∧K (st.put dst (.d (.bool false)))
  | _,_=>False)
 | _,_=>False
theorem zzi (hm:Mods X w0 st β a w) {o:Oper} {f:Operand} {args:Array Operand} {ts:Array TypeId} (ho:o.op = .call {callee:=.value f,args,argTypes:=ts})
  (hd : ∀ t,o.dst=some t→t<st.n) {K:St→Prop} (h:yb0 P st f args.toList o.dst K):Goes P X w0 o a w K:=by
 unfold yb0 at h
 split at h
 ·rename_i g i j sz1 lo n hc hxs
  obtain ⟨hij,⟨t,fn,tr,e,hf,hname,hb,hnx,hfind,hu,hinfo⟩,h⟩:=h;split at h
  ·rename_i T1 s1 r1 rs1 T2 sz r2 rs2 ho1 ho2
   obtain ⟨hsz,hK⟩:=h;obtain ⟨x,y,hxy⟩ : ∃ x y,args.toList=[x,y]:=by
    have hl:=congrArg List.length hxs;simp at hl
    match hh:args.toList with
    | [x,y]=>exact ⟨x,y,rfl⟩
    | []=>rw [← Array.length_toList,hh] at hl;simp at hl
    | [_]=>rw [← Array.length_toList,hh] at hl;simp at hl
    | _::_::_::_=>rw [← Array.length_toList,hh] at hl;simp at hl
   rw [hxy] at hxs;simp only [List.map_cons,List.map_nil,List.cons.injEq,and_true] at hxs;obtain ⟨hx,hy⟩:=hxs;have hvx:=(hm.val x).2;rw [hx] at hvx;simp only [Sm] at hvx;have hvy:=(hm.val y).2;rw [hy] at hvy;simp only [Sm] at hvy;obtain ⟨b2,c2,hβ2,hvy,hfit,_⟩:=hvy;obtain ⟨b,cap,cur,xs,hβ,hh,hncap,hcm,hcs,hones,_,_,_,hmay,_⟩:=zzh hm ho1 (by simp)
   obtain ⟨b',cap',cur',xs',hβ',hh',hncap',hcm',hcs',hones',_,_,_,hmay',_⟩:=zzh hm ho2 (by simp)
   have hbb:b2=b':=by rw [hβ'] at hβ2;simp at hβ2;exact hβ2.1.symm
   subst hbb;have hne:b≠b2:=by
    intro e;exact hij (hm.apart i _ j _ b (zaw ho1) (zaw ho2) (by rw [hβ];rfl) (by rw [hβ',e];rfl))
   have hfv:=(hm.val f).2;have hev:a.eval f = .func (.func g) #[] #[]:=by
    cases hfs:st.val f <;> rw [hfs] at hc hfv <;> simp only [zbi] at hc
    case d x=>
     cases x <;> simp only [zbi] at hc
     case fn f' l=>
      simp at hc;obtain ⟨rfl,h0⟩:=hc
      simp only [Sm,R] at hfv;obtain ⟨vs,h1,h2⟩:=hfv;subst h0;simp only [za9] at h2;subst h2;simpa using h1
     all_goals cases hc
    case fn f' l=>
     simp at hc;obtain ⟨rfl,h0⟩:=hc
     simp only [Sm] at hfv;obtain ⟨vs,h1,h2⟩:=hfv;subst h0;simp only [Sms] at h2;subst h2;simpa using h1
    all_goals cases hc
   obtain ⟨ie,hie⟩:=Option.isSome_iff_exists.1 hinfo;have hkB:cur'.size≠0:=by
    rw [hcs'];simp only [List.length_cons] at hncap';exact Nat.mul_ne_zero (by omega) hsz
   have hov:=Lib.run_overlaps_apart (P:=P) w t tr e hu ie.size (run_sizeOf hie) ⟨b,0,none⟩ ⟨b2,lo*sz1,none⟩ (r1::rs1).length cap n (c2-lo) hne T1 T2 cur.size cur'.size
    (by simp [World.shape?,hh]) (by simp [World.shape?,hh']) hkB (by simp [World.frozen?,hh]) (by simp [World.frozen?,hh])
   have hrun:=run_callFunc_extern (P:=P) hf hname hb hnx hfind #[.slice (some ⟨b,0,none⟩) (r1::rs1).length cap,.slice (some ⟨b2,lo*sz1,none⟩) n (c2-lo)] w;rw [hov] at hrun;have hargs:args.map a.eval = #[.slice (some ⟨b,0,none⟩) (r1::rs1).length cap,.slice (some ⟨b2,lo*sz1,none⟩) n (c2-lo)]:=by
    have:args = #[x,y]:=by rw [← Array.toArray_toList (xs:=args),hxy]
    rw [this];simp only [List.map_toArray,List.map_cons,List.map_nil];rw [hvx,hβ,hvy]
   refine Goes.za6 (v:=.bool false) (w':=w) ?_ hK (hm.za0 hd (by simp [Sym.lo]) (by simp [Sm,R]))
   simp only [Result.andThen,List.length_cons] at hrun hargs;simp [execOp,ho,resolve,hev,Deferred.ofValue,invoke,hargs,hrun]
  ·exact h.elim
 ·exact h.elim
end
end Go.V
namespace Go.V
variable [Dr] [Ov]
open Go.RowKit
section
variable {P:Program} {w:World}
theorem zw2 (base e:Nat) (xs news:List Value) (n m old:Nat) (z:Value) (hxl:xs.length=n) (hnl:news.length=m) (hz:z.cells.size=1) (h63:n+m≤maxLen) (hbase:base≤w.heap.size) :
  (w.drew.alloc (.cells (xs.toArray++news.toArray++Builtin.zeroCells z.cells (grownCap w (n+m) old e-(n+m))) e)).ownsRow base e 1 (.slice (some ⟨w.heap.size,0,none⟩) (n+m) (grownCap w (n+m) old e)) (n+m) (xs++news):=by
 have hge:=grownCap_ge w (n+m) old e
 refine ⟨by simp [hxl,hnl],.inr ⟨w.heap.size,_,_,rfl,hbase,Go.heap_alloc_new w.drew _,hge,grownCap_le_maxLen w (n+m) old e h63,?_,?_⟩⟩
 ·simp only [Array.size_append,List.size_toArray,size_zeroCells,hz,hxl,hnl]
  omega
 ·simp only [Array.toList_append]
  rw [List.take_append_of_le_length (by simp [hxl,hnl]),List.take_of_length_le (by simp [hxl,hnl])]
theorem zp6 (base:Nat) (t u ty e:TypeId) (i:TypeInfo) (z:Value) (ht:P.underlying t=some (.slice e)) (hu:P.underlying u=some .string) (hi:P.info? e=some i) (hz:i.zero=some z)
  (hsize:i.size=1) (hby:i.bytes=1) (hzs:z.cells.size=1)
  (v:Value) (n:Nat) (xs:List Value) (hown:w.ownsRow base e 1 v n xs) (s:ByteArray)
  (h63:n+s.size≤maxLen) (hbytes:n+s.size≤140737488355328) (hbase:base≤w.heap.size)
  (hones : ∀ b,blk v=some b→zcv w b) (hx1 : ∀ u∈xs,u.oneCell'=true) (hz1 : ∀ u∈z.cells.toList,u.oneCell'=true) :
  ∃ v' w',(Builtin.append_ #[t,u] ty #[v,.string s]).run P w = .ok v' w'∧w'.ownsRow base e 1 v' (n+s.size) (xs++Lib.strCells s)∧w.grownBy w' v.ownBlock ∧
   (v'.ownBlock=v.ownBlock∨∃ g,v'.ownBlock=some g∧w.heap.size≤g)∧∀ b,blk v'=some b→zcv w' b:=by
 have hsmall:n+s.size≤9223372036854775807:=by simp only [maxLen] at h63;omega
 have hxl:xs.length=n:=by simpa using hown.1
 have hsl:=Lib.strCells_length s
 have hnew : ∀ (olds:List Value) (k:Nat),(∀ u∈olds,u.oneCell'=true)→zcv (w.drew.alloc (.cells (olds.toArray++(Lib.strCells s).toArray++Builtin.zeroCells z.cells k) e)) w.heap.size:=by
  intro olds k ho;refine zcv.of (Go.heap_alloc_new w.drew _) fun u hu=>?_
  simp only [Array.toList_append,List.mem_append] at hu;rcases hu with (hu | hu) | hu
  ·exact ho u hu
  ·exact Lib.strCells_oneCell s u hu
  ·exact zlo hz1 k u hu
 have hgb : ∀ (cs:Array Value) (row:Option Nat),w.grownBy (w.drew.alloc (.cells cs e)) row:=fun cs row=>⟨rfl,rfl,rfl,by simp,fun k hk _=>Go.heap_alloc_old w.drew _ hk⟩
 rcases hown.2 with ⟨rfl,rfl⟩ | ⟨g,cap,cur,rfl,hbg,hg,hnc,hcm,hcs,htake⟩
 ·have hx:xs=[]:=List.eq_nil_of_length_eq_zero hxl
  subst hx;by_cases hm:s.size=0
  ·have hn:Lib.strCells s=[]:=List.eq_nil_of_length_eq_zero (by rw [hsl];exact hm)
   have hf:=Lib.run_firstCells_string (P:=P) w 1 s;rw [hm] at hf;refine ⟨.slice none 0 0,w,?_,by rw [hm,hn];exact World.ownsRow_nil w base e 1,⟨rfl,rfl,rfl,Nat.le_refl _,fun _ _ _=>rfl⟩,.inl rfl,fun b hb=>by simp [blk] at hb⟩
   simp [Builtin.append_,run_underlying ht,run_underlying hu,sizeOf,typeInfo,hi,hsize,Builtin.lenOf,hm,hf]
  ·have hr:=run_append_nil_string (P:=P) w t u ty e i z ht hu hi hz s (by omega) (by omega) (by rw [hby];omega)
   have e1:(s.data.map fun b=>Value.int .u8 b.toNat)=(Lib.strCells s).toArray:=by apply Array.ext';simp [Lib.strCells]
   rw [e1] at hr;have hO:=zw2 (w:=w) base e [] (Lib.strCells s) 0 s.size 0 z rfl hsl hzs (by omega) hbase
   have hN:=hnew [] (grownCap w s.size 0 e-s.size) (fun _ h=>by cases h)
   simp only [Nat.zero_add,List.nil_append,Array.empty_append] at hO hN;refine ⟨_,_,hr,by simpa using hO,hgb _ _,.inr ⟨_,rfl,Nat.le_refl _⟩,fun b hb=>?_⟩
   simp [blk] at hb;subst hb;exact hN
 ·by_cases hroom:n+s.size≤cap
  ·have hcs':cur.size=cap:=by simpa using hcs
   have hr:=Lib.run_append_room_string (P:=P) w t u ty e i ht hu hi hsize g n cap cur hg s hroom (by omega)
   refine ⟨_,_,hr,⟨by simp [hxl,hsl],.inr ⟨g,cap,_,rfl,hbg,setRow_heap w g cur _ e _ hg,hroom,hcm,?_,?_⟩⟩,⟨rfl,rfl,rfl,by simp,fun k _ hk=>setRow_other w g k _ (fun e=>hk (by simp [Value.ownBlock,e]))⟩,.inl rfl,fun b hb=>?_⟩
   ·simp only [List.size_toArray,List.length_append,List.length_take,List.length_drop,Array.length_toList,hsl]
    omega
   ·have ht':cur.toList.take n=xs:=by simpa using htake
    show (List.take _ (_++_++_))=_
    rw [ht',List.take_append_of_le_length (by simp [hxl,hsl]),List.take_of_length_le (by simp [hxl,hsl])]
   ·simp [blk] at hb;subst hb
    refine zcv.of (setRow_heap w g cur _ e (0,0) hg) fun u hu=>?_
    have h0:=hones g (by rfl) _ _ _ hg
    simp only [List.mem_append] at hu;rcases hu with (hu | hu) | hu
    ·exact h0 u (List.mem_of_mem_take hu)
    ·exact Lib.strCells_oneCell s u hu
    ·exact h0 u (List.mem_of_mem_drop hu)
  ·have holds : ∀ j u,xs[j]?=some u→w.cell? ((⟨g,0,none⟩:Addr).add j)=some u:=hown.cells (g:=g) rfl
   have hr:=Lib.run_append_grow_string (P:=P) w t u ty e i z ht hu hi hz ⟨g,0,none⟩ n cap xs (by rw [hsize];simpa using hxl) holds s (by omega) (by omega) (by rw [hby];exact growslice_fits (by omega) (by omega))
   refine ⟨_,_,hr,zw2 base e xs (Lib.strCells s) n s.size cap z hxl hsl hzs h63 hbase,hgb _ _,.inr ⟨_,rfl,Nat.le_refl _⟩,fun b hb=>?_⟩
   simp [blk] at hb;subst hb;exact hnew xs _ hx1
end
def zoo (P:Program) (st:St) (dst:Option Tmp) (t t':Nat) (s x:Sym) (K:St→Prop):Prop:=
 match x with
 | .d (.str b)=>match TI.of P t,TI.of P t' with
  | some ⟨.slice e,_,_,_,_⟩,some ⟨.str,_,_,_,_⟩=>match TI.of P e with
   | some te=>te.size=1∧te.bytes=1∧te.zero.length=1∧te.zero.all (·.oneCell')=true∧match s with
    | .ar id=>match st.look id with
     | some (.arr T sz rows)=>T=e∧sz=1∧rows.length+b.size≤140737488355328∧rows.length+b.size≤maxLen∧K ((st.renew id (.arr e 1 (rows++za7 b))).put dst (.ar id))
     | _=>False
    | .nils=>b.size≤140737488355328∧b.size≤maxLen∧K (((st.new (.arr e 1 [])).renew st.next (.arr e 1 (za7 b))).put dst (.ar st.next))
    | _=>False
   | none=>False
  | _,_=>False
 | _=>False
section
variable {P:Program} {X:Nat→Prop} {w0:Base} {st:St} {β:Nat→Value} {a:Act} {w w':World} {E:Nat→Prop} {m:Nat} {k:Sym→Prop}
theorem zuh (w:World) (E:Nat→Prop) (b:ByteArray):zae w E (za7 b).flatten (Lib.strCells b):=by
 unfold za7 Lib.strCells
 induction b.data.toList with
 | nil=>simp [zae]
 | cons y r ih=>
  simp only [List.map_cons,List.flatten_cons,List.singleton_append,zae];exact ⟨_,_,rfl,rfl,by simp [R],ih⟩
theorem zhl (b:ByteArray):(za7 b).length=b.size:=by unfold za7;rw [List.length_map];rfl
theorem zzj (b:ByteArray) : ∀ r∈za7 b,r.length=1:=by
 intro r hr
 simp only [za7,List.mem_map] at hr
 obtain ⟨_,_,rfl⟩:=hr
 rfl
theorem zlu (hm:Mods X w0 st β a w) {o:Oper} {t t':Nat} {s x:Operand} (ho:o.op = .call {callee:=.builtin .append,args:=#[s,x],argTypes:=#[t,t']}) (hd : ∀ t,o.dst=some t→t<st.n) {K:St→Prop}
  {e:Nat} {te:TI} (hu:P.underlying t=some (.slice e)) (hu':P.underlying t'=some .string) (hte:TI.of P e=some te) (hs1:te.size=1) (hb1:te.bytes=1) (hzl:te.zero.length=1) (hz1:te.zero.all (·.oneCell')=true) {id:Nat} (hvs:a.eval s=β id) {rows:List (List D)} {b:ByteArray} (hx:a.eval x = .string b)
  (hob:st.look id=some (.arr e 1 rows)) (hb:rows.length+b.size≤140737488355328) (hml:rows.length+b.size≤maxLen)
  (h:K ((st.renew id (.arr e 1 (rows++za7 b))).put o.dst (.ar id))):Goes P X w0 o a w K:=by
 obtain ⟨ie,ue,ze,hie,hue,hze,_,hsz,hby,_,hzc⟩:=zat hte
 obtain ⟨hid,hlc,xs,hxo,hxc,hrs⟩:=hm.obj hob
 have hrs' : ∀ r∈rows++za7 b,r.length=1:=fun r hr=>(List.mem_append.1 hr).elim (hrs r) (zzj b r)
 have hzs:ze.cells.size=1:=by rw [← hzl,hzc];simp
 obtain ⟨v',w',hr,ho',hg,hblk,hones⟩:=zp6 (P:=P) (w:=w) 0 t t' o.type e ie ze hu hu' hie hze (by rw [← hsz,hs1]) (by rw [← hby,hb1]) hzs (β id) rows.length xs hxo.1 b hml hb (Nat.zero_le _) (fun b hb=>(hxo.2 b hb).2) hxc.one (by rw [← hzc];exact List.all_eq_true.1 hz1)
 have hsrc2 : ∀ b,blk v'=some b→blk (β id)=some b∨w.heap.size≤b:=by
  intro b hb;rw [← zhj ho'] at hb;rcases hblk with e | ⟨g,e,hge⟩
  ·left;rw [e,zhj hxo.1] at hb;exact hb
  ·right;rw [e] at hb;cases hb;exact hge
 have hmay : ∀ b,blk v'=some b→w0.may b:=fun b hb=>(hsrc2 b hb).elim (fun e=>(hxo.2 b e).1) (fun h=>.inl (Nat.le_trans hm.below.size h))
 have hlen:(rows++za7 b).length=rows.length+b.size:=by rw [List.length_append,zhl]
 have hm':=hm.renew (o':=.arr e 1 (rows++za7 b)) hob (zzg ho')
  (hm.below.turn hg.os hg.tape hg.output hg.size (fun k hk hn=>hg.block k hk (fun e=>hn (hxo.2 k (by rw [← zhj hxo.1];exact e.symm)).1)) (fun _=>zbx P _ _ _ _ hr))
  (fun c hc hne=>hg.block c hc (by rw [zhj hxo.1];exact hne)) hsrc2 trivial
  (fun E hov hbE=>⟨xs++Lib.strCells b,⟨by rw [hlen];simpa using ho',fun b hb=>⟨hmay b (by simpa using hb),hones b (by simpa using hb)⟩⟩,by rw [List.flatten_append];exact zae.append (zae.over hov _ _ hxc) (zuh _ _ b),hrs'⟩)
 refine Goes.za6 (v:=v') (w':=w') ?_ h (hm'.za0 hd (by simpa [Sym.lo,St.renew] using hid) (by simp [Sm]))
 simp [execOp,ho,resolve,invoke,builtin,hvs,hx,hr]
theorem zrd (hm:Mods X w0 st β a w) {o:Oper} {t t':Nat} {s x:Operand} (ho:o.op = .call {callee:=.builtin .append,args:=#[s,x],argTypes:=#[t,t']}) (hd : ∀ t,o.dst=some t→t<st.n) {K:St→Prop}
  (h:zoo P st o.dst t t' (st.val s) (st.val x) K):Goes P X w0 o a w K:=by
 unfold zoo at h
 split at h
 case h_2=>exact h.elim
 rename_i b hxs
 have hvx:=(hm.val x).2
 rw [hxs] at hvx
 simp only [Sm,R] at hvx
 split at h
 case h_2=>exact h.elim
 rename_i e _ _ _ _ _ _ _ _ ht ht'
 obtain ⟨i,u,z,hi,hu,hz,hkd,_⟩:=zat ht
 have:=za5 hkd.symm;subst this
 obtain ⟨i',u',z',hi',hu',hz',hkd',_⟩:=zat ht'
 have:=zek hkd'.symm;subst this
 split at h
 case h_2=>exact h.elim
 rename_i te hte
 obtain ⟨hs1,hb1,hzl,hz1,h⟩:=h
 have hvs:=(hm.val s).2
 split at h
 ·rename_i id hs
  rw [hs] at hvs;simp only [Sm] at hvs;split at h
  ·rename_i T sz rows hob
   obtain ⟨rfl,rfl,hb,hml,h⟩:=h;exact zlu hm ho hd hu hu' hte hs1 hb1 hzl hz1 hvs hvx hob hb hml h
  ·exact h.elim
 ·rename_i hs
  obtain ⟨hb,hml,h⟩:=h;rw [hs] at hvs;simp only [Sm] at hvs;have hm1:=hm.z08 e 1;refine zlu hm1 ho hd hu hu' hte hs1 hb1 hzl hz1 (id:=st.next) (rows:=[]) ?_ hvx ?_ (by simpa using hb) (by simpa using hml) (by simpa using h)
  ·simp [hvs]
  ·simp [St.look,St.new,zab]
 ·exact h.elim
end
end Go.V

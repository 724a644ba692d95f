/- A program logic of my own over the kit: part V10. It needs no conditions. -/
import Derived.Test.YtknekjalbninmaaGreatV1
import Derived.Great.BuildSlice
import Derived.Lib.ConvBytes
import Derived.RangeFuncRecord
import Derived.Laws.MakeOwn
import Derived.Laws.CopyRow
import Derived.Laws.IdiomCopy
import Derived.Laws.BytesString
import Derived.Lib.Overlaps
import Derived.Lib.AppendZerosOnto
import Derived.Lib.AppendStr
set_option linter.unusedVariables false
set_option linter.unusedSimpArgs false
set_option linter.unusedSectionVars false
namespace Go.V
variable [Dr] [Ov]
open Go.RowKit
mutual
theorem Sm.over{w w':World}{E E':Nat->Prop}{β β':Nat->Value}{m:Nat}(hβ:∀ id,id<m->β' id=β id)(h:Over w E w' E'):
  ∀ {s:Sym} {v:Value},Sym.lo m s->Sm w E β s v->Sm w' E' β' s v
 |.d x,v,_,hs=>by simp only[Sm] at hs ⊢;exact R.over h _ _ hs
 |.nils,v,_,hs=>by simpa[Sm] using hs
 |.bp id off,v,H,hs=>by simp only[Sm,Sym.lo] at hs H ⊢;rw[hβ id H];exact hs
 |.ar id,v,H,hs=>by simp only[Sm,Sym.lo] at hs H ⊢;rw[hβ id H];exact hs
 |.ap id sz i off,v,H,hs=>by simp only[Sm,Sym.lo] at hs H ⊢;rw[hβ id H];exact hs
 |.aS id sz i off,v,H,hs=>by simp only[Sm,Sym.lo] at hs H ⊢;rw[hβ id H];exact hs
 |.av id sz i off,v,H,hs=>by simp only[Sm,Sym.lo] at hs H ⊢;rw[hβ id H];exact hs
 |.yd id,v,H,hs=>by simp only[Sm,Sym.lo] at hs H ⊢;rw[hβ id H];exact hs
 |.mp id,v,H,hs=>by simp only[Sm,Sym.lo] at hs H ⊢;rw[hβ id H];exact hs
 |.tup l,v,H,hs=>by
  simp only[Sm,Sym.lo] at hs H ⊢;obtain⟨vs,G,h2⟩:=hs;exact⟨vs,G,Sms.over hβ h H h2⟩
 |.agg l,v,H,hs=>by
  simp only[Sm,Sym.lo] at hs H ⊢;obtain⟨vs,G,h2,F⟩:=hs;exact⟨vs,G,Sms.over hβ h H h2,F⟩
 |.fn f l,v,H,hs=>by
  simp only[Sm,Sym.lo] at hs H ⊢;obtain⟨vs,G,h2⟩:=hs;exact⟨vs,G,Sms.over hβ h H h2⟩
 |.junk,v,_,_=>by simp[Sm]
theorem Sms.over{w w':World}{E E':Nat->Prop}{β β':Nat->Value}{m:Nat}(hβ:∀ id,id<m->β' id=β id)(h:Over w E w' E'):
  ∀ {l:List Sym} {vs:List Value},Sym.los m l->Sms w E β l vs->Sms w' E' β' l vs
 | [],vs,_,hs=>by simpa[Sms] using hs
 |s::r,vs,H,hs=>by
  simp only[Sms,Sym.los] at hs H ⊢;obtain⟨v,vs',rfl,G,h2⟩:=hs;exact⟨v,vs',rfl,Sm.over hβ h H.1 G,Sms.over hβ h H.2 h2⟩
end
mutual
theorem Sym.ze9{m m':Nat}(h:m<=m'):∀ {s:Sym},Sym.lo m s->Sym.lo m' s
 |.d _,_=>by simp[Sym.lo]
 |.nils,_=>by simp[Sym.lo]
 |.junk,_=>by simp[Sym.lo]
 |.bp _ _,H=>by simp only[Sym.lo] at H ⊢;omega
 |.ar _,H=>by simp only[Sym.lo] at H ⊢;omega
 |.ap _ _ _ _,H=>by simp only[Sym.lo] at H ⊢;omega
 |.aS _ _ _ _,H=>by simp only[Sym.lo] at H ⊢;omega
 |.av _ _ _ _,H=>by simp only[Sym.lo] at H ⊢;omega
 |.yd _,H=>by simp only[Sym.lo] at H ⊢;omega
 |.mp _,H=>by simp only[Sym.lo] at H ⊢;omega
 |.tup l,H=>by simp only[Sym.lo] at H ⊢;exact Sym.zlb h H
 |.agg l,H=>by simp only[Sym.lo] at H ⊢;exact Sym.zlb h H
 |.fn _ l,H=>by simp only[Sym.lo] at H ⊢;exact Sym.zlb h H
theorem Sym.zlb{m m':Nat}(h:m<=m'):∀ {l:List Sym},Sym.los m l->Sym.los m' l
 | [],_=>by simp[Sym.los]
 |s::r,H=>by simp only[Sym.los] at H ⊢;exact⟨Sym.ze9 h H.1,Sym.zlb h H.2⟩
end
theorem Obj'.ze9{m m':Nat}(h:m<=m'){o:Obj'}(H:o.lo m):o.lo m':=by
 cases o with
 |box T cells=>exact Sym.zlb h H
 |arr T sz rows=>trivial
 |map T rows=>trivial
 |raw k cells=>exact Sym.zlb h H
theorem z1k{w w':World}{base T sz n:Nat}{v:Value}{xs:List Value}(h:w.ownsRow base T sz v n xs)(H:∀ b,blk v=some b->w'.heap[b]?=w.heap[b]?):w'.ownsRow base T sz v n xs:=by
 refine⟨h.1,?_⟩
 rcases h.2 with G | ⟨g,cap,cur,F,E,h2,K⟩
 .exact .inl G
 .exact .inr ⟨g,cap,cur,F,E,by rw[H g (by rw[F];rfl)];exact h2,K⟩
theorem Owns.same{N:Nat->Prop}{w w':World}{T sz n:Nat}{v:Value}{xs:List Value}(h:Owns N w T sz v n xs)(H:∀ b,blk v=some b->w'.heap[b]?=w.heap[b]?):Owns N w' T sz v n xs:=⟨z1k h.1 H,λb e=>⟨(h.2 b e).1,(h.2 b e).2.same (H b e)⟩⟩
theorem zdi.over{w w':World}{base:Nat->Prop}{E E':Nat->Prop}{β β':Nat->Value}{m id:Nat}{o:Obj'}(hβ:∀ id,id<m->β' id=β id)(h:Over w E w' E')
  (hid:id<m) (H:o.lo m) (G:∀ b,blk (β id)=some b->w'.heap[b]?=w.heap[b]?) (F:zdi w base E β id o):zdi w' base E' β' id o:=by
 cases o with
 |box T cells=>
  obtain⟨b,vs,K,h2,J,L,M⟩:=F;exact⟨b,vs,by rw[hβ id hid];exact K,h2,by rw[G b (by rw[K];rfl)];exact J,Sms.over hβ h H L,M⟩
 |arr T sz rows=>
  obtain⟨xs,K,h2,J⟩:=F;exact⟨xs,by rw[hβ id hid];exact Owns.same K G,zah.over h _ _ h2,J⟩
 |map T rows=>
  obtain⟨r,es,clock,K,h2,J,L⟩:=F;exact⟨r,es,clock,by rw[hβ id hid];exact K,h2,by rw[G r (by rw[K];rfl)];exact J,zdb.over h _ _ L⟩
 |raw k cells=>
  obtain⟨b,fn,D,vs,K,h2,J,L⟩:=F;exact⟨b,fn,D,vs,by rw[hβ id hid];exact K,h2,by rw[G b (by rw[K];exact k.zj5 b)];exact J,Sms.over hβ h H L⟩
theorem zyt{a:Act}{dst:Option Tmp}{v:Value}{t:Tmp}(h:∀ d,dst=some d->d<a.tmps.size):
  (a.put dst v).tmps.getD t undef=if dst=some t then v else a.tmps.getD t undef:=by
 cases dst with
 |none=>simp[Act.put]
 |some d=>
  have:=h d rfl
  by_cases e:d=t
  .subst e;simp[Act.put,this]
  .have e':¬(some d=some t):=by simpa using e
   simp only[Act.put,e',if_false];simp[Array.getElem?_setIfInBounds,e]
section
variable {P:Program} {X:Nat->Prop} {w0:Base} {st:St} {β:Nat->Value} {a:Act} {w w':World}
theorem Mods.put(K:Mods X w0 st β a w)(J:Below w.heap.size w w'){dst:Option Tmp}{s:Sym}{v:Value}(L:∀ t,dst=some t->t<st.n)(M:Sym.lo st.next s)
  (hs:Sm w' (Ex X β st.own) β s v):Mods X w0 (st.put dst s) β (a.put dst v) w':=by
 have G:Over w (Ex X β st.own) w' (Ex X β st.own):=Over.of_below J _
 have O:(st.put dst s).n=st.n:=by cases dst <;> rfl
 have Q:(st.put dst s).own=st.own:=by cases dst <;> rfl
 have T:(st.put dst s).next=st.next:=by cases dst <;> rfl
 refine⟨K.outer,by cases dst <;> exact K.still,K.one,?_,?_,K.below.next J,?_,?_,?_,?_⟩
 .cases dst <;> exact K.defers
 .rw[O,<-K.size];cases dst <;> simp[Act.put]
 .rw[Q];exact K.keys
 .rw[Q,T]
  intro id o H;obtain⟨V,h2,Y⟩:=K.own id o H;exact⟨V,h2,zdi.over (m:=st.next) (λ_ _=>rfl) G V h2 (λb F=>J.block b (K.lt b (.inr ⟨id,o,H,F⟩))) Y⟩
 .rw[Q];exact K.apart
 .rw[Q,T]
  intro t s' Z;rw[zyt (λd E=>by rw[K.size];exact L d E)]
  cases dst with
  |none=>
   simp only[St.put] at Z;have:=K.slots t s' Z
   exact⟨this.1,by simpa using Sm.over (m:=st.next) (λ_ _=>rfl) G this.1 this.2⟩
  |some d=>
   simp only[St.put,zac] at Z;by_cases e:d=t
   .subst e;simp at Z;subst Z;simp;exact⟨M,hs⟩
   .simp only[e,if_false] at Z
    have:=K.slots t s' Z
    have e':¬(some d=some t):=by simpa using e
    simp only[e',if_false];exact⟨this.1,Sm.over (m:=st.next) (λ_ _=>rfl) G this.1 this.2⟩
theorem Mods.new(Q:Mods X w0 st β a w)(T:Below w.heap.size w w'){o:Obj'}{v:Value}(J:v.oneCell'=true)(L:o.lo st.next)
  (G:∀ b,blk v=some b->w.heap.size<=b)
  (M:zdi w' w0.may (λb=>Ex X β st.own b\/blk v=some b) (λi=>if i=st.next then v else β i) st.next o) :
  Mods X w0 {st with next:=st.next+1,own:=(st.next,o)::st.own} (λi=>if i=st.next then v else β i) a w':=by
 have hβ:∀ id,id<st.next->(λi=>if i=st.next then v else β i) id=β id:=by
  intro id h;simp;intro e;omega
 have V:∀ b,Ex X (λi=>if i=st.next then v else β i) ((st.next,o)::st.own) b↔(Ex X β st.own b\/blk v=some b):=by
  intro b;constructor
  .rintro(h | ⟨id,o',H,h⟩)
   .exact .inl (.inl h)
   .rcases List.mem_cons.1 H with e | H
    .cases e;simp at h;exact .inr h
    .have:=(Q.own id o' H).1
     rw[hβ id this] at h;exact .inl (.inr ⟨id,o',H,h⟩)
  .rintro((h | ⟨id,o',H,h⟩) | h)
   .exact .inl h
   .refine .inr ⟨id,o',List.mem_cons_of_mem _ H,?_⟩
    rw[hβ id (Q.own id o' H).1];exact h
   .exact .inr ⟨st.next,o,by simp,by simpa using h⟩
 have E:Ex X (λi=>if i=st.next then v else β i) ((st.next,o)::st.own)=(λb=>Ex X β st.own b\/blk v=some b):=funext λb=>propext (V b)
 have K:Over w (Ex X β st.own) w' (λb=>Ex X β st.own b\/blk v=some b):=by
  intro b F Y;refine⟨?_,T.block b F⟩
  rintro(h | h)
  .exact Y h
  .have:=G b h;omega
 refine⟨Q.outer,⟨Nat.le_succ_of_le Q.still.1,λi Z h2=>(hβ i (Nat.lt_of_lt_of_le Z Q.still.1)).trans (Q.still.2 i Z h2)⟩,λi=>by split;exact J;exact Q.one i,Q.defers,Q.size,Q.below.next T,?_,?_,?_,?_⟩
 .simp only[List.map_cons,List.nodup_cons]
  refine⟨?_,Q.keys⟩
  intro h;obtain⟨⟨id,o'⟩,H,e⟩:=List.mem_map.1 h;have:=(Q.own id o' H).1
  simp at e;omega
 .intro id o' H
  rw[E];rcases List.mem_cons.1 H with e | H
  .cases e
   exact⟨Nat.lt_succ_self _,Obj'.ze9 (Nat.le_succ _) L,M⟩
  .obtain⟨Z,h2,A⟩:=Q.own id o' H
   exact⟨Nat.lt_succ_of_lt Z,Obj'.ze9 (Nat.le_succ _) h2,zdi.over (m:=st.next) hβ K Z h2 (λb O=>T.block b (Q.lt b (.inr ⟨id,o',H,O⟩))) A⟩
 .intro id o1 id' o2 b Z h2 e1 e2
  rcases List.mem_cons.1 Z with e | Z <;> rcases List.mem_cons.1 h2 with e' | h2
  .cases e;cases e';rfl
  .cases e
   have F:=(Q.own id' o2 h2).1;rw[if_neg (by omega)] at e2
   simp at e1
   have:=G b e1
   have:=Q.lt b (.inr ⟨id',o2,h2,e2⟩)
   omega
  .cases e'
   have F:=(Q.own id o1 Z).1;rw[if_neg (by omega)] at e1
   simp at e2
   have:=G b e2
   have:=Q.lt b (.inr ⟨id,o1,Z,e1⟩)
   omega
  .have l1:=(Q.own id o1 Z).1
   have l2:=(Q.own id' o2 h2).1;rw[if_neg (by omega)] at e1
   rw[if_neg (by omega)] at e2
   exact Q.apart id o1 id' o2 b Z h2 e1 e2
 .intro t s B
  have:=Q.slots t s B
  rw[E];exact⟨Sym.ze9 (Nat.le_succ _) this.1,Sm.over hβ K this.1 this.2⟩
end
end Go.V
namespace Go.V
variable [Dr] [Ov]
open Go.RowKit
theorem zkc{α:Type}{t:Nat}{v:α}:∀ {l:List (Nat×α)},t∈l.map (·.1)->(aset t v l).map (·.1)=l.map (·.1)
 | [],h=>by cases h
 |(k,u)::r,h=>by
  simp only[aset];split
  .rfl
  .rename_i hk
   simp only[List.map_cons,List.mem_cons] at h ⊢;rcases h with h | h
   .exact absurd h.symm hk
   .rw[zkc h]
theorem zlc{α:Type}{t:Nat}{v:α}:∀ {l:List (Nat×α)} {id:Nat} {o:α},(l.map (·.1)).Nodup->(id,o)∈aset t v l->(id=t/\o=v)\/(id≠t/\(id,o)∈l)
 | [],id,o,_,h=>by simp[aset] at h;exact .inl h
 |(k,u)::r,id,o,H,h=>by
  simp only[aset] at h;simp only[List.map_cons,List.nodup_cons] at H;split at h
  .rename_i G
   rcases List.mem_cons.1 h with e | h
   .cases e;exact .inl ⟨G,rfl⟩
   .refine .inr ⟨?_,List.mem_cons_of_mem _ h⟩
    intro e;subst e;subst G;exact H.1 (List.mem_map.2 ⟨(k,o),h,rfl⟩)
  .rename_i G
   rcases List.mem_cons.1 h with e | h
   .cases e;exact .inr ⟨G,by simp⟩
   .rcases zlc H.2 h with e | ⟨e,h⟩
    .exact .inl e
    .exact .inr ⟨e,List.mem_cons_of_mem _ h⟩
theorem zdu{α:Type}{t:Nat}:∀ {l:List (Nat×α)} {id:Nat} {o:α},(id,o)∈adel t l->id≠t/\(id,o)∈l
 | [],id,o,h=>by simp[adel] at h
 |(k,u)::r,id,o,h=>by
  simp only[adel] at h;split at h
  .have:=zdu h;exact⟨this.1,List.mem_cons_of_mem _ this.2⟩
  .rename_i H
   rcases List.mem_cons.1 h with e | h
   .cases e;exact⟨H,by simp⟩
   .have:=zdu h;exact⟨this.1,List.mem_cons_of_mem _ this.2⟩
theorem zpp{α:Type}{t:Nat}:∀ {l:List (Nat×α)},(l.map (·.1)).Nodup->((adel t l).map (·.1)).Nodup
 | [],_=>by simp[adel]
 |(k,u)::r,hn=>by
  simp only[List.map_cons,List.nodup_cons] at hn;simp only[adel];split
  .exact zpp hn.2
  .simp only[List.map_cons,List.nodup_cons]
   refine⟨λh=>hn.1 ?_,zpp hn.2⟩
   obtain⟨⟨id,o⟩,H,e⟩:=List.mem_map.1 h;exact List.mem_map.2 ⟨(id,o),(zdu H).2,e⟩
section
variable {P:Program} {X:Nat->Prop} {w0:Base} {st:St} {β:Nat->Value} {a:Act} {w w':World}
theorem Mods.step(M:Mods X w0 st β a w){next':Nat}{own':List (Nat×Obj')}{β':Nat->Value}(O:st.next<=next')(E:∀ id,(β' id).oneCell'=true)(hβ:∀ id,id<st.next->β' id=β id)
  (H:Kept w0 w') (F:(own'.map (·.1)).Nodup)
  (K:∀ id o,(id,o)∈own'->((id,o)∈st.own/\∀ b,blk (β id)=some b->w'.heap[b]?=w.heap[b]?)\/(id<next'/\o.lo next'/\zdi w' w0.may (Ex X β' own') β' id o))
  (G:∀ id o id' o' b,(id,o)∈own'->(id',o')∈own'->blk (β' id)=some b->blk (β' id')=some b->id=id')
  (L:Over w (Ex X β st.own) w' (Ex X β' own')):Mods X w0 {st with next:=next',own:=own' } β' a w':=by
 refine⟨M.outer,⟨Nat.le_trans M.still.1 O,λi Q h2=>(hβ i (Nat.lt_of_lt_of_le Q M.still.1)).trans (M.still.2 i Q h2)⟩,E,M.defers,M.size,H,F,?_,G,?_⟩
 .intro id o J
  rcases K id o J with⟨h,hs⟩ | h
  .obtain⟨Q,h2,T⟩:=M.own id o h
   exact⟨Nat.lt_of_lt_of_le Q O,Obj'.ze9 O h2,zdi.over (m:=st.next) hβ L Q h2 hs T⟩
  .exact h
 .intro t s V
  have:=M.slots t s V
  exact⟨Sym.ze9 O this.1,Sm.over hβ L this.1 this.2⟩
theorem ymp{id:Nat}{o o':Obj'}(G:(st.own.map (·.1)).Nodup)(h:(id,o)∈st.own):Ex X β (aset id o' st.own)=Ex X β st.own:=by
 have H:=zkc (v:=o') (List.mem_map.2 ⟨(id,o),h,rfl⟩:id∈st.own.map (·.1))
 funext b
 have key:(∃ i x,(i,x)∈aset id o' st.own/\blk (β i)=some b)↔(∃ i x,(i,x)∈st.own/\blk (β i)=some b):=by
  constructor
  .rintro⟨i,x,F,e⟩
   rcases zlc G F with⟨rfl,rfl⟩ | ⟨_,F⟩
   .exact⟨i,o,h,e⟩
   .exact⟨i,x,F,e⟩
  .rintro⟨i,x,F,e⟩
   have:i∈(aset id o' st.own).map (·.1):=by rw[H];exact List.mem_map.2 ⟨(i,x),F,rfl⟩
   obtain⟨⟨j,y⟩,E,rfl⟩:=List.mem_map.1 this;exact⟨j,y,E,e⟩
 unfold Ex
 rw[key]
theorem Mods.update(A:Mods X w0 st β a w){id:Nat}{o o':Obj'}(B:st.look id=some o){b:Nat}(C:blk (β id)=some b)(F:w0.may b)
  (G:∀ c,c≠b->w'.heap[c]?=w.heap[c]?) (L:w'.heap.size=w.heap.size) (M:w'.os=w.os) (E:w'.tape=w.tape) (K:w'.output=w.output) (O:Drw w w')
  (Q:o'.lo st.next) (T:zdi w' w0.may (Ex X β st.own) β id o'):Mods X w0 {st with own:=aset id o' st.own} β a w':=by
 have H:=za0 B
 have I:=ymp (X:=X) (β:=β) (o':=o') A.keys H
 have J:Kept w0 w':=A.below.turn M E K (by rw[L];exact Nat.le_refl _) (λk _ N=>G k (λe=>by subst e;exact N F)) O
 refine A.step (next':=st.next) (Nat.le_refl _) A.one (λ_ _=>rfl) J ?_ ?_ ?_ ?_
 .rw[zkc (List.mem_map.2 ⟨(id,o),H,rfl⟩)];exact A.keys
 .intro i x P
  rcases zlc A.keys P with⟨rfl,rfl⟩ | ⟨V,P⟩
  .right;rw[I];exact⟨(A.own i o H).1,Q,T⟩
  .left
   refine⟨P,λc S=>G c ?_⟩
   intro e;subst e;exact V (A.apart i x id o c P H S C)
 .intro i x j y c P W e1 e2
  have old:∀ {i x},(i,x)∈aset id o' st.own->∃ x',(i,x')∈st.own:=by
   intro i x P;rcases zlc A.keys P with⟨rfl,rfl⟩ | ⟨_,P⟩
   .exact⟨o,H⟩
   .exact⟨x,P⟩
  obtain⟨x',Y⟩:=old P;obtain⟨y',Z⟩:=old W;exact A.apart i x' j y' c Y Z e1 e2
 .rw[I]
  intro c S he;refine⟨he,G c ?_⟩
  intro e;subst e;exact he (.inr ⟨id,o,H,C⟩)
theorem Mods.replace(Y:Mods X w0 st β a w){id:Nat}{o o':Obj'}(Z:st.look id=some o){v:Value}(Q:v.oneCell'=true)
  (K:Kept w0 w') (F:∀ c,c<w.heap.size->some c≠blk (β id)->w'.heap[c]?=w.heap[c]?)
  (J:∀ b,blk v=some b->blk (β id)=some b\/w.heap.size<=b)
  (T:o'.lo (st.next+1)) (V:∀ E:Nat->Prop,Over w (Ex X β st.own) w' E->(∀ b,blk v=some b->E b)->zdi w' w0.may E (λi=>if i=st.next then v else β i) st.next o') :
  Mods X w0 {st with next:=st.next+1,own:=(st.next,o')::adel id st.own} (λi=>if i=st.next then v else β i) a w':=by
 have G:=za0 Z
 have hid:=(Y.own id o G).1
 have hβ:∀ i,i<st.next->(λi=>if i=st.next then v else β i) i=β i:=by
  intro i h;simp;intro e;omega
 have M:Over w (Ex X β st.own) w' (Ex X (λi=>if i=st.next then v else β i) ((st.next,o')::adel id st.own)):=by
  intro c A B;have O:some c≠blk (β id):=λe=>B (.inr ⟨id,o,G,e.symm⟩)
  refine⟨?_,F c A O⟩
  rintro(h | ⟨i,x,C,h⟩)
  .exact B (.inl h)
  .rcases List.mem_cons.1 C with e | C
   .cases e
    simp at h
    rcases J c h with h | h
    .exact O h.symm
    .omega
   .have H:=(zdu C).2
    have L:=(Y.own i x H).1;rw[hβ i L] at h;exact B (.inr ⟨i,x,H,h⟩)
 have sep:∀ {i x c},(i,x)∈adel id st.own->blk (β i)=some c->blk v=some c->False:=by
  intro i x c C I h2;have H:=zdu C;rcases J c h2 with h | h
  .exact H.1 (Y.apart i x id o c H.2 G I h)
  .have:=Y.lt c (.inr ⟨i,x,H.2,I⟩);omega
 refine Y.step (next':=st.next+1) (Nat.le_succ _) (λi=>by split;exact Q;exact Y.one i) hβ K ?_ ?_ ?_ M
 .simp only[List.map_cons,List.nodup_cons]
  refine⟨?_,zpp Y.keys⟩
  intro h;obtain⟨⟨i,x⟩,C,e⟩:=List.mem_map.1 h;have:=(Y.own i x (zdu C).2).1
  simp at e;omega
 .intro i x C
  rcases List.mem_cons.1 C with e | C
  .cases e
   right
   exact⟨Nat.lt_succ_self _,T,V _ M (λb N=>.inr ⟨st.next,o',by simp,by simpa using N⟩)⟩
  .left
   have H:=zdu C;refine⟨H.2,λc A=>F c (Y.lt c (.inr ⟨i,x,H.2,A⟩)) ?_⟩
   intro e;exact H.1 (Y.apart i x id o c H.2 G A e.symm)
 .intro i x j y c C P e1 e2
  rcases List.mem_cons.1 C with e | C <;> rcases List.mem_cons.1 P with e' | P
  .cases e;cases e';rfl
  .cases e
   have L:=(Y.own j y (zdu P).2).1;rw[if_neg (by omega)] at e2;simp at e1
   exact(sep P e2 e1).elim
  .cases e'
   have L:=(Y.own i x (zdu C).2).1;rw[if_neg (by omega)] at e1;simp at e2
   exact(sep C e1 e2).elim
  .have l1:=(Y.own i x (zdu C).2).1
   have l2:=(Y.own j y (zdu P).2).1;rw[if_neg (by omega)] at e1
   rw[if_neg (by omega)] at e2
   exact Y.apart i x j y c (zdu C).2 (zdu P).2 e1 e2
end
end Go.V
namespace Go.V
variable [Dr] [Ov]
open Go.RowKit
def zbg:Sym->Option (List Sym)
 |.d (.agg l)=>some (l.map .d)
 |.d (.tup _)=>none
 |.d (.val _)=>none
 |.d x=>some [.d x]
 |.agg l=>some l
 |.tup _=>none
 |.junk=>none
 |s=>some [s]
section
variable {P:Program} {X:Nat->Prop} {w0:Base} {st:St} {β:Nat->Value} {a:Act} {w w':World} {E:Nat->Prop} {m:Nat}
theorem zd7(hβ:∀ id,(β id).oneCell'=true){s:Sym}{l:List Sym}{v:Value}(h:zbg s=some l)(H:Sym.lo m s)(hs:Sm w E β s v):
  ∃ vs:List Value,v.cells=vs.toArray/\Sms w E β l vs/\(∀ u∈vs,u.oneCell'=true)/\Sym.los m l:=by
 have one:∀ {s:Sym} {v:Value},Sym.lo m s->Sm w E β s v->v.oneCell'=true->∃ vs:List Value,v.cells=vs.toArray/\Sms w E β [s] vs/\(∀ u∈vs,u.oneCell'=true)/\Sym.los m [s]:=by
  intro s v H hs G;refine⟨[v],?_,by simp[Sms,hs],by simpa using G,by simpa[Sym.los] using H⟩
  cases v <;> first | rfl | simp[Value.oneCell'] at G
 cases s
 case d x=>
  cases x <;> simp only[zbg] at h
  case agg l'=>
   simp at h;subst h
   simp only[Sm,R] at hs;obtain⟨vs,rfl,F⟩:=hs;exact⟨vs,rfl,Sms.zd1 F.vals,F.one,Sym.zwn m l'⟩
  case tup=>cases h
  case val=>cases h
  all_goals (simp at h;subst h;refine one H hs ?_;simp only[Sm,R] at hs)
  case int=>subst hs;rfl
  case bool=>subst hs;rfl
  case str=>subst hs;rfl
  case sl=>obtain⟨_,_,rfl,_⟩:=hs;rfl
  case ptr=>obtain⟨_,_,rfl,_⟩:=hs;rfl
  case fn=>obtain⟨_,rfl,_⟩:=hs;rfl
  case mp=>obtain⟨_,_,_,rfl,_⟩:=hs;rfl
 case agg l'=>
  simp[zbg] at h;subst h;simp only[Sm] at hs;obtain⟨vs,rfl,F,G⟩:=hs;exact⟨vs,rfl,F,G,by simpa[Sym.lo] using H⟩
 case tup=>simp[zbg] at h
 case junk=>simp[zbg] at h
 all_goals (simp[zbg] at h;subst h;refine one H hs ?_;simp only[Sm] at hs)
 case nils=>subst hs;rfl
 case bp=>obtain⟨_,_,rfl⟩:=hs;rfl
 case ar=>subst hs;exact hβ _
 case ap=>obtain⟨_,_,_,_,rfl⟩:=hs;rfl
 case aS=>obtain⟨_,_,_,_,_,rfl,_⟩:=hs;rfl
 case av=>obtain⟨_,_,_,rfl,_⟩:=hs;rfl
 case yd=>obtain⟨_,_,rfl⟩:=hs;rfl
 case mp=>subst hs;exact hβ _
 case fn=>obtain⟨_,rfl,_⟩:=hs;rfl
end
end Go.V
namespace Go.V
variable [Dr] [Ov]
open Go.RowKit
def St.new(st:St)(o:Obj'):St:={st with next:=st.next+1,own:=(st.next,o)::st.own}
def St.set(st:St)(id:Nat)(o:Obj'):St:={st with own:=aset id o st.own}
def eBox(st:St)(dst:Option Tmp)(T:Nat)(s:Sym)(K:St->Prop):Prop:=
 match zbg s with
 |some l=>K ((st.new (.box T l)).put dst (.bp st.next 0))
 |none=>False
def yfz(st:St)(dst:Option Tmp)(T:Nat)(ti:TI)(K:St->Prop):Prop:=
 ti.zero.all (·.oneCell')=true/\K ((st.new (.box T (ti.zero.map ofConst))).put dst (.bp st.next 0))
def eNil(st:St)(dst:Option Tmp)(e sz:Nat)(K:St->Prop):Prop:=
 K ((st.new (.arr e sz [])).put dst (.ar st.next))
def splice{α:Type}(l:List α)(off:Nat)(x:List α):List α:=l.take off++x++l.drop (off+x.length)
def zlz(st:St)(ti:TI)(addr s:Sym)(K:St->Prop):Prop:=
 match addr with
 |.bp id off=>match st.look id with
  |some (.box T cells)=>match zbg s with
   |some l=>l.length=ti.size/\off+l.length<=cells.length/\K (st.set id (.box T (splice cells off l)))
   |none=>False
  |_=>False
 |.ap id sz i off=>match st.look id with
  |some (.arr T sz' rows)=>match zbg s with
   |some l=>match allD l with
    |some ds=>sz=sz'/\i<rows.length/\ds.length=ti.size/\off+ds.length<=(rows.getD i []).length/\K (st.set id (.arr T sz (rows.set i (splice (rows.getD i []) off ds))))
    |none=>False
   |none=>False
  |_=>False
 |_=>False
section
variable {P:Program} {X:Nat->Prop} {w0:Base} {st:St} {β:Nat->Value} {a:Act} {w w':World}
def Goes(P:Program)(X:Nat->Prop)(w0:Base)(o:Oper)(a:Act)(w:World)(K:St->Prop):Prop:=
 ∀ (N:Act->World->Prop) (Q:Exit->Act->World->Prop),(∀ a' w' st' β',K st'->Mods X w0 st' β' a' w'->N a' w')->o.wp P a w N Q
theorem Goes.zft{o:Oper}{K:St->Prop}(H:Mods X w0 st β a w)(G:∀ t,o.dst=some t->t<st.n)(h:Yields P X st β a w o (λs=>K (st.put o.dst s))):Goes P X w0 o a w K:=by
 intro N Q F
 exact h N Q λs v w' E J L hs=>F _ w' _ β E (H.put L G J hs)
theorem Goes.zba{o:Oper}{K:St->Prop}{v:Value}{st':St}{β':Nat->Value}(H:(execOp a.eval o).run P w = .ok (.value v) w')(G:K st')(F:Mods X w0 st' β' (a.put o.dst v) w'):Goes P X w0 o a w K:=by
 intro N Q E
 unfold Oper.wp
 rw[H]
 exact E _ _ _ _ G F
theorem Goes.zyu{o:Oper}{K:St->Prop}{st':St}{β':Nat->Value}(H:(execOp a.eval o).run P w = .ok .skip w')(G:K st')(F:Mods X w0 st' β' (a.put o.dst undef) w'):Goes P X w0 o a w K:=by
 intro N Q E
 unfold Oper.wp
 rw[H]
 exact E _ _ _ _ G F
theorem zbn(w:World)(o:Obj):Below w.heap.size w (w.alloc o):=(Below.refl _ _).alloc (Nat.le_refl _) o
theorem zwp(H:Mods X w0 st β a w)(o:Obj):Over w (Ex X β st.own) (w.alloc o) (λb=>Ex X β st.own b\/some w.heap.size=some b):=by
 intro b G F
 refine⟨?_,(zbn w o).block b G⟩
 rintro(h | h)
 .exact F h
 .simp at h;omega
theorem Mods.yk5(H:Mods X w0 st β a w){T:Nat}{l:List Sym}{vs:List Value}(G:Sym.los st.next l)(hs:Sms w (Ex X β st.own) β l vs)(F:∀ u∈vs,u.oneCell'=true):
  Mods X w0 (st.new (.box T l)) (λi=>if i=st.next then .pointer (some ⟨w.heap.size,0,none⟩) else β i) a (w.alloc (.cells vs.toArray T)):=by
 refine H.new (zbn w _) rfl G (λb hb=>by simp[blk] at hb;omega) ?_
 have hβ:∀ id,id<st.next->(λi=>if i=st.next then Value.pointer (some ⟨w.heap.size,0,none⟩) else β i) id=β id:=by
  intro id h;simp;intro e;omega
 refine⟨w.heap.size,vs,by simp,.inl H.below.size,Go.heap_alloc_new w _,?_,F⟩
 exact Sms.over hβ (zwp H _) G hs
theorem Mods.za1(H:Mods X w0 st β a w){dst:Option Tmp}{s:Sym}{v:Value}(G:∀ t,dst=some t->t<st.n)(F:Sym.lo st.next s)
  (hs:Sm w (Ex X β st.own) β s v):Mods X w0 (st.put dst s) β (a.put dst v) w:=H.put (Below.refl _ _) G F hs
theorem zwq(F:Mods X w0 st β a w){o:Oper}{T:Nat}{x:Operand}(E:o.op = .box T x)(J:∀ t,o.dst=some t->t<st.n){K:St->Prop}(h:eBox st o.dst T (st.val x) K):Goes P X w0 o a w K:=by
 unfold eBox at h
 split at h
 .rename_i l L
  obtain⟨vs,M,hs,O,H⟩:=zd7 F.one L (F.val x).1 (F.val x).2;have G:=F.yk5 (T:=T) H hs O;refine Goes.zba (v:=.pointer (some ⟨w.heap.size,0,none⟩)) (w':=w.alloc (.cells vs.toArray T)) ?_ h (G.za1 J (by simp[Sym.lo,St.new]) ?_)
  .simp[execOp,E,Instr.box,newVar,newRow,M]
  .simp only[Sm];exact⟨w.heap.size,by simp,rfl⟩
 .exact h.elim
theorem zqy(E:Mods X w0 st β a w){o:Oper}{T:Nat}(J:o.op = .alloc T){ti:TI}(L:TI.of P T=some ti)(M:∀ t,o.dst=some t->t<st.n){K:St->Prop}(h:yfz st o.dst T ti K):Goes P X w0 o a w K:=by
 obtain⟨i,u,z,hi,O,Q,_,_,_,_,H⟩:=zay L
 obtain⟨V,h⟩:=h
 have G:=E.yk5 (T:=T) (zh6 _ ti.zero) (zk9 _ _ _ ti.zero) (λu O=>by simpa using(List.all_eq_true.1 V) u O)
 have F:z.cells=ti.zero.toArray:=by rw[H]
 refine Goes.zba (v:=.pointer (some ⟨w.heap.size,0,none⟩)) (w':=w.alloc (.cells ti.zero.toArray T)) ?_ h (G.za1 M (by simp[Sym.lo,St.new]) ?_)
 .simp[execOp,J,Instr.alloc,zeroValue,typeInfo,hi,Q,newVar,newRow,F]
 .simp only[Sm];exact⟨w.heap.size,by simp,rfl⟩
theorem Mods.z1l(H:Mods X w0 st β a w)(e sz:Nat):Mods X w0 (st.new (.arr e sz [])) (λi=>if i=st.next then .slice none 0 0 else β i) a w:=by
 refine H.new (Below.refl _ _) rfl trivial (λb G=>by simp[blk] at G) ?_
 exact⟨[],⟨by simpa using World.ownsRow_nil w 0 e sz,by simp[blk]⟩,by simp[zah],by simp⟩
theorem zwr(H:Mods X w0 st β a w){o:Oper}(G:o.op = .assign (.const (.slice none 0 0)))(F:∀ t,o.dst=some t->t<st.n){e sz:Nat}{K:St->Prop}(h:eNil st o.dst e sz K):Goes P X w0 o a w K:=by
 refine Goes.zba (v:=.slice none 0 0) (w':=w) (by simp[execOp,G,Act.eval]) h ((H.z1l e sz).za1 F (by simp[Sym.lo,St.new]) ?_)
 simp[Sm]
end
end Go.V
namespace Go.V
variable [Dr] [Ov]
open Go.RowKit
section
variable {P:Program} {X:Nat->Prop} {w0:Base} {st:St} {β:Nat->Value} {a:Act} {w w':World} {E:Nat->Prop}
theorem Sms.splice{l m:List Sym}{vs us:List Value}(h:Sms w E β l vs)(H:Sms w E β m us)(off:Nat):Sms w E β (splice l off m) (splice vs off us):=by
 unfold Go.V.splice
 have G:=H.length
 rw[G]
 exact Sms.append (Sms.append (Sms.take off h) H) (Sms.drop _ h)
theorem Sym.zld{m:Nat}{l r:List Sym}(h:Sym.los m l)(H:Sym.los m r)(off:Nat):Sym.los m (Go.V.splice l off r):=
 Sym.zpm (Sym.zpm (Sym.zr4 off h) H) (Sym.zn1 _ h)
theorem zh8{α:Type}{l r:List α}{off:Nat}{x:α}(h:x∈splice l off r):x∈l\/x∈r:=by
 unfold splice at h
 rcases List.mem_append.1 h with h | h
 .rcases List.mem_append.1 h with h | h
  .exact .inl (List.mem_of_mem_take h)
  .exact .inr h
 .exact .inl (List.mem_of_mem_drop h)
theorem zdv{α:Type}{l u:List α}{off:Nat}(h:off+u.length<=l.length):(splice l off u).length=l.length:=by
 simp[splice];omega
theorem zpq{α:Type}{l u:List α}{off:Nat}(h:off+u.length<=l.length)(j:Nat):
  (splice l off u)[j]?=if j<off then l[j]? else if j<off+u.length then u[j-off]? else l[j]?:=by
 unfold splice
 have H:(l.take off).length=off:=by simp;omega
 by_cases a:j<off
 .rw[if_pos a,List.append_assoc,List.getElem?_append_left (by omega),List.getElem?_take,if_pos a]
 .rw[if_neg a,List.append_assoc,List.getElem?_append_right (by omega),H]
  by_cases b:j<off+u.length
  .rw[if_pos b,List.getElem?_append_left (by omega)]
  .rw[if_neg b,List.getElem?_append_right (by omega),List.getElem?_drop]
   congr 1;omega
theorem ztx{α:Type}{l u:List α}{off k:Nat}(h:off+u.length<=k)(H:k<=l.length):(splice l off u).take k=splice (l.take k) off u:=by
 apply List.ext_getElem?
 intro j
 have G:(l.take k).length=k:=by simp;omega
 rw[zpq (by omega),List.getElem?_take,zpq (by omega),List.getElem?_take]
 by_cases a:j<k
 .rw[if_pos a,if_pos a]
 .rw[if_neg a,if_neg a,if_neg (by omega),if_neg (by omega)]
theorem flat_length{sz:Nat}:∀ {rows:List (List D)},(∀ r∈rows,r.length=sz)->rows.flatten.length=rows.length*sz
 | [],_=>by simp
 |r::rs,h=>by
  have:=flat_length (rows:=rs) (λq H=>h q (by simp[H]))
  simp[this,h r (by simp),Nat.add_mul];omega
theorem z8z{sz off:Nat}{ds:List D}:∀ {rows:List (List D)} {i:Nat},i<rows.length->(∀ r∈rows,r.length=sz)->off+ds.length<=sz ->
  (rows.set i (splice (rows.getD i []) off ds)).flatten=splice rows.flatten (i*sz+off) ds
 | [],i,hi,_,_=>by simp at hi
 |r::rs,0,hi,H,G=>by
  have F:=H r (by simp)
  simp only[List.set_cons_zero,List.flatten_cons,List.getD_cons_zero,Nat.zero_mul,Nat.zero_add,splice];rw[List.take_append_of_le_length (by omega),List.drop_append_of_le_length (by omega)]
  simp
 |r::rs,i+1,hi,H,G=>by
  have F:=H r (by simp)
  have ih:=z8z (rows:=rs) (i:=i) (by simpa using hi) (λq E=>H q (by simp[E])) G
  simp only[List.set_cons_succ,List.flatten_cons,List.getD_cons_succ];rw[ih];simp only[splice];have e:(i+1)*sz+off=r.length+(i*sz+off):=by rw[Nat.add_mul];omega
  have e':(i+1)*sz+off+ds.length=r.length+(i*sz+off+ds.length):=by omega
  rw[e',e,List.take_length_add_append,List.drop_length_add_append];simp only[List.append_assoc]
theorem zah.drop{l:List D}{vs:List Value}(n:Nat)(h:zah w E l vs):zah w E (l.drop n) (vs.drop n):=by
 have:=zah.extract n (l.length) h
 rw[List.take_of_length_le (by simp),List.take_of_length_le (by have:=h.length;simp;omega)] at this
 exact this
theorem zah.take{l:List D}{vs:List Value}(n:Nat)(h:zah w E l vs):zah w E (l.take n) (vs.take n):=by
 simpa using zah.extract 0 n h
theorem zah.splice{l m:List D}{vs us:List Value}(h:zah w E l vs)(H:zah w E m us)(off:Nat):zah w E (splice l off m) (splice vs off us):=by
 unfold Go.V.splice
 have G:=H.length
 rw[G]
 exact zah.append (zah.append (zah.take off h) H) (zah.drop _ h)
theorem zle{b:Nat}{w w':World}{E:Nat->Prop}(H:E b)(hs:∀ c,c≠b->w'.heap[c]?=w.heap[c]?):Over w E w' E:=
 λc _ G=>⟨G,hs c (λe=>G (e▸H))⟩
theorem zty{t:Nat}{ti:TI}(E:TI.of P t=some ti){b off:Nat}{v:Value}{us:List Value}(K:v.cells=us.toArray)(H:us.length=ti.size){cur:List Value}{T:Nat}
  (J:w.heap[b]?=some (.cells cur.toArray T (0,0))) (G:off+us.length<=cur.length) (L:∀ u∈us,u.oneCell'=true) :
  (Instr.storeAt t (.pointer (some ⟨b,off,none⟩)) v).run P w = .ok () (w.setRow b (splice cur off us).toArray):=by
 obtain⟨i,u,z,hi,M,O,_,F,_⟩:=zay E
 have Q:=run_storeCells_at (P:=P) b off T us 0 cur.toArray w J (by simpa using G) L
 simp only[Nat.add_zero] at Q
 have e:¬(v.cells.size≠i.size):=by rw[K,<-F,<-H];simp
 have e2:us.length=i.size:=by rw[<-F,H]
 simp[Instr.storeAt,Instr.sureAddr,storeVar,run_sizeOf hi,K,e2,Q,splice]
theorem zqz(hm:Mods X w0 st β a w){o:Oper}{t:Nat}{ad x:Operand}(ho:o.op = .store t ad x){ti:TI}(ht:TI.of P t=some ti)(hd:o.dst=none){K:St->Prop}
  (h:zlz st ti (st.val ad) (st.val x) K):Goes P X w0 o a w K:=by
 have Q:∀ v,a.put o.dst v=a:=by intro v;rw[hd];rfl
 unfold zlz at h
 split at h
 .rename_i id off had
  split at h
  .rename_i T cells L
   split at h
   .rename_i l hl
    obtain⟨H4,B,h⟩:=h;obtain⟨us,hc,hs,h1,C⟩:=zd7 hm.one hl (hm.val x).1 (hm.val x).2;obtain⟨hid,I,b,vs,hb,G,hh,H1,H5⟩:=hm.obj L;have F:=(hm.val ad).2;rw[had] at F;simp only[Sm] at F;obtain⟨b',H2,F⟩:=F;rw[hb] at H2;cases H2;have H6:=hs.length;have Hi:=H1.length;have M:=zty (P:=P) (w:=w) ht (b:=b) (off:=off) hc (by omega) hh (by omega) h1
    have O:=setRow_heap w b vs.toArray (splice vs off us).toArray T (0,0) hh;have N:Ex X β st.own b:=.inr ⟨id,_,za0 L,by rw[hb];rfl⟩
    have H:∀ c,c≠b->(w.setRow b (splice vs off us).toArray).heap[c]?=w.heap[c]?:=λc hc=>setRow_other w b c _ hc
    have S:=zle N H;refine Goes.zyu (β':=β) (w':=w.setRow b (splice vs off us).toArray) ?_ h ?_
    .simp[execOp,ho,F,M]
    .rw[Q]
     refine hm.update L (b:=b) (by rw[hb];rfl) G H (by simp) rfl rfl rfl (λ_=>by simp) (Sym.zld I C off) ?_
     exact⟨b,_,hb,G,O,Sms.over (m:=st.next) (λ_ _=>rfl) S (Sym.zld I C off) (Sms.splice H1 hs off),λu hu=>(zh8 hu).elim (H5 u) (h1 u)⟩
   .exact h.elim
  .exact h.elim
 .rename_i id sz i off had
  split at h
  .rename_i T sz' rows L
   split at h
   .rename_i l hl
    split at h
    .rename_i ds H7
     obtain⟨rfl,hi,H4,B,h⟩:=h;obtain⟨us,hc,hs,h1,C⟩:=zd7 hm.one hl (hm.val x).1 (hm.val x).2;have H3:=zk8 H7 hs h1;obtain⟨hid,I,xs,hx,H8,W⟩:=hm.obj L;have F:=(hm.val ad).2;rw[had] at F;simp only[Sm] at F;obtain⟨b,n,c,hb,F⟩:=F;rcases hx.1.2 with⟨hn,h0⟩ | ⟨g,cap,cur,hg,H9,hh,E,Ha,Hb,V⟩
     .omega
     .have G:=(hx.2 g (by rw[hg];rfl)).1
      have Y:=(hx.2 g (by rw[hg];rfl)).2 _ _ _ hh
      have Hc:b=g:=by rw[hg] at hb;simp at hb;exact hb.1.symm
      rw[Hc] at F;have H6:us.length=ds.length:=H3.length
      have O:rows.getD i []=rows[i]:=by simp[List.getD_eq_getElem?_getD,hi]
      have Hd:(rows.getD i []).length=sz:=by rw[O];exact W _ (List.getElem_mem hi)
      have He:xs.length=rows.length*sz:=hx.1.1
      have Hj:i*sz+off+us.length<=rows.length*sz:=by
       have:(i+1)*sz<=rows.length*sz:=Nat.mul_le_mul_right _ hi
       rw[Nat.add_mul] at this;omega
      have Hf:rows.length*sz<=cap*sz:=Nat.mul_le_mul_right _ E
      have H0:cur.toList.toArray=cur:=by simp
      have Hg:w.heap[g]?=some (.cells cur.toList.toArray T (0,0)):=by rw[H0];exact hh
      have Hh:cur.toList.length=cap*sz:=by simpa using Hb
      have M:=zty (P:=P) (w:=w) ht (b:=g) (off:=i*sz+off) hc (by omega) Hg (by omega) h1
      have N:Ex X β st.own g:=.inr ⟨id,_,za0 L,by rw[hg];rfl⟩
      have H:∀ c,c≠g->(w.setRow g (splice cur.toList (i*sz+off) us).toArray).heap[c]?=w.heap[c]?:=λc hc=>setRow_other w g c _ hc
      have S:=zle N H;have J:=setRow_heap w g cur (splice cur.toList (i*sz+off) us).toArray T (0,0) hh
      -- the data
      have Z:(rows.set i (splice (rows.getD i []) off ds)).flatten=splice rows.flatten (i*sz+off) ds:=z8z hi W (by omega)
      refine Goes.zyu (β':=β) (w':=w.setRow g (splice cur.toList (i*sz+off) us).toArray) ?_ h ?_
      .simp[execOp,ho,F,M]
      .rw[Q]
       refine hm.update L (b:=g) (by rw[hg];rfl) G H (by simp) rfl rfl rfl (λ_=>by simp) trivial ?_
       refine⟨splice xs (i*sz+off) us,⟨⟨?_,.inr ⟨g,cap,_,?_,H9,J,?_,Ha,?_,?_⟩⟩,λb2 A=>⟨(hx.2 b2 A).1,by
         rw[hg] at A;simp[blk] at A;subst A;exact zcz.of J (λu hu=>(zh8 (by simpa using hu)).elim (Y u) (h1 u))⟩⟩,?_,?_⟩
       .rw[zdv (by omega)];simpa using He
       .rw[hg];simp
       .simpa using E
       .simp only[List.size_toArray];rw[zdv (by omega)];exact Hh
       .simp only[List.length_set]
        rw[ztx (by omega) (by omega),V]
       .rw[Z]
        exact zah.over S _ _ (zah.splice H8 H3 _)
       .intro r hr
        rcases List.mem_or_eq_of_mem_set hr with hr | rfl
        .exact W r hr
        .rw[zdv (by omega)];exact Hd
    .exact h.elim
   .exact h.elim
  .exact h.elim
 .exact h.elim
end
end Go.V
namespace Go.V
variable [Dr] [Ov]
open Go.RowKit
def z5s(x:D)(i s j o:Nat):Sym:=match x with
 |.sl l=>if j+o<=l.length/\rowLen l=s then .d (.sl ((l.drop j).take o)) else .aS i s j o
 |_=>.aS i s j o
mutual
def thaw(id:Nat)(rows:D):Sym->Sym
 |.ar i=>if i=id then .d rows else .ar i
 |.agg l=>zj6 (zfa id rows l)
 |.tup l=>.tup (zfa id rows l)
 |.d x=>.d x
 |.nils=>.nils
 |.bp i o=>.bp i o
 |.ap i s j o=>.ap i s j o
 |.aS i s j o=>if i=id then z5s rows i s j o else .aS i s j o
 |.av i s j o=>if i=id then z5s rows i s j o else .av i s j o
 |.yd i=>.yd i
 |.mp i=>if i=id then .d rows else .mp i
 |.fn f l=>.fn f l
 |.junk=>.junk
def zfa(id:Nat)(rows:D):List Sym->List Sym
 | []=>[]
 |s::r=>thaw id rows s::zfa id rows r
end
def zkd(id:Nat)(rows:D):Obj'->Obj'
 |.box T cells=>.box T (zfa id rows cells)
 |.arr T sz rs=>.arr T sz rs
 |.map T rs=>.map T rs
 |.raw k cells=>.raw k (zfa id rows cells)
def zcp(id:Nat)(rows:D):List (Nat×Sym)->List (Nat×Sym)
 | []=>[]
 |(t,s)::r=>(t,thaw id rows s)::zcp id rows r
def zcm(id:Nat)(rows:D):List (Nat×Obj')->List (Nat×Obj')
 | []=>[]
 |(t,o)::r=>if t=id then zcm id rows r else (t,zkd id rows o)::zcm id rows r
def St.frz(st:St)(id:Nat):St:=
 match st.look id with
 |some (.arr _ _ rows)=>{st with slots:=zcp id (.sl rows) st.slots,own:=zcm id (.sl rows) st.own}
 |some (.map _ rows)=>{st with slots:=zcp id (.mp rows) st.slots,own:=zcm id (.mp rows) st.own}
 |_=>st
def St.frzs(st:St):List Nat->St
 | []=>st
 |id::r=>(st.frz id).frzs r
section
variable {P:Program} {X:Nat->Prop} {w0:Base} {st:St} {β:Nat->Value} {a:Act} {w w':World} {E:Nat->Prop} {m:Nat} {id:Nat} {rows:D}
theorem zwt{N:Nat->Prop}{T sz:Nat}{rows:List (List D)}{v:Value}{xs:List Value}{E E':Nat->Prop}(L:Owns N w T sz v rows.length xs)(M:zah w E rows.flatten xs)(F:∀ r∈rows,r.length=sz)
  (O:∀ b,blk v=some b->¬E' b) (K:Over w E w E'):R w E' (.sl rows) v:=by
 simp only[R]
 rcases L.1.2 with⟨Q,V⟩ | ⟨g,cap,cur,X,Y,Z,H,G,_⟩
 .refine⟨none,0,by rw[Q,V],by omega,Nat.zero_le _,λ_=>rfl,λh=>absurd (List.eq_nil_of_length_eq_zero V) h⟩
 .refine⟨_,cap,X,H,G,by simp,λhne=>⟨g,0,rfl,O g (by rw[X];rfl),(Array.getElem?_eq_some_iff.1 Z).1,?_⟩⟩
  have J:rowLen rows=sz:=by
   cases rows with
   |nil=>exact absurd rfl hne
   |cons r rs=>exact F r (by simp)
  rw[J];refine zcl.of_flat F (Rrow.of_cells (zah.over K _ _ M) λj u hj=>?_)
  rw[Nat.zero_add];exact zn5 L.1 X hj
theorem z81{x:D}{i s j o:Nat}(h:Sym.lo m (.aS i s j o)):Sym.lo m (z5s x i s j o):=by
 unfold z5s
 split
 .split
  .simp[Sym.lo]
  .exact h
 .exact h
theorem z88{E':Nat->Prop}{x:D}{i s j o:Nat}{v:Value}(L:R w E' x (β i))(h:Sm w E β (.aS i s j o) v):Sm w E' β (z5s x i s j o) v:=by
 unfold z5s
 split
 .rename_i l
  split
  .rename_i M
   obtain⟨J,G⟩:=M;simp only[Sm,R] at h L ⊢;obtain⟨b,mm,c,k,hβ,rfl,O,h2⟩:=h;obtain⟨a',cap,e1,e2,e3,e4,e5⟩:=L;rw[hβ] at e1;simp only[Value.slice.injEq] at e1;obtain⟨rfl,rfl,rfl⟩:=e1;have H:((l.drop j).take o).length=o:=by simp;omega
   refine⟨_,k,by rw[H],by rw[H];exact O,h2,by simp,λhne=>?_⟩
   have F:l≠[]:=by intro e;subst e;simp at hne
   obtain⟨b',off,q1,q2,q3,q4⟩:=e5 F;simp only[Option.some.injEq,Addr.mk.injEq] at q1;obtain⟨rfl,rfl,_⟩:=q1;refine⟨b,j*s,rfl,q2,q3,?_⟩
   have q5:=zcl.take o (zcl.drop j q4);rw[Nat.zero_add,G] at q5;have K:rowLen ((l.drop j).take o)=s:=by
    cases Q:(l.drop j).take o with
    |nil=>exact absurd Q hne
    |cons r rs=>
     rw[Q] at q5;exact zcl.length q5 r (by simp)
   rw[K];exact q5
  .simpa[Sm] using h
 .simpa[Sm] using h
mutual
theorem yf0:∀ {s:Sym},Sym.lo m s->Sym.lo m (thaw id rows s)
 |.ar i,h=>by simp only[thaw];split <;> simp_all[Sym.lo]
 |.agg l,h=>by simp only[thaw,Sym.lo] at h ⊢;exact zn3 (zn6 h)
 |.tup l,h=>by simp only[thaw,Sym.lo] at h ⊢;exact zn6 h
 |.d x,h=>by simpa[thaw] using h
 |.nils,h=>by simpa[thaw] using h
 |.bp i o,h=>by simpa[thaw] using h
 |.ap i s j o,h=>by simpa[thaw] using h
 |.aS i s j o,h=>by simp only[thaw];split;exact z81 h;exact h
 |.av i s j o,h=>by simp only[thaw];split;exact z81 (by simpa[Sym.lo] using h);exact h
 |.yd i,h=>by simpa[thaw] using h
 |.mp i,h=>by simp only[thaw];split <;> simp_all[Sym.lo]
 |.fn f l,h=>by simpa[thaw] using h
 |.junk,h=>by simpa[thaw] using h
theorem zn6:∀ {l:List Sym},Sym.los m l->Sym.los m (zfa id rows l)
 | [],h=>by simpa[zfa] using h
 |s::r,h=>by simp only[zfa,Sym.los] at h ⊢;exact⟨yf0 h.1,zn6 h.2⟩
end
mutual
theorem yf1{E':Nat->Prop}(G:R w E' rows (β id))(H:Over w E w E'):∀ {s:Sym} {v:Value},Sm w E β s v->Sm w E' β (thaw id rows s) v
 |.ar i,v,h=>by
  simp only[thaw];split
  .rename_i e;subst e;simp only[Sm] at h ⊢;subst h;exact G
  .simpa[Sm] using h
 |.agg l,v,h=>by
  simp only[thaw,Sm] at h ⊢;obtain⟨vs,rfl,F,h2⟩:=h;exact zgr (zn7 G H F) h2
 |.tup l,v,h=>by
  simp only[thaw,Sm] at h ⊢;obtain⟨vs,rfl,F⟩:=h;exact⟨vs,rfl,zn7 G H F⟩
 |.d x,v,h=>by simp only[thaw,Sm] at h ⊢;exact R.over H _ _ h
 |.nils,v,h=>by simpa[thaw,Sm] using h
 |.bp i o,v,h=>by simpa[thaw,Sm] using h
 |.ap i s j o,v,h=>by simpa[thaw,Sm] using h
 |.aS i s j o,v,h=>by
  simp only[thaw];split
  .rename_i e;subst e;exact z88 G h
  .simpa[Sm] using h
 |.av i s j o,v,h=>by
  simp only[thaw];split
  .rename_i e;subst e
   refine z88 (E:=E) G ?_
   simp only[Sm] at h ⊢;obtain⟨b,c,F,h2,K,J⟩:=h;exact⟨b,c,c,c-j,F,h2,by omega,by omega⟩
  .simpa[Sm] using h
 |.yd i,v,h=>by simpa[thaw,Sm] using h
 |.mp i,v,h=>by
  simp only[thaw];split
  .rename_i e;subst e;simp only[Sm] at h ⊢;subst h;exact G
  .simpa[Sm] using h
 |.fn f l,v,h=>by
  simp only[thaw,Sm] at h ⊢;obtain⟨vs,rfl,F⟩:=h;exact⟨vs,rfl,zix H F⟩
 |.junk,v,h=>by simp[thaw,Sm]
theorem zn7{E':Nat->Prop}(G:R w E' rows (β id))(H:Over w E w E'):∀ {l:List Sym} {vs:List Value},Sms w E β l vs->Sms w E' β (zfa id rows l) vs
 | [],vs,h=>by simpa[zfa,Sms] using h
 |s::r,vs,h=>by
  simp only[zfa,Sms] at h ⊢;obtain⟨v,vs',rfl,F,h2⟩:=h;exact⟨v,vs',rfl,yf1 G H F,zn7 G H h2⟩
theorem zpr{E':Nat->Prop}(H:Over w E w E'):∀ {s:Sym} {v:Value},Sm w E β s v->Sm w E' β s v
 |.ar i,v,h=>by simpa[Sm] using h
 |.agg l,v,h=>by
  simp only[Sm] at h ⊢;obtain⟨vs,rfl,G,h2⟩:=h;exact⟨vs,rfl,zix H G,h2⟩
 |.tup l,v,h=>by
  simp only[Sm] at h ⊢;obtain⟨vs,rfl,G⟩:=h;exact⟨vs,rfl,zix H G⟩
 |.d x,v,h=>by simp only[Sm] at h ⊢;exact R.over H _ _ h
 |.nils,v,h=>by simpa[Sm] using h
 |.bp i o,v,h=>by simpa[Sm] using h
 |.ap i s j o,v,h=>by simpa[Sm] using h
 |.aS i s j o,v,h=>by simpa[Sm] using h
 |.av i s j o,v,h=>by simpa[Sm] using h
 |.yd i,v,h=>by simpa[Sm] using h
 |.mp i,v,h=>by simpa[Sm] using h
 |.fn f l,v,h=>by
  simp only[Sm] at h ⊢;obtain⟨vs,rfl,G⟩:=h;exact⟨vs,rfl,zix H G⟩
 |.junk,v,h=>by simp[Sm]
theorem zix{E':Nat->Prop}(H:Over w E w E'):∀ {l:List Sym} {vs:List Value},Sms w E β l vs->Sms w E' β l vs
 | [],vs,h=>by simpa[Sms] using h
 |s::r,vs,h=>by
  simp only[Sms] at h ⊢;obtain⟨v,vs',rfl,G,h2⟩:=h;exact⟨v,vs',rfl,zpr H G,zix H h2⟩
end
theorem zl0:∀ {l:List (Nat×Sym)} {t:Nat} {s:Sym},zac (zcp id rows l) t=some s->∃ s',zac l t=some s'/\s=thaw id rows s'
 | [],t,s,h=>by simp[zcp,zac] at h
 |(k,u)::r,t,s,h=>by
  simp only[zcp,zac] at h ⊢;split at h
  .rename_i e;simp at h;exact⟨u,by simp[e],h.symm⟩
  .rename_i e;simp only[e,if_false];exact zl0 h
theorem zcq:∀ {l:List (Nat×Obj')} {i:Nat} {o:Obj'},(i,o)∈zcm id rows l->i≠id/\∃ o',(i,o')∈l/\o=zkd id rows o'
 | [],i,o,h=>by simp[zcm] at h
 |(k,u)::r,i,o,h=>by
  simp only[zcm] at h;split at h
  .obtain⟨H,o',h2,G⟩:=zcq h;exact⟨H,o',List.mem_cons_of_mem _ h2,G⟩
  .rename_i F
   rcases List.mem_cons.1 h with e | h
   .cases e;exact⟨F,u,by simp,rfl⟩
   .obtain⟨H,o',h2,G⟩:=zcq h;exact⟨H,o',List.mem_cons_of_mem _ h2,G⟩
theorem ziy:∀ {l:List (Nat×Obj')},(l.map (·.1)).Nodup->((zcm id rows l).map (·.1)).Nodup
 | [],_=>by simp[zcm]
 |(k,u)::r,hn=>by
  simp only[List.map_cons,List.nodup_cons] at hn;simp only[zcm];split
  .exact ziy hn.2
  .simp only[List.map_cons,List.nodup_cons]
   refine⟨λh=>hn.1 ?_,ziy hn.2⟩
   obtain⟨⟨i,o⟩,H,e⟩:=List.mem_map.1 h;obtain⟨_,o',h2,_⟩:=zcq H;exact List.mem_map.2 ⟨(i,o'),h2,e⟩
theorem Mods.thaw(L:Mods X w0 st β a w){id:Nat}{o:Obj'}{x:D}(G:st.look id=some o)(M:R w (Ex X β (zcm id x st.own)) x (β id)):
  Mods X w0 {st with slots:=zcp id x st.slots,own:=zcm id x st.own} β a w:=by
 have F:=za0 G
 have H:Over w (Ex X β st.own) w (Ex X β (zcm id x st.own)):=Over.less λb O=>O.elim .inl λ⟨i,o,Q,e⟩=>by
  obtain⟨_,o',h2,_⟩:=zcq Q;exact .inr ⟨i,o',h2,e⟩
 refine⟨L.outer,L.still,L.one,L.defers,L.size,L.below,ziy L.keys,?_,?_,?_⟩
 .intro i o Q
  obtain⟨J,o',h2,rfl⟩:=zcq Q;obtain⟨T,V,Y⟩:=L.own i o' h2;refine⟨T,?_,?_⟩
  .cases o' with
   |box T' cells=>exact zn6 V
   |arr=>trivial
   |map=>trivial
   |raw k cells=>exact zn6 V
  .cases o' with
   |box T' cells=>
    obtain⟨b,vs,q1,q2,q3,q4,q5⟩:=Y;exact⟨b,vs,q1,q2,q3,zn7 M H q4,q5⟩
   |arr T' sz' rs=>
    obtain⟨ys,q1,q2,q3⟩:=Y;exact⟨ys,q1,zah.over H _ _ q2,q3⟩
   |map T' rs=>
    obtain⟨r,es,clock,q1,q2,q3,q4⟩:=Y;exact⟨r,es,clock,q1,q2,q3,zdb.over H _ _ q4⟩
   |raw k cells=>
    obtain⟨b,fn,D,vs,q1,q2,q3,q4⟩:=Y;exact⟨b,fn,D,vs,q1,q2,q3,zn7 M H q4⟩
 .intro i o j o' b Z h2 e1 e2
  obtain⟨_,o1,E,_⟩:=zcq Z;obtain⟨_,o2,K,_⟩:=zcq h2;exact L.apart i o1 j o2 b E K e1 e2
 .intro t s A
  obtain⟨s',Z,rfl⟩:=zl0 A;have:=L.slots t s' Z
  exact⟨yf0 this.1,yf1 M H this.2⟩
theorem Mods.frz(L:Mods X w0 st β a w)(id:Nat):Mods X w0 (st.frz id) β a w:=by
 unfold St.frz
 split
 .rename_i T sz rows H
  have G:=za0 H;obtain⟨hid,_,xs,M,O,J⟩:=L.obj H;have E:Over w (Ex X β st.own) w (Ex X β (zcm id (.sl rows) st.own)):=Over.less λb Q=>Q.elim .inl λ⟨i,o,V,e⟩=>by
   obtain⟨_,o',h2,_⟩:=zcq V;exact .inr ⟨i,o',h2,e⟩
  refine L.thaw H (zwt M O J (λb Q Y=>?_) E)
  rcases Y with Y | ⟨i,o,V,e⟩
  .exact L.outer.1 b Y (M.2 b Q).1
  .obtain⟨K,o',h2,_⟩:=zcq V
   exact K (L.apart i o' id _ b h2 G e Q)
 .rename_i T rows H
  have G:=za0 H;obtain⟨hid,_,r,es,clock,Q,Z,A,F⟩:=L.obj H;have E:Over w (Ex X β st.own) w (Ex X β (zcm id (.mp rows) st.own)):=Over.less λb Q=>Q.elim .inl λ⟨i,o,V,e⟩=>by
   obtain⟨_,o',h2,_⟩:=zcq V;exact .inr ⟨i,o',h2,e⟩
  refine L.thaw H ?_
  simp only[R];refine⟨r,es,clock,Q,λY=>?_,(Array.getElem?_eq_some_iff.1 A).1,A,zdb.over E _ _ F⟩
  rcases Y with Y | ⟨i,o,V,e⟩
  .exact L.outer.1 r Y Z
  .obtain⟨K,o',h2,_⟩:=zcq V
   exact K (L.apart i o' id _ r h2 G e (by rw[Q];rfl))
 .exact L
theorem Mods.frzs:∀ {l:List Nat} {st:St},Mods X w0 st β a w->Mods X w0 (st.frzs l) β a w
 | [],st,hm=>hm
 |id::r,st,hm=>Mods.frzs (l:=r) (st:=st.frz id) (hm.frz id)
end
mutual
def za2(id:Nat):Sym->Sym
 |.ar i=>if i=id then .junk else .ar i
 |.ap i s j o=>if i=id then .junk else .ap i s j o
 |.aS i s j o=>if i=id then .junk else .aS i s j o
 |.av i s j o=>if i=id then .junk else .av i s j o
 |.yd i=>if i=id then .junk else .yd i
 |.bp i o=>if i=id then .junk else .bp i o
 |.mp i=>if i=id then .junk else .mp i
 |.agg l=>.agg (zby id l)
 |.tup l=>.tup (zby id l)
 |.fn f l=>.fn f (zby id l)
 |.d x=>.d x
 |.nils=>.nils
 |.junk=>.junk
def zby(id:Nat):List Sym->List Sym
 | []=>[]
 |s::r=>za2 id s::zby id r
end
def zb5(id:Nat):Obj'->Obj'
 |.box T cells=>.box T (zby id cells)
 |.arr T sz rs=>.arr T sz rs
 |.map T rs=>.map T rs
 |.raw k cells=>.raw k (zby id cells)
def zav(id:Nat):List (Nat×Sym)->List (Nat×Sym)
 | []=>[]
 |(t,s)::r=>(t,za2 id s)::zav id r
def zbz(id:Nat)(o':Obj'):List (Nat×Obj')->List (Nat×Obj')
 | []=>[]
 |(t,o)::r=>(if t=id then (t,o') else (t,zb5 id o))::zbz id o' r
def St.renew(st:St)(id:Nat)(o:Obj'):St:={st with moved:=id::st.moved,slots:=zav id st.slots,own:=zbz id o st.own}
section
variable {P:Program} {X:Nat->Prop} {w0:Base} {st:St} {β:Nat->Value} {a:Act} {w w':World} {E:Nat->Prop} {m:Nat} {id:Nat}
mutual
theorem z9a:∀ {s:Sym},Sym.lo m s->Sym.lo m (za2 id s)
 |.ar i,h=>by simp only[za2];split <;> simp_all[Sym.lo]
 |.ap i s j o,h=>by simp only[za2];split <;> simp_all[Sym.lo]
 |.aS i s j o,h=>by simp only[za2];split <;> simp_all[Sym.lo]
 |.av i s j o,h=>by simp only[za2];split <;> simp_all[Sym.lo]
 |.yd i,h=>by simp only[za2];split <;> simp_all[Sym.lo]
 |.bp i o,h=>by simp only[za2];split <;> simp_all[Sym.lo]
 |.mp i,h=>by simp only[za2];split <;> simp_all[Sym.lo]
 |.agg l,h=>by simp only[za2,Sym.lo] at h ⊢;exact zh9 h
 |.tup l,h=>by simp only[za2,Sym.lo] at h ⊢;exact zh9 h
 |.fn f l,h=>by simp only[za2,Sym.lo] at h ⊢;exact zh9 h
 |.d x,h=>by simpa[za2] using h
 |.nils,h=>by simpa[za2] using h
 |.junk,h=>by simpa[za2] using h
theorem zh9:∀ {l:List Sym},Sym.los m l->Sym.los m (zby id l)
 | [],h=>by simpa[zby] using h
 |s::r,h=>by simp only[zby,Sym.los] at h ⊢;exact⟨z9a h.1,zh9 h.2⟩
end
mutual
theorem z9b{E':Nat->Prop}{β':Nat->Value}(hβ:∀ i,i≠id->β' i=β i)(H:Over w E w' E'):∀ {s:Sym} {v:Value},Sm w E β s v->Sm w' E' β' (za2 id s) v
 |.ar i,v,h=>by
  simp only[za2];split
  .simp[Sm]
  .rename_i hi;simp only[Sm] at h ⊢;rw[hβ i hi];exact h
 |.ap i s j o,v,h=>by
  simp only[za2];split
  .simp[Sm]
  .rename_i hi;simp only[Sm] at h ⊢;rw[hβ i hi];exact h
 |.aS i s j o,v,h=>by
  simp only[za2];split
  .simp[Sm]
  .rename_i hi;simp only[Sm] at h ⊢;rw[hβ i hi];exact h
 |.av i s j o,v,h=>by
  simp only[za2];split
  .simp[Sm]
  .rename_i hi;simp only[Sm] at h ⊢;rw[hβ i hi];exact h
 |.yd i,v,h=>by
  simp only[za2];split
  .simp[Sm]
  .rename_i hi;simp only[Sm] at h ⊢;rw[hβ i hi];exact h
 |.bp i o,v,h=>by
  simp only[za2];split
  .simp[Sm]
  .rename_i hi;simp only[Sm] at h ⊢;rw[hβ i hi];exact h
 |.mp i,v,h=>by
  simp only[za2];split
  .simp[Sm]
  .rename_i hi;simp only[Sm] at h ⊢;rw[hβ i hi];exact h
 |.agg l,v,h=>by
  simp only[za2,Sm] at h ⊢;obtain⟨vs,rfl,G,h2⟩:=h;exact⟨vs,rfl,zia hβ H G,h2⟩
 |.tup l,v,h=>by
  simp only[za2,Sm] at h ⊢;obtain⟨vs,rfl,G⟩:=h;exact⟨vs,rfl,zia hβ H G⟩
 |.fn f l,v,h=>by
  simp only[za2,Sm] at h ⊢;obtain⟨vs,rfl,G⟩:=h;exact⟨vs,rfl,zia hβ H G⟩
 |.d x,v,h=>by simp only[za2,Sm] at h ⊢;exact R.over H _ _ h
 |.nils,v,h=>by simpa[za2,Sm] using h
 |.junk,v,h=>by simp[za2,Sm]
theorem zia{E':Nat->Prop}{β':Nat->Value}(hβ:∀ i,i≠id->β' i=β i)(H:Over w E w' E'):∀ {l:List Sym} {vs:List Value},Sms w E β l vs->Sms w' E' β' (zby id l) vs
 | [],vs,h=>by simpa[zby,Sms] using h
 |s::r,vs,h=>by
  simp only[zby,Sms] at h ⊢;obtain⟨v,vs',rfl,G,h2⟩:=h;exact⟨v,vs',rfl,z9b hβ H G,zia hβ H h2⟩
end
theorem zke:∀ {l:List (Nat×Sym)} {t:Nat} {s:Sym},zac (zav id l) t=some s->∃ s',zac l t=some s'/\s=za2 id s'
 | [],t,s,h=>by simp[zav,zac] at h
 |(k,u)::r,t,s,h=>by
  simp only[zav,zac] at h ⊢;split at h
  .rename_i e;simp at h;exact⟨u,by simp[e],h.symm⟩
  .rename_i e;simp only[e,if_false];exact zke h
theorem zfu{o':Obj'}:∀ {l:List (Nat×Obj')} {i:Nat} {x:Obj'},(i,x)∈zbz id o' l->(i=id/\x=o'/\∃ y,(i,y)∈l)\/(i≠id/\∃ y,(i,y)∈l/\x=zb5 id y)
 | [],i,x,h=>by simp[zbz] at h
 |(k,u)::r,i,x,h=>by
  simp only[zbz] at h;rcases List.mem_cons.1 h with e | h
  .split at e
   .rename_i H;cases e;exact .inl ⟨H,rfl,u,by simp⟩
   .rename_i H;cases e;exact .inr ⟨H,u,by simp,rfl⟩
  .rcases zfu h with⟨G,h2,y,F⟩ | ⟨G,y,h2,F⟩
   .exact .inl ⟨G,h2,y,List.mem_cons_of_mem _ F⟩
   .exact .inr ⟨G,y,List.mem_cons_of_mem _ h2,F⟩
theorem zn8{o':Obj'}:∀ (l:List (Nat×Obj')),(zbz id o' l).map (·.1)=l.map (·.1)
 | []=>rfl
 |(k,u)::r=>by
  simp only[zbz,List.map_cons,zn8 r];congr 1
  split <;> rfl
theorem Mods.renew(B:Mods X w0 st β a w){o o':Obj'}(C:st.look id=some o){v:Value}(Y:v.oneCell'=true)
  (K:Kept w0 w') (F:∀ c,c<w.heap.size->some c≠blk (β id)->w'.heap[c]?=w.heap[c]?)
  (M:∀ b,blk v=some b->blk (β id)=some b\/w.heap.size<=b) (Z:o'.lo st.next)
  (A:∀ E:Nat->Prop,Over w (Ex X β st.own) w' E->(∀ b,blk v=some b->E b)->zdi w' w0.may E (λi=>if i=id then v else β i) id o') :
  Mods X w0 (st.renew id o') (λi=>if i=id then v else β i) a w':=by
 have G:=za0 C
 have hid:=(B.own id o G).1
 have hβ:∀ i,i≠id->(λi=>if i=id then v else β i) i=β i:=by intro i h;simp[h]
 have L:Over w (Ex X β st.own) w' (Ex X (λi=>if i=id then v else β i) (zbz id o' st.own)):=by
  intro c I N;have O:some c≠blk (β id):=λe=>N (.inr ⟨id,o,G,e.symm⟩)
  refine⟨?_,F c I O⟩
  rintro(h | ⟨i,x,P,h⟩)
  .exact N (.inl h)
  .rcases zfu P with⟨rfl,_,_⟩ | ⟨H,y,S,_⟩
   .simp at h
    rcases M c h with h | h
    .exact O h.symm
    .omega
   .rw[hβ i H] at h
    exact N (.inr ⟨i,y,S,h⟩)
 have sep:∀ {i x c},i≠id->(i,x)∈st.own->blk (β i)=some c->blk v=some c->False:=by
  intro i x c H P W h2;rcases M c h2 with h | h
  .exact H (B.apart i x id o c P G W h)
  .have:=B.lt c (.inr ⟨i,x,P,W⟩);omega
 refine⟨B.outer,⟨B.still.1,λi W h2=>(hβ i (λe=>h2 (by subst e;exact List.mem_cons_self))).trans (B.still.2 i W (λh=>h2 (List.mem_cons_of_mem _ h)))⟩,λi=>by split;exact Y;exact B.one i,B.defers,B.size,K,?_,?_,?_,?_⟩
 .show((zbz id o' st.own).map (·.1)).Nodup
  rw[zn8];exact B.keys
 .intro i x P
  rcases zfu P with⟨rfl,rfl,_⟩ | ⟨H,y,S,rfl⟩
  .exact⟨hid,Z,A _ L (λb hb=>.inr ⟨i,x,P,by simpa using hb⟩)⟩
  .obtain⟨W,h2,h3⟩:=B.own i y S
   have hb:∀ b,blk (β i)=some b->w'.heap[b]?=w.heap[b]?:=λc I=>F c (B.lt c (.inr ⟨i,y,S,I⟩)) (λe=>H (B.apart i y id o c S G I e.symm))
   cases y with
   |box T cells=>
    obtain⟨b,vs,q1,q2,q3,q4,q5⟩:=h3;exact⟨W,zh9 h2,b,vs,by rw[hβ i H];exact q1,q2,by rw[hb b (by rw[q1];rfl)];exact q3,zia hβ L q4,q5⟩
   |arr T sz rows=>
    obtain⟨xs,q1,q2,q3⟩:=h3;exact⟨W,trivial,xs,by rw[hβ i H];exact Owns.same q1 hb,zah.over L _ _ q2,q3⟩
   |map T rows=>
    obtain⟨r,es,clock,q1,q2,q3,q4⟩:=h3;exact⟨W,trivial,r,es,clock,by rw[hβ i H];exact q1,q2,by rw[hb r (by rw[q1];rfl)];exact q3,zdb.over L _ _ q4⟩
   |raw k cells=>
    obtain⟨b,fn,D,vs,q1,q2,q3,q4⟩:=h3;exact⟨W,zh9 h2,b,fn,D,vs,by rw[hβ i H];exact q1,q2,by rw[hb b (by rw[q1];exact k.zj5 b)];exact q3,zia hβ L q4⟩
 .intro i x j y c P S e1 e2
  rcases zfu P with⟨rfl,_,_⟩ | ⟨H,x',Q,_⟩ <;> rcases zfu S with⟨rfl,_,_⟩ | ⟨J,y',V,_⟩
  .rfl
  .simp at e1
   rw[if_neg J] at e2;exact(sep J V e2 e1).elim
  .simp at e2
   rw[if_neg H] at e1;exact(sep H Q e1 e2).elim
  .rw[if_neg H] at e1
   rw[if_neg J] at e2;exact B.apart i x' j y' c Q V e1 e2
 .intro t s ht
  obtain⟨s',W,rfl⟩:=zke ht;have:=B.slots t s' W
  exact⟨z9a this.1,z9b hβ L this.2⟩
end
end Go.V
namespace Go.V
variable [Dr] [Ov]
open Go.RowKit
def z5t(fs:List (Nat×Nat×Bool)):List Sym->List (Nat×Sym)->Option (List Sym)
 |cells,[]=>some cells
 |cells,(i,s)::r=>match fs[i]?,zbg s with
  |some (off,sz,_),some l=>if l.length=sz/\off+l.length<=cells.length then z5t fs (splice cells off l) r else none
  |_,_=>none
def isNil:Sym->Bool
 |.nils=>true
 |_=>false
def yf2:List Sym->Bool
 | []=>false
 |s::r=>isNil s ||yf2 r
def ztz(l:List Sym):Sym:=match yf2 l with
 |true=>.agg l
 |false=>zj6 l
theorem z1m{w:World}{E:Nat->Prop}{β:Nat->Value}{l:List Sym}{vs:List Value}(hs:Sms w E β l vs)(H:∀ v∈vs,v.oneCell'=true):Sm w E β (ztz l) (.agg vs.toArray):=by
 unfold ztz
 split
 .simp only[Sm];exact⟨vs,rfl,hs,H⟩
 .exact zgr hs H
theorem yf3{l:List Sym}{m:Nat}(h:Sym.los m l):Sym.lo m (ztz l):=by
 unfold ztz
 split
 .simp[Sym.lo,h]
 .exact zn3 h
def zq0(ti:TI)(parts:List (Nat×Sym))(k:Sym->Prop):Prop:=
 match ti.kind with
 |.struct fs=>ti.zero.all (·.oneCell')=true/\match z5t fs (ti.zero.map ofConst) parts with
  |some out=>k (ztz out)
  |none=>False
 |_=>False
def inOrder{α:Type}:Nat->List (Nat×α)->Option (List α)
 |_,[]=>some []
 |n,(i,x)::r=>if i=n then (match inOrder (n+1) r with
  |some l=>some (x::l)
  |none=>none) else none
def rowOf(sz:Nat)(s:Sym):Option (List D):=match zbg s with
 |some l=>match allD l with
  |some ds=>if ds.length=sz then some ds else none
  |none=>none
 |none=>none
def rowsOf(sz:Nat):List Sym->Option (List (List D))
 | []=>some []
 |s::r=>match rowOf sz s,rowsOf sz r with
  |some x,some xs=>some (x::xs)
  |_,_=>none
def ziz(P:Program)(t n:Nat)(parts:List (Nat×Sym))(k:Sym->Prop):Prop:=
 match TI.of P t with
 |some ⟨.slice e,_,_,_,_⟩=>match TI.of P e with
  |some te=>match inOrder 0 parts with
   |some xs=>xs.length=n/\0<te.size/\n*te.size<=16777216/\match rowsOf te.size xs with
    |some rows=>k (.d (.sl rows))
    |none=>False
   |none=>False
  |none=>False
 |_=>False
def sopB(P:Program)(look:Nat->Option Obj')(ρ:Operand->Sym)(op:Op)(k:Sym->Prop):Prop:=
 match op with
 |.build t parts=>match TI.of P t with
  |some ti=>zq0 ti (parts.toList.map λ(i,x)=>(i,ρ x)) k
  |none=>False
 |.buildSlice t n parts=>ziz P t n (parts.toList.map λ(i,x)=>(i,ρ x)) k
 |.makeFunc (.func f) first captured=>match first.toList with
  | []=>k (.fn f (captured.toList.map ρ))
  |_=>False
 |op=>sop P look ρ op k
section
variable {P:Program} {X:Nat->Prop} {w0:Base} {st:St} {β:Nat->Value} {a:Act} {w w':World} {E:Nat->Prop} {m:Nat} {k:Sym->Prop}
theorem z5u(off:Nat)(us:List Value)(cells:List Value)(h:off+us.length<=cells.length):
  (us.toArray.zipIdx.foldl (λcs (x:Value×Nat)=>cs.setIfInBounds (off+x.2) x.1) cells.toArray)=(splice cells off us).toArray:=by
 rw[<-Array.foldl_toList,Array.toList_zipIdx]
 obtain⟨H,h2⟩:=Great.foldl_set off us 0 cells.toArray
 apply Array.ext_getElem?
 intro j
 rw[h2 j]
 simp only[List.getElem?_toArray,List.size_toArray,Nat.add_zero]
 rw[zpq h]
 by_cases p:j<off
 .rw[if_neg (by omega),if_pos p]
 .rw[if_neg p]
  by_cases q:j<off+us.length
  .rw[if_pos (by omega),if_pos q]
  .rw[if_neg (by omega),if_neg q]
theorem zt0(hβ:∀ id,(β id).oneCell'=true){fs:List (Nat×Nat×Bool)}{place:Nat->Option (Nat×Nat)}(J:∀ (i off sz:Nat) (b:Bool),fs[i]?=some (off,sz,b)->place i=some (off,sz))(ρ:Operand->Sym)(ev:Operand->Value)
  (hρ:∀ x,Sym.lo m (ρ x)/\Sm w E β (ρ x) (ev x)):∀ {parts:List (Nat×Operand)} {cells out:List Sym} {vs:List Value},
  z5t fs cells (parts.map λ(i,x)=>(i,ρ x))=some out->Sms w E β cells vs->(∀ u∈vs,u.oneCell'=true)->Sym.los m cells ->
  ∃ us:List Value,Instr.fill place vs.toArray (parts.map λ(i,x)=>(i,ev x))=some us.toArray/\Sms w E β out us/\(∀ u∈us,u.oneCell'=true)/\Sym.los m out
 | [],cells,out,vs,h,hs,L,M=>by
  simp[z5t] at h;subst h;exact⟨vs,by simp[Instr.fill],hs,L,M⟩
 |(i,x)::r,cells,out,vs,h,hs,L,M=>by
  simp only[List.map_cons,z5t] at h;split at h
  .rename_i off sz b l O Q
   split at h
   .rename_i hb
    obtain⟨us,e1,e2,e3,e4⟩:=zd7 hβ Q (hρ x).1 (hρ x).2;have G:=e2.length;have K:=hs.length;obtain⟨out',q1,q2,q3,q4⟩:=zt0 hβ J ρ ev hρ h (Sms.splice hs e2 off) (λu T=>(zh8 T).elim (L u) (e3 u)) (Sym.zld M e4 off)
    refine⟨out',?_,q2,q3,q4⟩
    simp only[List.map_cons,Instr.fill,J i off sz b O,e1];have H:us.toArray.size=sz:=by simp;omega
    have F:¬off+us.toArray.size>vs.toArray.size:=by simp;omega
    simp only[H,ne_eq,not_true_eq_false,decide_false,Bool.false_or];rw[if_neg (by rw[<-H];simpa using F),z5u off us vs (by omega)]
    exact q1
   .cases h
  .cases h
theorem z1o(Q:Mods X w0 st β a w){t:Nat}{ti:TI}(T:TI.of P t=some ti){parts:Array (Nat×Operand)}(h:zq0 ti (parts.toList.map λ(i,x)=>(i,st.val x)) k):
  YV P w (Ex X β st.own) β st.next (Instr.build t (parts.map λ(i,x)=>(i,a.eval x))) k:=by
 obtain⟨i,u,z,hi,V,Y,K,_,_,_,L⟩:=zay T
 unfold zq0 at h
 split at h
 .rename_i fs Z
  obtain⟨A,h⟩:=h;split at h
  .rename_i out B
   rw[K] at Z;obtain⟨fds,rfl,C⟩:=zts Z
   -- the places
   have H:∃ places:List (Nat×Nat),fds.toList.mapM (λf=>(P.info? f.type).map λi=>(f.offset,i.size))=some places/\∀ (i off sz:Nat) (b:Bool),fs[i]?=some (off,sz,b)->places[i]?=some (off,sz):=by
    generalize fds.toList=q at C;clear B V Z K A h;induction q generalizing fs with
    |nil=>simp at C;subst C;exact⟨[],by simp,by simp⟩
    |cons f q ih=>
     simp only[List.mapM_cons] at C;cases G:zpi P f with
     |none=>simp[G] at C
     |some y=>
      cases I:q.mapM (zpi P) with
      |none=>simp[G,I] at C
      |some r=>
       simp[G,I] at C;obtain⟨places,p1,p2⟩:=ih r I;unfold zpi at G;cases E:P.info? f.type with
       |none=>simp[E] at G
       |some j=>
        cases J:P.underlying f.type with
        |none=>simp[E,J] at G
        |some d=>
         simp[E,J] at G;refine⟨(f.offset,j.size)::places,by simp[List.mapM_cons,E,p1],?_⟩
         intro i off sz b F;rw[<-C] at F;cases i with
         |zero=>simp at F;rw[<-G] at F;simp at F;simp[F.1,F.2.1]
         |succ i=>simpa using p2 i off sz b (by simpa using F)
   obtain⟨places,p1,p2⟩:=H;have M:∀ u∈ti.zero,u.oneCell'=true:=λu V=>by simpa using(List.all_eq_true.1 A) u V
   obtain⟨us,q1,q2,q3,q4⟩:=zt0 (m:=st.next) Q.one (place:=(places.toArray[·]?)) (λi off sz b hi=>by simpa using p2 i off sz b hi) st.val a.eval (λx=>Q.val x) B
    (zk9 w (Ex X β st.own) β ti.zero) M (zh6 _ _)
   refine⟨_,_,h,yf3 q4,z1m q2 q3,run_build w t _ us.toArray ?_⟩
   have O:z.cells=ti.zero.toArray:=by rw[L]
   simp only[Program.built,hi,V,Y,p1,O];simpa using q1
  .exact h.elim
 .exact h.elim
theorem z5v(hβ:∀ id,(β id).oneCell'=true){sz:Nat}{s:Sym}{ds:List D}{v:Value}(h:rowOf sz s=some ds)(G:Sym.lo m s)(hs:Sm w E β s v):
  ∃ us:List Value,v.cells=us.toArray/\zah w E ds us/\us.length=sz/\ds.length=sz:=by
 unfold rowOf at h
 split at h
 .rename_i l F
  split at h
  .rename_i ds' K
   split at h
   .rename_i H
    simp at h;subst h
    obtain⟨us,e1,e2,e3,_⟩:=zd7 hβ F G hs;have J:=zk8 K e2 e3;exact⟨us,e1,J,by rw[J.length];exact H,H⟩
   .cases h
  .cases h
 .cases h
theorem zkf(hβ:∀ id,(β id).oneCell'=true){sz:Nat}:∀ {l:List Sym} {rows:List (List D)} {vs:List Value},rowsOf sz l=some rows->Sym.los m l->Sms w E β l vs ->
  (∀ v∈vs,v.cells.size=sz)/\zah w E rows.flatten (vs.flatMap λv=>v.cells.toList)/\(∀ r∈rows,r.length=sz)/\rows.length=l.length
 | [],rows,vs,h,_,hs=>by
  simp[rowsOf] at h;subst h;simp only[Sms] at hs;subst hs;simp[zah]
 |s::r,rows,vs,h,G,hs=>by
  simp only[Sms] at hs;obtain⟨v,vs',rfl,F,h2⟩:=hs;simp only[Sym.los] at G;simp only[rowsOf] at h;split at h
  .rename_i x xs K H
   simp at h;subst h
   obtain⟨us,e1,e2,e3,e4⟩:=z5v hβ K G.1 F;obtain⟨q1,q2,q3,q4⟩:=zkf hβ H G.2 h2;refine⟨?_,?_,?_,by simp[q4]⟩
   .intro u J
    rcases List.mem_cons.1 J with e | J
    .subst e;rw[e1];simpa using e3
    .exact q1 u J
   .simp only[List.flatten_cons,List.flatMap_cons,e1]
    exact zah.append e2 q2
   .intro q L
    rcases List.mem_cons.1 L with e | L
    .subst e;exact e4
    .exact q3 q L
  .cases h
theorem zps(ev:Operand->Value):∀ {n:Nat} {parts:List (Nat×Operand)} {xs:List Operand},inOrder n parts=some xs ->
  (parts.map λ(i,x)=>(i,ev x))=((xs.map ev).zipIdx n).map λx=>(x.2,x.1)
 |n,[],xs,h=>by simp[inOrder] at h;subst h;simp
 |n,(i,x)::r,xs,h=>by
  simp only[inOrder] at h;split at h
  .rename_i e;subst e
   split at h
   .rename_i l hl
    simp at h;subst h
    simp only[List.map_cons,List.zipIdx_cons];rw[zps ev hl]
   .cases h
  .cases h
theorem zt1{α γ:Type}(f:α->γ):∀ {n:Nat} {parts:List (Nat×α)} {xs:List γ},inOrder n (parts.map λ(i,x)=>(i,f x))=some xs->∃ ys,inOrder n parts=some ys/\xs=ys.map f
 |n,[],xs,h=>by simp[inOrder] at h;subst h;exact⟨[],rfl,rfl⟩
 |n,(i,x)::r,xs,h=>by
  simp only[List.map_cons,inOrder] at h ⊢;split at h
  .rename_i e
   split at h
   .rename_i l H
    simp at h;subst h
    obtain⟨ys,G,rfl⟩:=zt1 f H;rw[if_pos e,G];exact⟨x::ys,rfl,rfl⟩
   .cases h
  .cases h
theorem zyv{t n e:Nat}{te:TI}{j:TypeInfo}(X:P.underlying t=some (.slice e))(K:TI.of P e=some te){parts:Array (Nat×Operand)}{xs:List Operand}(J:inOrder 0 parts.toList=some xs)(Y:xs.length=n)(H:0<te.size)(G:n*te.size<=16777216)
  (ev:Operand->Value) (L:∀ v∈xs.map ev,v.cells.size=te.size):(Instr.buildSlice t n (parts.map λ(i,x)=>(i,ev x))).run P w = .ok (.slice (some ⟨w.heap.size,0,none⟩) n n) (w.alloc (.cells ((xs.map ev).flatMap λv=>v.cells.toList).toArray e)):=by
 obtain⟨ie,ue,ze,E,T,M,_,F,_,_,V⟩:=zay K
 have Z:(parts.map λ(i,x)=>(i,ev x)).toList=((xs.map ev).zipIdx 0).map λx=>(x.2,x.1):=by
  rw[Array.toList_map];exact zps ev J
 by_cases A:n=0
 .subst A
  have O:xs=[]:=List.eq_nil_of_length_eq_zero Y
  subst O;have Q:(parts.map λ(i,x)=>(i,ev x)) = #[]:=by
   have:=congrArg List.toArray Z;simpa using this
  rw[Q];simp[Instr.buildSlice,run_underlying X,run_sizeOf E,Instr.fill,newRow];congr 2;apply Array.ext';simp
 .refine run_buildSlice w t e n _ _ ie ze X E M (by rw[<-F];show ¬(n*te.size>16777216);omega) (by rw[<-F];exact Nat.mul_ne_zero A (by omega)) ?_
  rw[Z,<-F];refine Great.fill_whole H _ _ L ?_
  simp[Y]
theorem zvi(B:Mods X w0 st β a w){o:Oper}{t n:Nat}{parts:Array (Nat×Operand)}(C:o.op = .buildSlice t n parts)(h:ziz P t n (parts.toList.map λ(i,x)=>(i,st.val x)) k):Yields P X st β a w o k:=by
 unfold ziz at h
 split at h
 .rename_i e _ _ _ _ I
  obtain⟨i,u,z,hi,N,S,T,_⟩:=zay I;have:=zbb T.symm;subst this
  split at h
  .rename_i te V
   split at h
   .rename_i ss Y
    obtain⟨W,G,H,h⟩:=h;split at h
    .rename_i rows hr
     obtain⟨xs,Z,rfl⟩:=zt1 st.val Y;have F:=Sms.zly B xs;obtain⟨q1,q2,q3,q4⟩:=zkf B.one hr F.2 F.1;have M:xs.length=n:=by simpa using W
     have J:=zyv (w:=w) (j:=i) N V Z M G H a.eval q1;intro K Q hK;unfold Oper.wp;have E:(execOp a.eval o).run P w = .ok (.value (.slice (some ⟨w.heap.size,0,none⟩) n n)) (w.alloc (.cells ((xs.map a.eval).flatMap λv=>v.cells.toList).toArray e)):=by simp[execOp,C,J]
     rw[E];refine hK (.d (.sl rows)) _ _ h (by simp[Sym.lo]) (zbn w _) ?_
     have O:rows.length=n:=by rw[q4];simpa using M
     have A:((xs.map a.eval).flatMap λv=>v.cells.toList).length=n*te.size:=by rw[q2.length,flat_length q3,O]
     simp only[Sm,R];refine⟨_,n,by rw[O],by omega,?_,by simp,λhne=>⟨w.heap.size,0,rfl,λhE=>absurd (B.lt _ hE) (by omega),(Array.getElem?_eq_some_iff.1 (Go.heap_alloc_new w (.cells ((xs.map a.eval).flatMap λv=>v.cells.toList).toArray e))).1,?_⟩⟩
     .have h2:n*1<=n*te.size:=Nat.mul_le_mul_left _ G
      simp only[maxLen];omega
     .have L:rowLen rows=te.size:=by
       cases rows with
       |nil=>exact absurd rfl hne
       |cons r rs=>exact q3 r (by simp)
      rw[L];refine zcl.of_flat q3 (Rrow.of_cells (zah.over (Over.of_below (zbn w _) _) _ _ q2) λj u hj=>?_)
      rw[Nat.zero_add];have hh:=Go.heap_alloc_new w (.cells ((xs.map a.eval).flatMap λv=>v.cells.toList).toArray e)
      simp only[World.cell?,hh];simpa using hj
    .exact h.elim
   .exact h.elim
  .exact h.elim
 .exact h.elim
theorem zfb(H:Mods X w0 st β a w)(o:Oper)(h:sopB P st.look st.val o.op k):Yields P X st β a w o k:=by
 unfold sopB at h
 split at h
 .rename_i t parts G
  split at h
  .rename_i ti F
   exact .zkb (z1o H F h) (λv hv=>by simp[execOp,G,hv])
  .exact h.elim
 .rename_i t n parts G
  exact zvi H G h
 .rename_i f first cap G
  split at h
  .rename_i hf
   have e:first = #[]:=by cases first;simp at hf;rw[hf]
   subst e;have hs:=Sms.zly H cap.toList;refine .zba h (by simpa[Sym.lo] using hs.2) (v:=.func (.func f) #[] (cap.toList.map a.eval).toArray) ?_ (by simp[execOp,G,Instr.makeFunc];apply Array.ext';simp)
   simp only[Sm];exact⟨_,rfl,hs.1⟩
  .exact h.elim
 .exact yfy H o h
end
end Go.V
namespace Go.V
variable [Dr] [Ov]
open Go.RowKit
mutual
def yoh:Sym->List Nat
 |.ar i=>[i]
 |.agg l=>zf2 l
 |.mp i=>[i]
 |_=>[]
def zf2:List Sym->List Nat
 | []=>[]
 |s::r=>yoh s++zf2 r
end
def zt2(P:Program)(st:St)(dst:Option Tmp)(t n:Nat)(parts:List (Nat×Operand))(K:St->Prop):Prop:=
 match TI.of P t with
 |some ⟨.slice e,_,_,_,_⟩=>match TI.of P e with
  |some te=>match inOrder 0 parts with
   |some xs=>xs.length=n/\0<te.size/\n*te.size<=16777216 /\
    match rowsOf te.size (xs.map (st.frzs (zf2 (xs.map st.val))).val) with
    |some rows=>K (((st.frzs (zf2 (xs.map st.val))).new (.arr e te.size rows)).put dst (.ar (st.frzs (zf2 (xs.map st.val))).next))
    |none=>False
   |none=>False
  |none=>False
 |_=>False
def zde(st:St)(id:Nat):Sym->Option (List (List D))
 |.d (.sl l)=>some l
 |.nils=>some []
 |.ar j=>if j=id then none else match st.look j with
  |some (.arr _ _ rows)=>some rows
  |_=>none
 |.aS j sz lo n=>if j=id then none else match st.look j with
  |some (.arr _ sz' rows)=>if sz=sz'/\lo+n<=rows.length then some ((rows.drop lo).take n) else none
  |_=>none
 |.av j sz lo n=>if j=id then none else match st.look j with
  |some (.arr _ sz' rows)=>if sz=sz'/\lo+n<=rows.length then some ((rows.drop lo).take n) else none
  |_=>none
 |_=>none
def zmr(P:Program)(st:St)(dst:Option Tmp)(t t':Nat)(s x:Sym)(K:St->Prop):Prop:=
 match TI.of P t with
 |some ⟨.slice e,_,_,_,_⟩=>match TI.of P e with
  |some te=>t'=t/\0<te.size/\te.zero.length=te.size/\te.zero.all (·.oneCell')=true/\match s with
   |.ar id=>match st.look id,zde st id x with
    |some (.arr T sz rows),some l=>T=e/\sz=te.size/\(∀ r∈l,r.length=te.size)/\(rows.length+l.length)*te.bytes<=140737488355328/\rows.length+l.length<=maxLen /\
     K ((st.renew id (.arr e te.size (rows++l))).put dst (.ar id))
    |_,_=>False
   |.nils=>match zde (st.new (.arr e te.size [])) st.next x with
    |some l=>(∀ r∈l,r.length=te.size)/\l.length*te.bytes<=140737488355328/\l.length<=maxLen /\
     K (((st.new (.arr e te.size [])).renew st.next (.arr e te.size l)).put dst (.ar st.next))
    |_=>False
   |_=>False
  |none=>False
 |_=>False
section
variable {P:Program} {X:Nat->Prop} {w0:Base} {st:St} {β:Nat->Value} {a:Act} {w w':World} {E:Nat->Prop} {m:Nat} {k:Sym->Prop}
theorem yjs(st:St)(id:Nat):(st.frz id).next=st.next/\(st.frz id).n=st.n:=by
 unfold St.frz;split <;> exact⟨rfl,rfl⟩
theorem zkg:∀ (l:List Nat) (st:St),(st.frzs l).next=st.next/\(st.frzs l).n=st.n
 | [],st=>⟨rfl,rfl⟩
 |id::r,st=>by
  have H:=zkg r (st.frz id);have h2:=yjs st id;exact⟨H.1.trans h2.1,H.2.trans h2.2⟩
theorem zq1(Q:Mods X w0 st β a w){o:Oper}{t n:Nat}{parts:Array (Nat×Operand)}(W:o.op = .buildSlice t n parts)(T:∀ t,o.dst=some t->t<st.n){K:St->Prop}(h:zt2 P st o.dst t n parts.toList K):Goes P X w0 o a w K:=by
 unfold zt2 at h
 split at h
 .rename_i e _ _ _ _ ht
  obtain⟨i,u,z,hi,hu,hz,V,_⟩:=zay ht;have:=zbb V.symm;subst this
  split at h
  .rename_i te Y
   obtain⟨ie,ue,ze,O,N,Z,_,J,_,_,S⟩:=zay Y;split at h
   .rename_i xs hxs
    obtain⟨hn,G,L,h⟩:=h;generalize F:st.frzs (zf2 (xs.map st.val))=st1 at h;have hm:Mods X w0 st1 β a w:=by rw[<-F];exact Q.frzs
    have hd:∀ t,o.dst=some t->t<st1.n:=by rw[<-F,(zkg _ st).2];exact T
    split at h
    .rename_i rows hr
     have E:=Sms.zly hm xs;obtain⟨q1,q2,q3,q4⟩:=zkf hm.one hr E.2 E.1;have A:(xs.map a.eval).length=n:=by simpa using hn
     have H:((xs.map a.eval).flatMap λv=>v.cells.toList).length=n*te.size:=by
      rw[q2.length,flat_length q3,q4];simp[hn]
     have M:(Instr.buildSlice t n (parts.map λ(i,x)=>(i,a.eval x))).run P w = .ok (.slice (some ⟨w.heap.size,0,none⟩) n n) (w.alloc (.cells ((xs.map a.eval).flatMap λv=>v.cells.toList).toArray e)):=by
      have hp:(parts.map λ(i,x)=>(i,a.eval x)).toList=((xs.map a.eval).zipIdx 0).map λx=>(x.2,x.1):=by
       rw[Array.toList_map];exact zps a.eval hxs
      by_cases h0:n=0
      .subst h0
       have B:xs=[]:=List.eq_nil_of_length_eq_zero hn
       subst B;have C:(parts.map λ(i,x)=>(i,a.eval x)) = #[]:=by
        have:=congrArg List.toArray hp;simpa using this
       rw[C];simp[Instr.buildSlice,run_underlying hu,run_sizeOf O,Instr.fill,newRow];congr 2;apply Array.ext';simp
      .refine run_buildSlice w t e n _ _ ie ze hu O Z (by rw[<-J];omega) (by rw[<-J];exact Nat.mul_ne_zero h0 (by omega)) ?_
       rw[hp,<-J];refine Great.fill_whole G _ _ q1 ?_
       simp[hn]
     have I:Mods X w0 (st1.new (.arr e te.size rows)) (λi=>if i=st1.next then .slice (some ⟨w.heap.size,0,none⟩) n n else β i) a (w.alloc (.cells ((xs.map a.eval).flatMap λv=>v.cells.toList).toArray e)):=by
      refine hm.new (zbn w _) rfl trivial (λb hb=>by simp[blk] at hb;omega) ?_
      refine⟨_,?_,zah.over (zwp hm _) _ _ q2,q3⟩
      refine⟨⟨by rw[H,q4];simp[hn],.inr ⟨w.heap.size,n,_,by simp[q4,hn],Nat.zero_le _,Go.heap_alloc_new w _,by rw[q4];simp[hn],?_,by simpa using H,?_⟩⟩,λb hb=>⟨.inl (by simp[blk] at hb;have:=hm.below.size;omega),by
       simp[blk] at hb;subst hb;exact zcz.of (Go.heap_alloc_new w _) (λu hu=>q2.one u (by simpa using hu))⟩⟩
      .have h2:n*1<=n*te.size:=Nat.mul_le_mul_left _ G
       simp only[maxLen];omega
      .rw[List.take_of_length_le]
       rw[q4];simp only[List.length_map];show((xs.map a.eval).flatMap λv=>v.cells.toList).length<=xs.length*te.size
       rw[H,hn];exact Nat.le_refl _
     refine Goes.zba (v:=.slice (some ⟨w.heap.size,0,none⟩) n n) (w':=w.alloc (.cells ((xs.map a.eval).flatMap λv=>v.cells.toList).toArray e)) ?_ h (I.za1 hd (by simp[Sym.lo,St.new]) ?_)
     .simp[execOp,W,M]
     .simp[Sm]
    .exact h.elim
   .exact h.elim
  .exact h.elim
 .exact h.elim
theorem zdp(z:Array Value)(n:Nat):((Array.range (n*z.size)).map λi=>z[i%z.size]!).toList=(List.replicate n z.toList).flatten:=by
 rw[Array.toList_map,Array.toList_range]
 induction n with
 |zero=>simp
 |succ n ih=>
  rw[Nat.add_mul,Nat.one_mul,List.range_add,List.map_append,ih,List.replicate_succ',List.flatten_append];congr 1
  simp only[List.map_map,List.flatten_cons,List.flatten_nil,List.append_nil];apply List.ext_getElem
  .simp
  .intro i H h2
   simp at H h2
   simp[Nat.mul_add_mod_of_lt,Nat.mul_comm n z.size,H,Nat.mod_eq_of_lt H]
theorem zn9{z:Array Value}(h:∀ u∈z.toList,u.oneCell'=true)(n:Nat):∀ u∈(Builtin.zeroCells z n).toList,u.oneCell'=true:=by
 intro u H
 unfold Builtin.zeroCells at H
 rw[zdp] at H
 obtain⟨l,G,H⟩:=List.mem_flatten.1 H
 rw[(List.mem_replicate.1 G).2] at H
 exact h u H
theorem z5w(base:Nat)(t ty e:TypeId)(i:TypeInfo)(z:Value)(size bytes:Nat)(ht:P.underlying t=some (.slice e))(hi:P.info? e=some i)(hz:i.zero=some z)
  (E:i.size=size) (X:i.bytes=bytes) (A:z.cells.size=size) (B:0<size)
  (v:Value) (n:Nat) (xs:List Value) (F:w.ownsRow base e size v n xs)
  (a:Addr) (m c:Nat) (news:List Value) (hl:news.length=m*size) (G:∀ j u,news[j]?=some u->w.cell? (a.add j)=some u) (h1:∀ u∈news,u.oneCell'=true)
  (Y:n+m<=maxLen) (H:(n+m)*bytes<=140737488355328) (L:base<=w.heap.size)
  (M:∀ b,blk v=some b->zcz w b) (C:∀ u∈xs,u.oneCell'=true) (I:∀ u∈z.cells.toList,u.oneCell'=true) :
  ∃ v' w',(Builtin.append_ #[t,t] ty #[v,.slice (some a) m c]).run P w = .ok v' w'/\w'.ownsRow base e size v' (n+m) (xs++news)/\w.grownBy w' v.ownBlock /\
   (v'.ownBlock=v.ownBlock\/∃ g,v'.ownBlock=some g/\w.heap.size<=g)/\∀ b,blk v'=some b->zcz w' b:=by
 obtain⟨v',w',hr,h2,h3,h4⟩:=run_append_own (P:=P) w base t ty e i z size bytes ht hi hz E X A B v n xs F a m c news hl G h1 Y H L
 refine⟨v',w',hr,h2,h3,?_⟩
 have O:∀ (olds:List Value) (k:Nat),(∀ u∈olds,u.oneCell'=true)->zcz (w.drew.alloc (.cells (olds.toArray++news.toArray++Builtin.zeroCells z.cells k) e)) w.heap.size:=by
  intro olds k ho;refine zcz.of (arr:=olds.toArray++news.toArray++Builtin.zeroCells z.cells k) (T:=e) (fz:=(0,0)) (Go.heap_alloc_new w.drew _) ?_
  intro u hu;simp only[Array.toList_append,List.mem_append] at hu;rcases hu with(hu | hu) | hu
  .exact ho u hu
  .exact h1 u hu
  .exact zn9 I k u hu
 subst E;subst X
 have Q:n+m<=9223372036854775807:=by simp only[maxLen] at Y;omega
 rcases F.2 with⟨rfl,rfl⟩ | ⟨g,cap,cur,rfl,S,hg,W,H0,N,Z⟩
 .by_cases hm:m=0
  .have:=h4.2 ⟨rfl,hm⟩
   rw[this];exact⟨.inl rfl,λb hb=>by simp[blk] at hb⟩
  .have K:=run_append_nil (P:=P) w t ty e i z ht hi hz a m c news hl G (by omega) (by omega) (by have hb:=H;simp only[Nat.zero_add] at hb;omega)
   rw[hr] at K;injection K with e1 e2;refine⟨by rw[e1];exact .inr ⟨_,rfl,Nat.le_refl _⟩,λb hb=>?_⟩
   rw[e1] at hb;simp[blk] at hb;subst hb;rw[e2];have:=O [] (grownCap w m 0 e-m) (λ_ h=>by cases h)
   simpa using this
 .by_cases J:n+m<=cap
  .have V:n*i.size+news.length<=cur.size:=by rw[hl,N,<-Nat.add_mul];exact Nat.mul_le_mul_right _ J
   have K:=run_append_room (P:=P) w t ty e i ht hi g n cap cur hg a m c news hl G h1 J V;rw[hr] at K;injection K with e1 e2;refine⟨by rw[e1];exact .inl rfl,λb hb=>?_⟩
   rw[e1] at hb;simp[blk] at hb;subst hb;rw[e2];refine zcz.of (setRow_heap w g cur _ e (0,0) hg) ?_
   intro u hu;have h0:=M g (by rfl) _ _ _ hg
   simp only[List.mem_append] at hu;rcases hu with(hu | hu) | hu
   .exact h0 u (List.mem_of_mem_take hu)
   .exact h1 u hu
   .exact h0 u (List.mem_of_mem_drop hu)
  .have holds:∀ j u,xs[j]?=some u->w.cell? ((⟨g,0,none⟩:Addr).add j)=some u:=F.cells (g:=g) rfl
   have K:=run_append_grow (P:=P) w t ty e i z ht hi hz ⟨g,0,none⟩ n cap xs F.1 holds a m c news hl G (by omega) (by omega) (growslice_fits (by omega) H)
   rw[hr] at K;injection K with e1 e2;refine⟨by rw[e1];exact .inr ⟨_,rfl,Nat.le_refl _⟩,λb hb=>?_⟩
   rw[e1] at hb;simp[blk] at hb;subst hb;rw[e2];exact O xs _ C
end
end Go.V
namespace Go.V
variable [Dr] [Ov]
open Go.RowKit
section
variable {P:Program} {X:Nat->Prop} {w0:Base} {st:St} {β:Nat->Value} {a:Act} {w w':World} {m:Nat} {k:Sym->Prop}
theorem zkh{sz:Nat}:∀ {rows:List (List D)} {n:Nat},(∀ r∈rows,r.length=sz)->(rows.drop n).flatten=rows.flatten.drop (n*sz)
 | [],n,h=>by simp
 |r::rs,0,h=>by simp
 |r::rs,n+1,h=>by
  have H:=h r (by simp)
  simp only[List.drop_succ_cons,List.flatten_cons];rw[zkh (λx hx=>h x (by simp[hx])),Nat.add_mul,List.drop_append]
  have:n*sz+1*sz-r.length=n*sz:=by omega
  rw[this,List.drop_eq_nil_of_le (as:=r) (by rw[H];have:0<=n*sz:=Nat.zero_le _;omega)];rfl
theorem zib{sz:Nat}:∀ {rows:List (List D)} {n:Nat},(∀ r∈rows,r.length=sz)->(rows.take n).flatten=rows.flatten.take (n*sz)
 | [],n,h=>by simp
 |r::rs,0,h=>by simp
 |r::rs,n+1,h=>by
  have H:=h r (by simp)
  simp only[List.take_succ_cons,List.flatten_cons];rw[zib (λx hx=>h x (by simp[hx])),Nat.add_mul,List.take_append]
  have:n*sz+1*sz-r.length=n*sz:=by omega
  rw[this,List.take_of_length_le (l:=r) (by rw[H];have:0<=n*sz:=Nat.zero_le _;omega)]
theorem z5x{sz:Nat}{rows l:List (List D)}{lo:Nat}(h:∀ r∈rows,r.length=sz)(H:∀ r∈l,r.length=sz):(splice rows lo l).flatten=splice rows.flatten (lo*sz) l.flatten:=by
 unfold splice
 rw[List.flatten_append,List.flatten_append,zib h,zkh h,flat_length H,Nat.add_mul]
theorem zic(M:Mods X w0 st β a w){id sz:Nat}{s:Sym}{v:Value}{l:List (List D)}(h:zde st id s=some l)(hs:Sm w (Ex X β st.own) β s v)(J:∀ r∈l,r.length=sz):
  ∃ ad c,v = .slice ad l.length c/\(ad=none->l=[]/\c=0)/\∀ a0,ad=some a0->∃ news:List Value,zah w (Ex X β st.own) l.flatten news/\∀ (j:Nat) u,news[j]?=some u->w.cell? (a0.add j)=some u:=by
 cases s <;> simp only[zde] at h
 case d x=>
  cases x <;> simp only[zde] at h
  case sl l'=>
   simp at h;subst h
   simp only[Sm,R] at hs;obtain⟨ad,c,rfl,O,h2,Q,V⟩:=hs;refine⟨ad,c,rfl,λY=>?_,λa0 ha=>?_⟩
   .have:=Q Y
    exact⟨List.eq_nil_of_length_eq_zero (by omega),this⟩
   .by_cases K:l'=[]
    .subst K;exact⟨[],by simp[zah],by simp⟩
    .obtain⟨b,off,Z,A,L,B⟩:=V K
     rw[ha] at Z;simp at Z;subst Z;obtain⟨vs,e1,e2⟩:=(zcl.flat B).cells;exact⟨vs,e1,λj u C=>by rw[add_lit];exact e2 j u C⟩
  all_goals cases h
 case nils=>
  simp at h;subst h
  simp only[Sm] at hs;subst hs;exact⟨none,0,rfl,λ_=>⟨rfl,rfl⟩,λa0 h=>by cases h⟩
 case ar j=>
  split at h
  .cases h
  .split at h
   .rename_i T sz' rows I
    simp at h;subst h
    obtain⟨_,_,xs,N,P,G⟩:=M.obj I;simp only[Sm] at hs;subst hs;rcases N.1.2 with⟨Y,S⟩ | ⟨g,cap,cur,W,_⟩
    .exact⟨none,0,by rw[Y,S],λ_=>⟨List.eq_nil_of_length_eq_zero S,rfl⟩,λa0 h=>by cases h⟩
    .refine⟨some ⟨g,0,none⟩,cap,W,(λh=>by cases h),λa0 ha=>⟨xs,P,λj u C=>?_⟩⟩
     cases ha;exact N.1.cells (by rw[W];rfl) j u C
   .cases h
 case aS j sz' lo n=>
  split at h
  .cases h
  .split at h
   .rename_i T sz2 rows I
    split at h
    .rename_i F
     obtain⟨rfl,F⟩:=F;simp at h;subst h
     obtain⟨_,_,xs,N,P,G⟩:=M.obj I;simp only[Sm] at hs;obtain⟨b,m,c,k,hβ,rfl,O,h2⟩:=hs;have E:((rows.drop lo).take n).length=n:=by simp;omega
     refine⟨some ⟨b,lo*sz',none⟩,k,by rw[E],(λh=>by cases h),λa0 ha=>?_⟩
     cases ha;refine⟨(xs.drop (lo*sz')).take (n*sz'),?_,λj u C=>?_⟩
     .rw[zib (λr B=>G r (List.mem_of_mem_drop B)),zkh G]
      exact zah.take _ (zah.drop _ P)
     .rw[List.getElem?_take] at C
      split at C
      .rw[List.getElem?_drop] at C
       rcases N.1.2 with⟨Y,S⟩ | ⟨g,cap,cur,W,_⟩
       .rw[Y] at hβ;cases hβ
       .have H:=N.1.cells (by rw[W];rfl) (lo*sz'+j) u C
        rw[W] at hβ;simp at hβ;obtain⟨rfl,_⟩:=hβ;rw[add_lit] at H ⊢;simpa using H
      .cases C
    .cases h
   .cases h
 case av j sz' lo n=>
  split at h
  .cases h
  .split at h
   .rename_i T sz2 rows I
    split at h
    .rename_i F
     obtain⟨rfl,F⟩:=F;simp at h;subst h
     obtain⟨_,_,xs,N,P,G⟩:=M.obj I;simp only[Sm] at hs;obtain⟨b,c,hβ,rfl,O,h2⟩:=hs;have E:((rows.drop lo).take n).length=n:=by simp;omega
     refine⟨some ⟨b,lo*sz',none⟩,c-lo,by rw[E],(λh=>by cases h),λa0 ha=>?_⟩
     cases ha;refine⟨(xs.drop (lo*sz')).take (n*sz'),?_,λj u C=>?_⟩
     .rw[zib (λr B=>G r (List.mem_of_mem_drop B)),zkh G]
      exact zah.take _ (zah.drop _ P)
     .rw[List.getElem?_take] at C
      split at C
      .rw[List.getElem?_drop] at C
       rcases N.1.2 with⟨Y,S⟩ | ⟨g,cap,cur,W,_⟩
       .rw[Y] at hβ;cases hβ
       .have H:=N.1.cells (by rw[W];rfl) (lo*sz'+j) u C
        rw[W] at hβ;simp at hβ;obtain⟨rfl,_⟩:=hβ;rw[add_lit] at H ⊢;simpa using H
      .cases C
    .cases h
   .cases h
 all_goals cases h
theorem zi0{base T sz n:Nat}{v:Value}{xs:List Value}(h:w.ownsRow base T sz v n xs):v.ownBlock=blk v:=by
 rcases h.2 with⟨rfl,_⟩ | ⟨g,cap,cur,rfl,_⟩ <;> rfl
theorem z5y{base T sz n:Nat}{v:Value}{xs:List Value}(h:w.ownsRow base T sz v n xs):v.oneCell'=true:=by
 rcases h.2 with⟨rfl,_⟩ | ⟨g,cap,cur,rfl,_⟩ <;> rfl
theorem zq2(hm:Mods X w0 st β a w){o:Oper}{t t':Nat}{s x:Operand}(ho:o.op = .call {callee:=.builtin .append,args:=#[s,x],argTypes:=#[t,t']})(hd:∀ t,o.dst=some t->t<st.n){K:St->Prop}
  {e:Nat} {te:TI} (hu:P.underlying t=some (.slice e)) (H5:TI.of P e=some te) (H6:t'=t) (Y:0<te.size) (H7:te.zero.length=te.size) (H8:te.zero.all (·.oneCell')=true) {id:Nat} (H9:a.eval s=β id) {rows l:List (List D)}
  (H2:st.look id=some (.arr e te.size rows)) (Z:zde st id (st.val x)=some l) (A:∀ r∈l,r.length=te.size) (hb:(rows.length+l.length)*te.bytes<=140737488355328) (Ha:rows.length+l.length<=maxLen)
  (h:K ((st.renew id (.arr e te.size (rows++l))).put o.dst (.ar id))):Goes P X w0 o a w K:=by
 subst H6
 obtain⟨ie,ue,ze,B,Hk,Hb,_,Hc,Hd,_,H3⟩:=zay H5
 obtain⟨hid,Hl,xs,hx,C,He⟩:=hm.obj H2
 obtain⟨ad,c,H4,F,J⟩:=zic hm Z (hm.val x).2 A
 have I:∀ r∈rows++l,r.length=te.size:=λr hr=>(List.mem_append.1 hr).elim (He r) (A r)
 have Hf:ze.cells.size=te.size:=by rw[<-H7,H3];simp
 have fin:∀ (v':Value) (w':World) (xs':List Value),(Builtin.append_ #[t',t'] o.type #[β id,a.eval x]).run P w = .ok v' w'->Owns w0.may w' e te.size v' (rows++l).length xs' ->
   Kept w0 w'->(∀ c,c<w.heap.size->some c≠blk (β id)->w'.heap[c]?=w.heap[c]?)->(∀ b,blk v'=some b->blk (β id)=some b\/w.heap.size<=b) ->
   (∀ E,Over w (Ex X β st.own) w' E->zah w' E (rows++l).flatten xs')->Goes P X w0 o a w K:=by
  intro v' w' xs' hr L N M S G;have Hg:=hm.renew (o':=.arr e te.size (rows++l)) H2 (z5y L.1) N M S trivial (λE O Hm=>⟨xs',by simpa using L,G E O,I⟩)
  refine Goes.zba (v:=v') (w':=w') ?_ h (Hg.za1 hd (by simpa[Sym.lo,St.renew] using hid) (by simp[Sm]))
  simp[execOp,ho,resolve,invoke,builtin,H9,hr]
 cases ad with
 |none=>
  obtain⟨rfl,rfl⟩:=F rfl;refine fin (β id) w xs ?_ (by simpa using hx) hm.below (λ_ _ _=>rfl) (λb hb=>.inl hb) (λE O=>by simpa using zah.over O _ _ C)
  rw[H4];rcases hx.1.2 with⟨hn,h0⟩ | ⟨g,cap,cur,hg,_,hh,Q,_⟩
  .rw[hn]
   simp[Builtin.append_,run_underlying hu,sizeOf,typeInfo,B,Builtin.lenOf,Builtin.firstCells]
  .rw[hg]
   simp[Builtin.append_,run_underlying hu,sizeOf,typeInfo,B,Builtin.lenOf,Builtin.firstCells,Q,storeCells]
 |some a0=>
  obtain⟨news,W,T⟩:=J a0 rfl;have Hh:news.length=l.length*te.size:=by rw[W.length,flat_length A]
  obtain⟨v',w',hr,L,hg,H0,V⟩:=z5w (P:=P) (w:=w) 0 t' o.type e ie ze te.size te.bytes hu B Hb Hc.symm Hd.symm Hf Y (β id) rows.length xs hx.1 a0 l.length c news Hh T W.one Ha hb (Nat.zero_le _) (λb hb=>(hx.2 b hb).2) C.one (by rw[<-H3];exact List.all_eq_true.1 H8)
  have H:∀ b,blk v'=some b->blk (β id)=some b\/w.heap.size<=b:=by
   intro b hb;rw[<-zi0 L] at hb;rcases H0 with e | ⟨g,e,Hi⟩
   .left;rw[e,zi0 hx.1] at hb;exact hb
   .right;rw[e] at hb;cases hb;exact Hi
  have H1:∀ b,blk v'=some b->w0.may b:=λb hb=>(H b hb).elim (λe=>(hx.2 b e).1) (λh=>.inl (Nat.le_trans hm.below.size h))
  refine fin v' w' (xs++news) (by rw[H4];exact hr) ⟨by simpa using L,λb hb=>⟨H1 b hb,V b hb⟩⟩ ?_ ?_ H ?_
  .exact hm.below.turn hg.os hg.tape hg.output hg.size (λk hk hn=>hg.block k hk (λe=>hn (hx.2 k (by rw[<-zi0 hx.1];exact e.symm)).1)) (λ_=>zce P _ _ _ _ hr)
  .intro c hc Hj
   exact hg.block c hc (by rw[zi0 hx.1];exact Hj)
  .intro E O
   rw[List.flatten_append];exact zah.over O _ _ (zah.append C W)
theorem zoa(A:Mods X w0 st β a w){o:Oper}{t t':Nat}{s x:Operand}(B:o.op = .call {callee:=.builtin .append,args:=#[s,x],argTypes:=#[t,t']})(C:∀ t,o.dst=some t->t<st.n){K:St->Prop}
  (h:zmr P st o.dst t t' (st.val s) (st.val x) K):Goes P X w0 o a w K:=by
 unfold zmr at h
 split at h
 .rename_i e _ _ _ _ I
  obtain⟨i,u,z,hi,N,S,V,_⟩:=zay I;have:=zbb V.symm;subst this
  split at h
  .rename_i te L
   obtain⟨M,F,O,Q,h⟩:=h;split at h
   .rename_i id hs
    split at h
    .rename_i T sz rows l Y H
     obtain⟨rfl,rfl,E,W,J,h⟩:=h;have G:=(A.val s).2;rw[hs] at G;simp only[Sm] at G;exact zq2 A B C N L M F O Q G Y H E W J h
    .exact h.elim
   .rename_i hs
    split at h
    .rename_i l H
     obtain⟨E,W,J,h⟩:=h;have G:=(A.val s).2;rw[hs] at G;simp only[Sm] at G;have Z:=A.z1l e te.size;refine zq2 Z B C N L M F O Q (id:=st.next) (rows:=[]) ?_ ?_ H E (by simpa using W) (by simpa using J) (by simpa using h)
     .simp[G]
     .simp[St.look,St.new,zac]
    .exact h.elim
   .exact h.elim
  .exact h.elim
 .exact h.elim
def yf4(P:Program)(st:St)(dst:Option Tmp)(t:Nat)(d s:Sym)(K:St->Prop):Prop:=
 match TI.of P t with
 |some ⟨.slice e,_,_,_,_⟩=>match TI.of P e with
  |some te=>0<te.size/\match zde st st.next s with
   |some l=>(∀ r∈l,r.length=te.size)/\match d with
    |.d (.sl [])=>K (st.put dst (.d (.int .i64 0)))
    |.aS id sz lo n=>match st.look id with
     |some (.arr T sz' rows)=>sz=te.size/\sz'=te.size/\lo+n<=rows.length/\K ((st.set id (.arr T sz' (splice rows lo (l.take n)))).put dst (.d (.int .i64 ((l.take n).length:Nat))))
     |_=>False
    |.av id sz lo n=>match st.look id with
     |some (.arr T sz' rows)=>sz=te.size/\sz'=te.size/\lo+n<=rows.length/\K ((st.set id (.arr T sz' (splice rows lo (l.take n)))).put dst (.d (.int .i64 ((l.take n).length:Nat))))
     |_=>False
    |.ar id=>match st.look id with
     |some (.arr T sz' rows)=>sz'=te.size/\K ((st.set id (.arr T sz' (splice rows 0 (l.take rows.length)))).put dst (.d (.int .i64 ((l.take rows.length).length:Nat))))
     |_=>False
    |_=>False
   |none=>False
  |none=>False
 |_=>False
theorem zyw(w:World)(dT sT ty elem:TypeId)(g o dLen dCap:Nat)(a:Addr)(sLen sCap:Nat)(cur:Array Value)(t:TypeId)(cs:List Value)(K:Nat)
  (E:P.underlying dT=some (.slice elem)) (hs:(P.info? elem).map (·.size)=some K)
  (J:w.heap[g]?=some (.cells cur t (0,0))) (L:cs.length=Nat.min sLen dLen*K)
  (H:∀ j v,cs[j]?=some v->w.cell? (a.add j)=some v) (G:o+cs.length<=cur.size) (M:∀ v∈cs,v.oneCell'=true) :
  (Builtin.copy_ #[dT,sT] ty #[.slice (some ⟨g,o,none⟩) dLen dCap,.slice (some a) sLen sCap]).run P w =
   .ok (goInt (Nat.min sLen dLen)) (w.setRow g (cur.toList.take o++cs++cur.toList.drop (o+cs.length)).toArray):=by
 have O:=run_loadCells_list (P:=P) w a cs H
 have F:=run_storeCells_at P g o t cs 0 cur w J (by simpa using G) M
 cases Q:P.info? elem with
 |none=>simp[Q] at hs
 |some i=>
  have hi:i.size=K:=by simpa[Q] using hs
  subst hi;simp only[Nat.add_zero] at F;simp[Builtin.copy_,run_underlying E,Builtin.lenOf,Builtin.firstCells,sizeOf,typeInfo,Q,<-L,O,F]
theorem zhl(w:World)(dT sT ty elem:TypeId)(d a:Option Addr)(dLen dCap sLen sCap:Nat)(K:Nat)(H:P.underlying dT=some (.slice elem))(hs:(P.info? elem).map (·.size)=some K)(G:Nat.min sLen dLen=0):
  (Builtin.copy_ #[dT,sT] ty #[.slice d dLen dCap,.slice a sLen sCap]).run P w = .ok (goInt 0) w:=by
 cases F:P.info? elem with
 |none=>simp[F] at hs
 |some i=>
  have E:∀ (x:Addr),(loadCells x 0).run P w = .ok #[] w:=λx=>by simpa using run_loadCells_list (P:=P) w x [] (by simp)
  cases d <;> cases a <;> simp[Builtin.copy_,run_underlying H,Builtin.lenOf,Builtin.firstCells,sizeOf,typeInfo,F,G,storeCells,E]
theorem zg8(hm:Mods X w0 st β a w){id T sz b m c lo:Nat}{rows l:List (List D)}(Y:st.look id=some (.arr T sz rows))(hβ:β id = .slice (some ⟨b,0,none⟩) m c)
  (K:lo+l.length<=rows.length) (hl:∀ r∈l,r.length=sz) {us:List Value} (Z:zah w (Ex X β st.own) l.flatten us) :
  ∃ cur:Array Value,w.heap[b]?=some (.cells cur T (0,0))/\us.length=l.length*sz/\lo*sz+us.length<=cur.size /\
   Mods X w0 (st.set id (.arr T sz (splice rows lo l))) β a (w.setRow b (splice cur.toList (lo*sz) us).toArray):=by
 obtain⟨hid,H4,xs,hx,B,A⟩:=hm.obj Y
 have C:us.length=l.length*sz:=by rw[Z.length,flat_length hl]
 rcases hx.1.2 with⟨hn,_⟩ | ⟨g,cap,cur,hg,I,hh,G,N,P,J⟩
 .rw[hn] at hβ;cases hβ
 .have S:b=g:=by rw[hg] at hβ;simp at hβ;exact hβ.1.symm
  subst S;have W:xs.length=rows.length*sz:=hx.1.1
  have H0:cur.toList.length=cap*sz:=by simpa using P
  have H1:(lo+l.length)*sz<=rows.length*sz:=Nat.mul_le_mul_right _ K
  have H5:rows.length*sz<=cap*sz:=Nat.mul_le_mul_right _ G
  rw[Nat.add_mul] at H1;have L:lo*sz+us.length<=xs.length:=by omega
  have M:lo*sz+us.length<=cur.size:=by have h7:cur.size=cur.toList.length:=(Array.length_toList).symm;omega
  have H:(splice rows lo l).length=rows.length:=zdv K
  have O:=(hx.2 b (by rw[hg];rfl)).1
  have Q:=(hx.2 b (by rw[hg];rfl)).2 _ _ _ hh
  have H2:Ex X β st.own b:=.inr ⟨id,_,za0 Y,by rw[hg];rfl⟩
  have F:∀ c,c≠b->(w.setRow b (splice cur.toList (lo*sz) us).toArray).heap[c]?=w.heap[c]?:=λc hc=>setRow_other w b c _ hc
  have H3:=zle H2 F;have E:=setRow_heap w b cur (splice cur.toList (lo*sz) us).toArray T (0,0) hh;refine⟨cur,hh,C,M,?_⟩
  refine hm.update Y (b:=b) (by rw[hg];rfl) O F (by simp) rfl rfl rfl (λ_=>by simp) trivial ?_
  refine⟨splice xs (lo*sz) us,⟨⟨?_,.inr ⟨b,cap,_,?_,I,E,?_,N,?_,?_⟩⟩,λb2 V=>⟨(hx.2 b2 V).1,by
   rw[hg] at V;simp[blk] at V;subst V;exact zcz.of E (λu hu=>(zh8 (by simpa using hu)).elim (Q u) (Z.one u))⟩⟩,?_,?_⟩
  .rw[zdv L,H];exact W
  .rw[hg,H]
  .rw[H];exact G
  .simp only[List.size_toArray];rw[zdv (by omega)];exact H0
  .rw[H];simp only[]
   rw[ztx (by omega) (by omega),J]
  .rw[z5x A hl]
   exact zah.over H3 _ _ (zah.splice B Z _)
  .intro r hr
   exact(zh8 hr).elim (A r) (hl r)
theorem zob(K:Mods X w0 st β a w){id T sz:Nat}{rows:List (List D)}(H:st.look id=some (.arr T sz rows)):Mods X w0 (st.set id (.arr T sz rows)) β a w:=by
 obtain⟨hid,G,xs,J,F,E⟩:=K.obj H
 have L:∀ {l:List (Nat×Obj')},zac l id=some (.arr T sz rows)->aset id (.arr T sz rows) l=l:=by
  intro l;induction l with
  |nil=>intro h;simp[zac] at h
  |cons x r ih=>
   intro h;obtain⟨k,u⟩:=x;simp only[zac] at h;simp only[aset];split at h
   .rename_i e;simp at h;simp[e,h]
   .rename_i e;rw[if_neg e,ih h]
 have:st.set id (.arr T sz rows)=st:=by
  unfold St.set;rw[L H]
 rw[this];exact K
theorem zpt(hm:Mods X w0 st β a w){o:Oper}{t t':Nat}{d s:Operand}(ho:o.op = .call {callee:=.builtin .copy,args:=#[d,s],argTypes:=#[t,t']})(hd:∀ t,o.dst=some t->t<st.n){K:St->Prop}
  {e sz:Nat} (hu:P.underlying t=some (.slice e)) (G:(P.info? e).map (·.size)=some sz) {l:List (List D)} (M:zde st st.next (st.val s)=some l) (L:∀ r∈l,r.length=sz)
  {id T lo n m c k b:Nat} {rows:List (List D)} (B:st.look id=some (.arr T sz rows)) (N:lo+n<=rows.length) (hβ:β id = .slice (some ⟨b,0,none⟩) m c) (C:a.eval d = .slice (some ⟨b,lo*sz,none⟩) n k)
  (h:K ((st.set id (.arr T sz (splice rows lo (l.take n)))).put o.dst (.d (.int .i64 ((l.take n).length:Nat))))):Goes P X w0 o a w K:=by
 obtain⟨ad,c1,I,F,E⟩:=zic hm M (hm.val s).2 L
 have O:(l.take n).length=Nat.min l.length n:=by simp[Nat.min_comm]
 have Q:∀ r∈l.take n,r.length=sz:=λr hr=>L r (List.mem_of_mem_take hr)
 by_cases h0:(l.take n).length=0
 .have V:l.take n=[]:=List.eq_nil_of_length_eq_zero h0
  have S:splice rows lo ([]:List (List D))=rows:=by simp[splice]
  rw[V,S] at h;have H:=zhl (P:=P) w t t' o.type e (some ⟨b,lo*sz,none⟩) ad n k l.length c1 sz hu G (by rw[O] at h0;exact h0)
  refine Goes.zba (v:=goInt 0) (w':=w) ?_ h ((zob hm B).za1 hd (by simp[Sym.lo]) (by simp[Sm,R,goInt]))
  simp[execOp,ho,resolve,invoke,builtin,C,I,H]
 .cases ad with
  |none=>obtain⟨rfl,_⟩:=F rfl;simp at h0
  |some a0=>
   obtain⟨news,Y,J⟩:=E a0 rfl;have H2:news.length=l.length*sz:=by rw[Y.length,flat_length L]
   have Z:zah w (Ex X β st.own) (l.take n).flatten (news.take (n*sz)):=by
    rw[zib L];exact zah.take _ Y
   obtain⟨cur,hh,W,H0,H1⟩:=zg8 hm B hβ (l:=l.take n) (lo:=lo) (by simp;omega) Q Z
   have H:=zyw (P:=P) w t t' o.type e b (lo*sz) n k a0 l.length c1 cur T (news.take (n*sz)) sz hu G hh (by rw[W,O])
    (λj v hj=>J j v (by rw[List.getElem?_take] at hj;split at hj;exact hj;cases hj)) H0 (λv hv=>Y.one v (List.mem_of_mem_take hv))
   have A:(cur.toList.take (lo*sz)++news.take (n*sz)++cur.toList.drop (lo*sz+(news.take (n*sz)).length)).toArray=(splice cur.toList (lo*sz) (news.take (n*sz))).toArray:=rfl
   rw[A] at H;refine Goes.zba (v:=goInt (Nat.min l.length n)) (w':=w.setRow b (splice cur.toList (lo*sz) (news.take (n*sz))).toArray) ?_ h (H1.za1 hd (by simp[Sym.lo]) (by simp only[Sm,R,goInt];rw[O]))
   simp[execOp,ho,resolve,invoke,builtin,C,I,H]
theorem zt3(hm:Mods X w0 st β a w){o:Oper}{t t':Nat}{d s:Operand}(ho:o.op = .call {callee:=.builtin .copy,args:=#[d,s],argTypes:=#[t,t']})(hd:∀ t,o.dst=some t->t<st.n){K:St->Prop}
  (h:yf4 P st o.dst t (st.val d) (st.val s) K):Goes P X w0 o a w K:=by
 unfold yf4 at h
 split at h
 .rename_i e _ _ _ _ ht
  obtain⟨i,u,z,hi,hu,hz,Y,_⟩:=zay ht;have:=zbb Y.symm;subst this
  split at h
  .rename_i te Z
   obtain⟨ie,ue,ze,A,N,S,_,W,H0,_,H1⟩:=zay Z;obtain⟨B,h⟩:=h;have G:(P.info? e).map (·.size)=some te.size:=by rw[A];simp;omega
   split at h
   .rename_i l F
    obtain⟨M,h⟩:=h;have H:=(hm.val d).2;split at h
    .rename_i hds
     rw[hds] at H;simp only[Sm,R] at H;obtain⟨da,dc,H,_⟩:=H;obtain⟨ad,c,V,O,Q⟩:=zic hm F (hm.val s).2 M;have E:=zhl (P:=P) w t t' o.type e da ad 0 dc l.length c te.size hu G (by simp)
     refine Goes.zba (v:=goInt 0) (w':=w) ?_ h (hm.za1 hd (by simp[Sym.lo]) (by simp[Sm,R,goInt]))
     simp only[List.length_nil] at H;simp[execOp,ho,resolve,invoke,builtin,H,V,E]
    .rename_i id sz lo n hds
     rw[hds] at H;simp only[Sm] at H;split at h
     .rename_i T sz' rows J
      obtain⟨rfl,rfl,L,h⟩:=h;obtain⟨b,m,c',k,hβ,H,h1,h2⟩:=H;exact zpt hm ho hd hu G F M J L hβ H h
     .exact h.elim
    .rename_i id sz lo n hds
     rw[hds] at H;simp only[Sm] at H;split at h
     .rename_i T sz' rows J
      obtain⟨rfl,rfl,L,h⟩:=h;obtain⟨b,c',hβ,H,h1,h2⟩:=H;exact zpt hm ho hd hu G F M J L hβ H h
     .exact h.elim
    .rename_i id hds
     rw[hds] at H;simp only[Sm] at H;split at h
     .rename_i T sz' rows J
      obtain⟨rfl,h⟩:=h;obtain⟨hid,H2,xs,hx,H3,H4⟩:=hm.obj J;rcases hx.1.2 with⟨hn,h0⟩ | ⟨g,cap,cur,hg,_⟩
      .have C:rows=[]:=List.eq_nil_of_length_eq_zero h0
       subst C;obtain⟨ad,c,V,O,Q⟩:=zic hm F (hm.val s).2 M;have E:=zhl (P:=P) w t t' o.type e none ad 0 0 l.length c te.size hu G (by simp)
       have I:splice ([]:List (List D)) 0 (l.take ([]:List (List D)).length)=[]:=by simp[splice]
       rw[I] at h;refine Goes.zba (v:=goInt 0) (w':=w) ?_ h ((zob hm J).za1 hd (by simp[Sym.lo]) (by simp[Sm,R,goInt]))
       rw[hn] at H;simp[execOp,ho,resolve,invoke,builtin,H,V,E]
      .refine zpt hm ho hd hu G F M (lo:=0) (n:=rows.length) (k:=cap) J (by omega) hg ?_ h
       rw[Nat.zero_mul];rw[H,hg]
     .exact h.elim
    .exact h.elim
   .exact h.elim
  .exact h.elim
 .exact h.elim
theorem zid{E:Nat->Prop}{w:World}:∀ {zs:List Value} {ds:List D},allD (zs.map ofConst)=some ds->zs.all (·.oneCell')=true->zah w E ds zs
 | [],ds,h,_=>by simp[allD] at h;subst h;simp[zah]
 |z::zs,ds,h,h1=>by
  simp only[List.map_cons,allD] at h;simp only[List.all_cons,Bool.and_eq_true] at h1;split at h
  .rename_i x xs G H
   simp at h;subst h
   simp only[zah];exact⟨z,zs,rfl,h1.1,zn2 G (zk7 _ E (λ_=>.nilFunc) z),zid H h1.2⟩
  .cases h
theorem zah.replicate{E:Nat->Prop}{w:World}{ds:List D}{zs:List Value}(h:zah w E ds zs):∀ n,zah w E (List.replicate n ds).flatten (List.replicate n zs).flatten
 |0=>by simp[zah]
 |n+1=>by
  simp only[List.replicate_succ,List.flatten_cons];exact zah.append h (zah.replicate h n)
theorem zgt:∀ {l:List Sym} {ds:List D},allD l=some ds->ds.length=l.length
 | [],ds,h=>by simp[allD] at h;subst h;rfl
 |s::r,ds,h=>by
  simp only[allD] at h;split at h
  .rename_i x xs H hxs
   simp at h;subst h
   simp[zgt hxs]
  .cases h
def z1p(P:Program)(st:St)(dst:Option Tmp)(t:Nat)(x:Sym)(K:St->Prop):Prop:=
 match TI.of P t with
 |some ⟨.slice e,_,_,_,_⟩=>match TI.of P e with
  |some te=>match allD (te.zero.map ofConst) with
   |some z=>te.zero.all (·.oneCell')=true/\te.zero.length=te.size/\match x with
    |.d (.sl [])=>K (st.put dst (.d (.tup [])))
    |.aS id sz lo n=>match st.look id with
     |some (.arr T sz' rows)=>sz=te.size/\sz'=te.size/\lo+n<=rows.length/\K ((st.set id (.arr T sz' (splice rows lo (List.replicate n z)))).put dst (.d (.tup [])))
     |_=>False
    |.av id sz lo n=>match st.look id with
     |some (.arr T sz' rows)=>sz=te.size/\sz'=te.size/\lo+n<=rows.length/\K ((st.set id (.arr T sz' (splice rows lo (List.replicate n z)))).put dst (.d (.tup [])))
     |_=>False
    |_=>False
   |none=>False
  |none=>False
 |_=>False
theorem zq3(hm:Mods X w0 st β a w){o:Oper}{t:Nat}{x:Operand}(ho:o.op = .call {callee:=.builtin .clear,args:=#[x],argTypes:=#[t]})(hd:∀ t,o.dst=some t->t<st.n){K:St->Prop}
  (h:z1p P st o.dst t (st.val x) K):Goes P X w0 o a w K:=by
 unfold z1p at h
 split at h
 .rename_i e _ _ _ _ ht
  obtain⟨i,u,z,hi,hu,hz,H1,_⟩:=zay ht;have:=zbb H1.symm;subst this
  split at h
  .rename_i te H2
   obtain⟨ie,ue,ze,I,H4,N,_,H5,H6,_,S⟩:=zay H2;split at h
   .rename_i zd Q
    obtain⟨W,H0,h⟩:=h;have H:=(hm.val x).2;split at h
    .rename_i hds
     rw[hds] at H;simp only[Sm,R] at H;obtain⟨da,dc,H,_⟩:=H;simp only[List.length_nil] at H;refine Goes.zba (v:=.tuple #[]) (w':=w) ?_ h (hm.za1 hd (by simp[Sym.lo]) (by simp[Sm,R,za9]))
     cases da <;> simp[execOp,ho,resolve,invoke,builtin,H,Builtin.clear_,run_underlying hu]
    .rename_i id sz lo n hds
     rw[hds] at H;simp only[Sm] at H;split at h
     .rename_i T sz' rows M
      obtain⟨rfl,rfl,V,h⟩:=h;obtain⟨b,m,c',k,hβ,H,h1,h2⟩:=H;have O:=zid (E:=Ex X β st.own) (w:=w) Q W;have G:zd.length=te.size:=by rw[zgt Q];simpa using H0
      cases n with
      |zero=>
       have Y:splice rows lo (List.replicate 0 zd)=rows:=by simp[splice]
       rw[Y] at h;refine Goes.zba (v:=.tuple #[]) (w':=w) ?_ h ((zob hm M).za1 hd (by simp[Sym.lo]) (by simp[Sm,R,za9]))
       simp[execOp,ho,resolve,invoke,builtin,H,Builtin.clear_,run_underlying hu]
      |succ n=>
       have Z:∀ r∈List.replicate (n+1) zd,r.length=te.size:=λr hr=>by rw[(List.mem_replicate.1 hr).2];exact G
       obtain⟨cur,hh,H3,A,B⟩:=zg8 hm M hβ (l:=List.replicate (n+1) zd) (lo:=lo) (by simp;omega) Z (O.replicate (n+1))
       have F:∀ v∈(List.replicate (n+1) te.zero).flatten,v.oneCell'=true:=(O.replicate (n+1)).one
       have J:=run_storeCells_at P b (lo*te.size) T (List.replicate (n+1) te.zero).flatten 0 cur w hh (by simpa using A) F
       simp only[Nat.add_zero] at J;have L:(cur.toList.take (lo*te.size)++(List.replicate (n+1) te.zero).flatten++cur.toList.drop (lo*te.size+(List.replicate (n+1) te.zero).flatten.length)).toArray=(splice cur.toList (lo*te.size) (List.replicate (n+1) te.zero).flatten).toArray:=rfl
       rw[L] at J;have C:(Builtin.zeroCells ze.cells (n+1)).toList=(List.replicate (n+1) te.zero).flatten:=by
        unfold Builtin.zeroCells;rw[zdp,S]
       refine Goes.zba (v:=.tuple #[]) (w':=w.setRow b (splice cur.toList (lo*te.size) (List.replicate (n+1) te.zero).flatten).toArray) ?_ h (B.za1 hd (by simp[Sym.lo]) (by simp[Sm,R,za9]))
       simp[execOp,ho,resolve,invoke,builtin,H,Builtin.clear_,run_underlying hu,zeroValue,typeInfo,I,N,C,J]
     .exact h.elim
    .rename_i id sz lo n hds
     rw[hds] at H;simp only[Sm] at H;split at h
     .rename_i T sz' rows M
      obtain⟨rfl,rfl,V,h⟩:=h;obtain⟨b,c',hβ,H,h1,h2⟩:=H;have O:=zid (E:=Ex X β st.own) (w:=w) Q W;have G:zd.length=te.size:=by rw[zgt Q];simpa using H0
      cases n with
      |zero=>
       have Y:splice rows lo (List.replicate 0 zd)=rows:=by simp[splice]
       rw[Y] at h;refine Goes.zba (v:=.tuple #[]) (w':=w) ?_ h ((zob hm M).za1 hd (by simp[Sym.lo]) (by simp[Sm,R,za9]))
       simp[execOp,ho,resolve,invoke,builtin,H,Builtin.clear_,run_underlying hu]
      |succ n=>
       have Z:∀ r∈List.replicate (n+1) zd,r.length=te.size:=λr hr=>by rw[(List.mem_replicate.1 hr).2];exact G
       obtain⟨cur,hh,H3,A,B⟩:=zg8 hm M hβ (l:=List.replicate (n+1) zd) (lo:=lo) (by simp;omega) Z (O.replicate (n+1))
       have F:∀ v∈(List.replicate (n+1) te.zero).flatten,v.oneCell'=true:=(O.replicate (n+1)).one
       have J:=run_storeCells_at P b (lo*te.size) T (List.replicate (n+1) te.zero).flatten 0 cur w hh (by simpa using A) F
       simp only[Nat.add_zero] at J;have L:(cur.toList.take (lo*te.size)++(List.replicate (n+1) te.zero).flatten++cur.toList.drop (lo*te.size+(List.replicate (n+1) te.zero).flatten.length)).toArray=(splice cur.toList (lo*te.size) (List.replicate (n+1) te.zero).flatten).toArray:=rfl
       rw[L] at J;have C:(Builtin.zeroCells ze.cells (n+1)).toList=(List.replicate (n+1) te.zero).flatten:=by
        unfold Builtin.zeroCells;rw[zdp,S]
       refine Goes.zba (v:=.tuple #[]) (w':=w.setRow b (splice cur.toList (lo*te.size) (List.replicate (n+1) te.zero).flatten).toArray) ?_ h (B.za1 hd (by simp[Sym.lo]) (by simp[Sm,R,za9]))
       simp[execOp,ho,resolve,invoke,builtin,H,Builtin.clear_,run_underlying hu,zeroValue,typeInfo,I,N,C,J]
     .exact h.elim
    .exact h.elim
   .exact h.elim
  .exact h.elim
 .exact h.elim
def bytesOf:List (List D)->Option (List UInt8)
 | []=>some []
 | [.int .u8 n]::r=>match bytesOf r with
  |some l=>some (UInt8.ofNat n.toNat::l)
  |none=>none
 |_::_=>none
def za5(s:ByteArray):List (List D):=s.data.toList.map λb=>[.int .u8 (b.toNat:Int)]
def zbs(P:Program)(st:St)(s t:Nat)(x:Sym)(k:Sym->Prop):Prop:=
 match TI.of P s,TI.of P t with
 |some ⟨.slice e,_,_,_,_⟩,some ⟨.str,_,_,_,_⟩=>match TI.of P e with
  |some ⟨.int .u8,_,_,_,_⟩=>match zde st st.next x with
   |some rows=>match bytesOf rows with
    |some bs=>k (.d (.str ⟨bs.toArray⟩))
    |none=>False
   |none=>False
  |_=>False
 |some ⟨.str,_,_,_,_⟩,some ⟨.slice e,_,_,_,_⟩=>match TI.of P e,x with
  |some ⟨.int .u8,_,_,_,_⟩,.d (.str b)=>b.size<=maxLen/\k (.d (.sl (za5 b)))
  |_,_=>False
 |_,_=>False
theorem zq4:∀ {rows:List (List D)} {bs:List UInt8},bytesOf rows=some bs->∃ ns:List Int,rows=ns.map (λn=>[.int .u8 n])/\bs=ns.map (λn=>UInt8.ofNat n.toNat)
 | [],bs,h=>by simp[bytesOf] at h;subst h;exact⟨[],rfl,rfl⟩
 |row::r,bs,h=>by
  unfold bytesOf at h;split at h
  .rename_i heq;cases heq
  .rename_i n r' heq
   cases heq;split at h
   .rename_i l H
    simp at h;subst h
    obtain⟨ns,rfl,rfl⟩:=zq4 H;exact⟨n::ns,rfl,rfl⟩
   .cases h
  .cases h
theorem fold_push:∀ (ns:List Int) (s:ByteArray),ns.foldl (λr n=>r.push (UInt8.ofNat n.toNat)) s=⟨s.data++(ns.map (λn=>UInt8.ofNat n.toNat)).toArray⟩
 | [],s=>by simp
 |n::ns,s=>by
  rw[List.foldl_cons,fold_push ns];simp[ByteArray.push]
theorem zpu{w:World}{E:Nat->Prop}:∀ {ns:List Int} {news:List Value},zah w E (ns.map (λn=>[D.int .u8 n])).flatten news->news=ns.map (Value.int .u8)
 | [],news,h=>by simpa[zah] using h
 |n::ns,news,h=>by
  simp only[List.map_cons,List.flatten_cons,List.singleton_append,zah] at h;obtain⟨v,vs',rfl,_,G,H⟩:=h;simp only[R] at G;rw[G,zpu H];rfl
theorem zki(hm:Mods X w0 st β a w){o:Oper}{s t:Nat}{x:Operand}(ho:o.op = .convert s t x)(h:zbs P st s t (st.val x) k):Yields P X st β a w o k:=by
 unfold zbs at h
 split at h
 .rename_i e _ _ _ _ _ _ _ _ hs ht
  obtain⟨i,u,z,hi,hu,hz,O,_⟩:=zay hs;have:=zbb O.symm;subst this
  obtain⟨i2,u2,z2,B,T,C,H,_⟩:=zay ht;have:=zfg H.symm;subst this
  split at h
  .rename_i he
   obtain⟨i3,u3,z3,I,V,N,G,_⟩:=zay he;have:=kind_int G.symm;subst this
   split at h
   .rename_i rows Y
    split at h
    .rename_i bs S
     obtain⟨ns,rfl,rfl⟩:=zq4 S;obtain⟨ad,c,W,F,E⟩:=zic (sz:=1) hm Y (hm.val x).2 (by intro r hr;obtain⟨n,_,rfl⟩:=List.mem_map.1 hr;rfl)
     have J:=run_convert_bytes_string (P:=P) w s t e ad (ns.map (λn=>[D.int .u8 n])).length c hu V T
     have H0:YV P w (Ex X β st.own) β st.next (convert s t (a.eval x)) k:=by
      refine YV.str h ?_
      rw[W,J];cases ad with
      |none=>
       obtain⟨hn,rfl⟩:=F rfl;have:ns=[]:=by simpa using hn
       subst this;simp[Conv.bytesToString];rfl
      |some a0=>
       obtain⟨news,H1,L⟩:=E a0 rfl;have hn:news=ns.map (Value.int .u8):=zpu H1
       subst hn;have hl:=run_loadCells_list (P:=P) w a0 _ L;rw[List.length_map] at hl;rw[List.length_map,run_bytesToString (P:=P) w a0 ns.length c ns hl,fold_push];rw[show(ByteArray.empty).data = #[] from rfl];simp
     exact .zkb H0 (λv hv=>by simp[execOp,ho,hv])
    .exact h.elim
   .exact h.elim
  .exact h.elim
 .rename_i e _ _ _ _ hs ht
  obtain⟨i,u,z,hi,hu,hz,O,_⟩:=zay hs;have:=zfg O.symm;subst this
  obtain⟨i2,u2,z2,B,T,C,H,_⟩:=zay ht;have:=zbb H.symm;subst this
  split at h
  .rename_i b he hx
   obtain⟨i3,u3,z3,I,V,N,G,_⟩:=zay he;have:=kind_int G.symm;subst this
   obtain⟨hb,h⟩:=h;have hv:=(hm.val x).2;rw[hx] at hv;simp only[Sm,R] at hv;intro K Q hN;have Z:=Lib.run_convert_string_bytes (P:=P) w s t e b hu T V;have A:Below w.heap.size w (Lib.bytesWorld w e b):=
    ⟨⟨rfl,rfl,rfl,by rw[Lib.bytesWorld_size];omega,λk hk=>Lib.bytesWorld_at_old w e b k hk⟩,λ_=>Nat.le_succ _⟩
   unfold Oper.wp;have:(execOp a.eval o).run P w = .ok (.value (.slice (some ⟨w.heap.size,0,none⟩) b.size (grownCap w b.size 0 e))) (Lib.bytesWorld w e b):=by
    simp[execOp,ho,hv,Z]
   rw[this];refine hN _ _ _ h (by simp[Sym.lo]) A ?_
   have M:(za5 b).length=b.size:=by unfold za5;rw[List.length_map];rfl
   simp only[Sm,R];refine⟨_,_,by rw[M],by rw[M];exact grownCap_ge w _ _ _,grownCap_le_maxLen w _ _ _ hb,by simp,λhne=>⟨w.heap.size,0,rfl,λhex=>?_,by rw[Lib.bytesWorld_size];omega,?_⟩⟩
   .have:=hm.lt _ hex;omega
   .have H2:rowLen (za5 b)=1:=by
     cases hr:za5 b with
     |nil=>exact absurd hr hne
     |cons r rs=>
      have:r∈za5 b:=by rw[hr];simp
      simp only[za5,List.mem_map] at this;obtain⟨_,_,rfl⟩:=this;rfl
    rw[H2];refine zcl.of_flat (by intro r hr;simp only[za5,List.mem_map] at hr;obtain⟨_,_,rfl⟩:=hr;rfl) ?_
    have H3:(za5 b).flatten=b.data.toList.map (λc=>D.int .u8 (c.toNat:Int)):=by
     unfold za5;induction b.data.toList with
     |nil=>rfl
     |cons c l ih=>simp[ih]
    rw[H3];refine Rrow.of_cells (vs:=b.data.toList.map (λc=>Value.int .u8 (c.toNat:Int))) ?_ λj u hj=>?_
    .have:∀ l:List UInt8,zah (Lib.bytesWorld w e b) (Ex X β st.own) (l.map λc=>D.int .u8 (c.toNat:Int)) (l.map λc=>Value.int .u8 (c.toNat:Int)):=by
      intro l;induction l with
      |nil=>simp[zah]
      |cons c l ih=>simp only[List.map_cons,zah];exact⟨_,_,rfl,rfl,by simp[R],ih⟩
     exact this _
    .rw[List.getElem?_map] at hj
     cases hc:b.data.toList[j]? with
     |none=>rw[hc] at hj;simp at hj
     |some c=>
      rw[hc] at hj;simp at hj;have H4:j<b.size:=by
       exact(List.getElem?_eq_some_iff.1 hc).1
      rw[Nat.zero_add,Lib.bytesWorld_cell w e b j H4];simp[List.getD,hc,hj]
  .exact h.elim
 .exact h.elim
def zr5(st:St)(dst:Option Tmp)(t:Nat)(K:St->Prop):Prop:=K ((st.new (.map t [])).put dst (.mp st.next))
theorem zl1(G:Mods X w0 st β a w){o:Oper}{t:Nat}(F:o.op = .makeMap t none)(E:∀ t,o.dst=some t->t<st.n){K:St->Prop}(h:zr5 st o.dst t K):Goes P X w0 o a w K:=by
 have H:Mods X w0 (st.new (.map t [])) (λi=>if i=st.next then .map (some w.heap.size) else β i) a (w.alloc (.map #[] 0)):=by
  refine G.new (zbn w _) rfl trivial (λb hb=>by simp[blk] at hb;omega) ?_
  exact⟨w.heap.size,#[],0,by simp,.inl G.below.size,(MapKept.heap_alloc w _).1,by simp[zdb]⟩
 refine Goes.zba (v:=.map (some w.heap.size)) (w':=w.alloc (.map #[] 0)) ?_ h (H.za1 E (by simp[Sym.lo,St.new]) (by simp[Sm]))
 simp[execOp,F,Instr.makeMap]
def zie(P:Program)(st:St)(t:Nat)(m x v:Sym)(K:St->Prop):Prop:=
 match m,x,unD v,TI.of P t with
 |.mp id,.d x,some v,some ⟨.map kt _,_,_,_,_⟩=>match st.look id,TI.of P kt with
  |some (.map T rows),some tk=>zes tk.kind x=true/\(match putD x v rows with
   |some rows'=>K {st with own:=aset id (.map T rows') st.own}
   |none=>False)
  |_,_=>False
 |_,_,_,_=>False
theorem z9c{u:TypeDesc}{x d:D}{v t:Value}{w:World}{E:Nat->Prop}(M:zes (zc2 P u) x=true)(O:R w E x v)(Q:R w E d t):
  ∀ {rows rows':List (List D)} {es:List MapEntry} {i:Nat},zdb w E rows es->putD x d rows=some rows' ->
   (Instr.findNow u v es i=some none/\∀ c,zdb w E rows' (es++[{key:=v,val:=t,born:=c}])) \/
   (∃ j e,Instr.findNow u v es i=some (some (i+j,e.val))/\es[j]?=some e/\e.key=v/\zdb w E rows' (es.modify j λe=>{e with key:=v,val:=t}))
 | [],rows',es,i,T,h=>by
  simp only[zdb] at T;subst T;simp[putD] at h;subst h;exact .inl ⟨rfl,λc=>by simp only[List.nil_append,zdb];exact⟨_,[],rfl,by simp only[za9];exact⟨_,_,rfl,O,_,_,rfl,Q,rfl⟩,rfl⟩⟩
 | []::_,rows',es,i,T,h=>by simp[putD] at h
 | [_]::_,rows',es,i,T,h=>by simp[putD] at h
 |(_::_::_::_)::_,rows',es,i,T,h=>by simp[putD] at h
 | [k,y]::rs,rows',es,i,T,h=>by
  simp only[zdb,za9] at T;obtain⟨e,es',rfl,⟨v1,l1,e1,H,v2,l2,rfl,F,rfl⟩,K⟩:=T;simp at e1
  obtain⟨rfl,rfl⟩:=e1;simp only[putD] at h;split at h
  .rename_i V
   simp at h;subst h
   have X:=(zh7 M O H V).1;have G:MapKept.IsKey u v:=zwo M O
   have J:e.key=v:=by
    obtain⟨r,q1,q2⟩:=MapKept.sameNow_of_keys G (zwo (zh7 M O H V).2 H);rw[X] at q1;simp at q1;exact(q2.1 q1).symm
   refine .inr ⟨0,e,by simp[Instr.findNow,X],by simp,J,?_⟩
   simp only[List.modify_zero_cons,zdb];exact⟨_,es',rfl,by simp only[za9];exact⟨_,_,rfl,O,_,_,rfl,Q,rfl⟩,K⟩
  .rename_i V
   have X:=(zh7 M O H V).1;split at h
   .rename_i r' L
    simp at h;subst h
    rcases z9c M O Q (i:=i+1) K L with⟨q1,q2⟩ | ⟨j,e',q1,q2,q3,q4⟩
    .refine .inl ⟨by simpa[Instr.findNow,X] using q1,λc=>?_⟩
     simp only[List.cons_append,zdb];exact⟨e,_,rfl,by simp only[za9];exact⟨_,_,rfl,H,_,_,rfl,F,rfl⟩,q2 c⟩
    .refine .inr ⟨j+1,e',?_,by simpa using q2,q3,?_⟩
     .simp only[Instr.findNow,X];rw[q1];congr 3;omega
     .simp only[List.modify_succ_cons,zdb]
      exact⟨e,_,rfl,by simp only[za9];exact⟨_,_,rfl,H,_,_,rfl,F,rfl⟩,q4⟩
   .cases h
  .cases h
theorem zjh(hm:Mods X w0 st β a w){o:Oper}{t:Nat}{m x v:Operand}(ho:o.op = .mapUpdate t m x v)(hd:o.dst=none){K:St->Prop}
  (h:zie P st t (st.val m) (st.val x) (st.val v) K):Goes P X w0 o a w K:=by
 unfold zie at h
 split at h
 .rename_i id y d kt _ _ _ _ _ B C I ht
  split at h
  .rename_i T rows tk O N
   obtain⟨H,h⟩:=h;split at h
   .rename_i rows' Q
    obtain⟨j,u,z,hi,hu,hz,S,_⟩:=zay ht;have:=z8y S.symm;subst this
    obtain⟨ik,uk,zk,H3,V,H4,W,_⟩:=zay N;rw[W] at H;obtain⟨_,_,r,es,clock,hb,hN,hh,E⟩:=hm.obj O;have L:=(hm.val m).2;rw[B] at L;simp only[Sm] at L;have M:=(hm.val x).2;rw[C] at M;simp only[Sm] at M;have H0:=zn2 I (hm.val v).2;have Z:=zwo H M;have A:=MapKept.run_checkKey (P:=P) (w:=w) V Z false 9999;have fin:∀ es' clock',(Instr.mapUpdate t (a.eval m) (a.eval x) (a.eval v)).run P w = .ok () {w with heap:=w.heap.setIfInBounds r (.map es' clock')}->zdb w (Ex X β st.own) rows' es'.toList->Goes P X w0 o a w K:=by
     intro es' clock' Y G;have F:=MapKept.heap_set (o':=.map es' clock') hh;have H1:Ex X β st.own r:=.inr ⟨id,_,za0 O,by rw[hb];rfl⟩
     have H2:=zle (w':={w with heap:=w.heap.setIfInBounds r (.map es' clock')}) H1 (λc hc=>F.2 c hc)
     refine Goes.zyu (β':=β) (w':={w with heap:=w.heap.setIfInBounds r (.map es' clock')}) ?_ h ?_
     .simp[execOp,ho,Y]
     .have J:(a.put o.dst undef)=a:=by rw[hd];rfl
      try rw[J]
      refine hm.update O (b:=r) (by rw[hb];rfl) hN (λc hc=>F.2 c hc) (by simp) rfl rfl rfl (λ_=>by simp) trivial ?_
      exact⟨r,es',clock',hb,hN,F.1,zdb.over H2 _ _ G⟩
    rcases z9c (P:=P) H M H0 (i:=0) E Q with⟨q1,q2⟩ | ⟨j,e,q1,q2,q3,q4⟩
    .refine fin (es.push {key:=a.eval x,val:=a.eval v,born:=clock}) (clock+1) ?_ (by simpa using q2 clock)
     simp[Instr.mapUpdate,run_underlying hu,L,hb,MapKept.run_getObj_map hh,A,MapKept.run_findKey V q1,MapKept.run_setObj_map _ hh]
    .have hj:es[j]?=some e:=by simpa using q2
     refine fin (es.modify j λe=>{e with key:=a.eval x,val:=a.eval v}) clock ?_ (by simpa using q4)
     simp[Instr.mapUpdate,run_underlying hu,L,hb,MapKept.run_getObj_map hh,A,MapKept.run_findKey V q1,hj,q3,MapKept.run_keyThatStays Z,MapKept.run_setObj_map _ hh]
   .exact h.elim
  .exact h.elim
 .exact h.elim
def yf5(P:Program)(st:St)(dst:Option Tmp)(t:Nat)(l c:Sym)(K:St->Prop):Prop:=
 match TI.of P t,l,c with
 |some ⟨.slice e,_,_,_,_⟩,.d (.int _ l),.d (.int _ c)=>match TI.of P e with
  |some te=>match allD (te.zero.map ofConst) with
   |some x=>0<te.size/\te.zero.length=te.size/\te.zero.all (·.oneCell')=true/\0<=l/\l<=c/\(te.bytes:Int)*c<=281474976710656/\c<=maxLen /\
     K ((st.new (.arr e te.size (List.replicate l.toNat x))).put dst (.ar st.next))
   |none=>False
  |none=>False
 |_,_,_=>False
theorem zoc(zs:List Value):∀ (l c:Nat),l<=c->(List.replicate c zs).flatten.take (l*zs.length)=(List.replicate l zs).flatten
 |0,c,_=>by simp
 |l+1,0,h=>by omega
 |l+1,c+1,h=>by
  simp only[List.replicate_succ,List.flatten_cons];rw[Nat.add_mul,Nat.one_mul,Nat.add_comm,List.take_append,List.take_of_length_le (by omega)]
  rw[show zs.length+l*zs.length-zs.length=l*zs.length by omega,zoc zs l c (by omega)]
theorem zt4(hm:Mods X w0 st β a w){o:Oper}{t:Nat}{l c:Operand}(ho:o.op = .makeSlice t l c)(hd:∀ t,o.dst=some t->t<st.n){K:St->Prop}
  (h:yf5 P st o.dst t (st.val l) (st.val c) K):Goes P X w0 o a w K:=by
 unfold yf5 at h
 split at h
 .rename_i e _ _ _ _ kl l' kc c' ht hl hc
  split at h
  .rename_i te T
   split at h
   .rename_i x hx
    obtain⟨h1,G,V,h2,h3,h4,h5,h⟩:=h;obtain⟨j,u,zz,hi,hu,H0,Y,_⟩:=zay ht;have:=zbb Y.symm;subst this
    obtain⟨ie,ue,ze,Z,H1,A,_,B,C,_,M⟩:=zay T;have J:=(hm.val l).2;rw[hl] at J;simp only[Sm,R] at J;have L:=(hm.val c).2;rw[hc] at L;simp only[Sm,R] at L;have H:=run_make (P:=P) w t e ie ze hu Z A kl kc l' c' h2 h3 (by rw[<-C];exact h4) (by simp only[maxLen] at h5;omega)
    have I:ze.cells.size=ie.size:=by rw[<-B,<-G,M];simp
    have F:(madeCells ze.cells (c'.toNat*ie.size)).toList=(List.replicate c'.toNat te.zero).flatten:=by
     unfold madeCells;rw[<-I,zdp,M]
    obtain⟨cs,N⟩:∃ cs,madeCells ze.cells (c'.toNat*ie.size)=cs:=⟨_,rfl⟩;rw[N] at H F;have O:∀ E,zah (w.alloc (.cells cs e)) E x te.zero:=λE=>zid hx V
    have S:x.length=te.size:=by rw[zgt hx];simpa using G
    have Q:∀ n,(List.replicate n te.zero).flatten.length=n*te.size:=by
     intro n;induction n with
     |zero=>simp
     |succ n ih=>rw[List.replicate_succ,List.flatten_cons,List.length_append,ih,G,Nat.add_mul];omega
    have W:Mods X w0 (st.new (.arr e te.size (List.replicate l'.toNat x))) (λi=>if i=st.next then .slice (some ⟨w.heap.size,0,none⟩) l'.toNat c'.toNat else β i) a (w.alloc (.cells cs e)):=by
     refine hm.new (zbn w _) rfl trivial (λb hb=>by simp[blk] at hb;omega) ?_
     refine⟨(List.replicate l'.toNat te.zero).flatten,⟨⟨?_,.inr ⟨w.heap.size,c'.toNat,cs,by simp,Nat.zero_le _,Go.heap_alloc_new w _,by simp;omega,by simp only[maxLen] at h5 ⊢;omega,?_,?_⟩⟩,λb hb=>⟨.inl (by simp[blk] at hb;have:=hm.below.size;omega),by
      simp[blk] at hb;subst hb;exact zcz.of (Go.heap_alloc_new w _) (λu hu=>by rw[F] at hu;exact((O (λ_=>False)).replicate _).one u hu)⟩⟩,(O _).replicate _,by intro r hr;rw[(List.mem_replicate.1 hr).2];exact S⟩
     .rw[Q];simp
     .have:cs.size=cs.toList.length:=(Array.length_toList).symm
      rw[this,F,Q]
     .rw[F]
      have:=zoc te.zero l'.toNat c'.toNat (by omega)
      rw[G] at this;simpa using this
    refine Goes.zba (v:=.slice (some ⟨w.heap.size,0,none⟩) l'.toNat c'.toNat) (w':=w.alloc (.cells cs e)) ?_ h (W.za1 hd (by simp[Sym.lo,St.new]) (by simp[Sm]))
    simp[execOp,ho,J,L,H]
   .exact h.elim
  .exact h.elim
 .exact h.elim
theorem z1q{α:Type}{t:Nat}{v:α}:∀ {l:List (Nat×α)},zac l t=some v->aset t v l=l
 | [],h=>by simp[zac] at h
 |(k,u)::r,h=>by
  simp only[zac] at h;simp only[aset];split at h
  .rename_i e;simp at h;subst h;simp[e]
  .rename_i e;rw[if_neg e,z1q h]
def z1r(P:Program)(st:St)(dst:Option Tmp)(t:Nat)(x:Sym)(K:St->Prop):Prop:=
 match TI.of P t,x with
 |some ⟨.str,_,_,_,_⟩,.d (.str s)=>K ((st.new (.raw (.it s 0) [])).put dst (.bp st.next 0))
 |_,_=>False
def z9d(s:ByteArray)(pos:Nat):Nat×D:=
 if pos<s.size then (pos+(Utf8.decode s pos).2,.tup [.bool true,.int .i64 (pos:Int),.int .i32 ((Utf8.decode s pos).1:Int)])
 else (pos,.tup [.bool false])
def yf6(st:St)(dst:Option Tmp)(x:Sym)(K:St->Prop):Prop:=
 match x with
 |.bp id 0=>match st.look id with
  |some (.raw (.it s pos) [])=>K (({st with own:=aset id (.raw (.it s (z9d s pos).1) []) st.own}:St).put dst (.d (z9d s pos).2))
  |_=>False
 |_=>False
theorem zq5(F:Mods X w0 st β a w){o:Oper}{t:Nat}{x:Operand}(E:o.op = .range t x)(J:∀ t,o.dst=some t->t<st.n){K:St->Prop}(h:z1r P st o.dst t (st.val x) K):Goes P X w0 o a w K:=by
 unfold z1r at h
 split at h
 .rename_i s L hx
  obtain⟨i,u,z,hi,M,O,H,_⟩:=zay L;have:=zfg H.symm;subst this
  have Q:=(F.val x).2;rw[hx] at Q;simp only[Sm,R] at Q;have G:Mods X w0 (st.new (.raw (.it s 0) [])) (λi=>if i=st.next then .pointer (some ⟨w.heap.size,0,none⟩) else β i) a (w.alloc (.stringIter s 0)):=by
   refine F.new (zbn w _) rfl trivial (λb hb=>by simp[blk] at hb;omega) ?_
   exact⟨w.heap.size,0,0,[],by simp[RK.ptr],.inl F.below.size,(MapKept.heap_alloc w _).1,by simp[Sms]⟩
  refine Goes.zba (v:=.pointer (some ⟨w.heap.size,0,none⟩)) (w':=w.alloc (.stringIter s 0)) ?_ h (G.za1 J (by simp[Sym.lo,St.new]) (by simp[Sm]))
  simp[execOp,E,Instr.range,run_underlying M,Q]
 .exact h.elim
theorem zod{w:World}{r:Nat}{s:ByteArray}{pos:Nat}(h:w.heap[r]?=some (.stringIter s pos)):(getObj r).run P w = .ok (.stringIter s pos) w:=by simp[getObj,Sem.run,h]
theorem zyx{w:World}{r:Nat}{s:ByteArray}{pos:Nat}(o:Obj)(h:w.heap[r]?=some (.stringIter s pos)):(setObj r o).run P w = .ok () (w.putObj r o):=by simp[setObj,Sem.run,h,World.putObj]
theorem zt5(M:Mods X w0 st β a w){o:Oper}{x:Operand}(O:o.op = .next x true)(Q:∀ t,o.dst=some t->t<st.n){K:St->Prop}(h:yf6 st o.dst (st.val x) K):Goes P X w0 o a w K:=by
 unfold yf6 at h
 split at h
 .rename_i id hx
  split at h
  .rename_i s pos G
   have T:=(M.val x).2;rw[hx] at T;simp only[Sm] at T;obtain⟨b0,F,E⟩:=T;obtain⟨_,_,b,fn,D,vs,V,Y,Z,hs⟩:=M.obj G;simp only[RK.ptr] at V;rw[V] at F;obtain rfl:b=b0:=by simpa using F
   simp only[RK.at] at Z;have L:vs=[]:=by simpa[Sms] using hs
   unfold z9d at h;by_cases A:pos<s.size
   .rw[if_pos A] at h
    simp only at h
    have J:=(Array.getElem?_eq_some_iff.1 Z).1;refine Goes.zba (β':=β) (v:=.tuple #[.bool true,.int .i64 (pos:Int),.int .i32 ((Utf8.decode s pos).1:Int)]) (w':=w.putObj b (.stringIter s (pos+(Utf8.decode s pos).2))) ?_ h ?_
    .simp[execOp,O,E,Instr.next,zod Z,zyx _ Z,A,goInt]
    .refine(M.update (w':=w.putObj b (.stringIter s (pos+(Utf8.decode s pos).2))) G (b:=b) (by rw[V];rfl) Y (λc B=>World.putObj_heap_other B) (by simp) rfl rfl rfl (λ_=>Nat.le_refl _) (by simp[Obj'.lo,Sym.los]) ?_).za1 Q (by simp[Sym.lo]) (by simp[Sm,R,za9])
     exact⟨b,fn,D,[],V,Y,by simp only[RK.at];exact World.putObj_heap_same J,by simp[Sms]⟩
   .rw[if_neg A] at h
    simp only at h
    have H:({st with own:=aset id (.raw (.it s pos) []) st.own}:St)=st:=by
     have:aset id (Obj'.raw (.it s pos) []) st.own=st.own:=z1q (by simpa[St.look] using G)
     rw[this]
    rw[H] at h;refine Goes.zba (v:=.tuple #[.bool false]) (w':=w) ?_ h (M.za1 Q (by simp[Sym.lo]) (by simp[Sm,R,za9]))
    simp[execOp,O,E,Instr.next,zod Z,A]
  .exact h.elim
 .exact h.elim
end
end Go.V
namespace Go.V
variable [Dr] [Ov]
open Go.RowKit
mutual
def ren(ρ:Nat->Nat):Sym->Sym
 |.bp i o=>.bp (ρ i) o
 |.ar i=>.ar (ρ i)
 |.ap i s j o=>.ap (ρ i) s j o
 |.aS i s j o=>.aS (ρ i) s j o
 |.av i s j o=>.av (ρ i) s j o
 |.yd i=>.yd (ρ i)
 |.mp i=>.mp (ρ i)
 |.tup l=>.tup (rens ρ l)
 |.agg l=>.agg (rens ρ l)
 |.fn f l=>.fn f (rens ρ l)
 |.d x=>.d x
 |.nils=>.nils
 |.junk=>.junk
def rens(ρ:Nat->Nat):List Sym->List Sym
 | []=>[]
 |s::r=>ren ρ s::rens ρ r
end
def zet(ρ:Nat->Nat):Obj'->Obj'
 |.box T cells=>.box T (rens ρ cells)
 |.arr T sz rows=>.arr T sz rows
 |.map T rows=>.map T rows
 |.raw k cells=>.raw k (rens ρ cells)
section
variable {ρ:Nat->Nat} {β β':Nat->Value} {w w':World} {E E':Nat->Prop} {m m':Nat}
mutual
theorem yk6(hβ:∀ i,i<m->β' (ρ i)=β i):∀ {s:Sym} {v:Value},Sym.lo m s->Sm w E β s v->Sm w E β' (ren ρ s) v
 |.bp i o,v,H,h=>by simp only[ren,Sm,Sym.lo] at H h ⊢;rw[hβ i H];exact h
 |.ar i,v,H,h=>by simp only[ren,Sm,Sym.lo] at H h ⊢;rw[hβ i H];exact h
 |.ap i s j o,v,H,h=>by simp only[ren,Sm,Sym.lo] at H h ⊢;rw[hβ i H];exact h
 |.aS i s j o,v,H,h=>by simp only[ren,Sm,Sym.lo] at H h ⊢;rw[hβ i H];exact h
 |.av i s j o,v,H,h=>by simp only[ren,Sm,Sym.lo] at H h ⊢;rw[hβ i H];exact h
 |.yd i,v,H,h=>by simp only[ren,Sm,Sym.lo] at H h ⊢;rw[hβ i H];exact h
 |.mp i,v,H,h=>by simp only[ren,Sm,Sym.lo] at H h ⊢;rw[hβ i H];exact h
 |.tup l,v,H,h=>by
  simp only[ren,Sm,Sym.lo] at H h ⊢;obtain⟨vs,G,h2⟩:=h;exact⟨vs,G,zpv hβ H h2⟩
 |.agg l,v,H,h=>by
  simp only[ren,Sm,Sym.lo] at H h ⊢;obtain⟨vs,G,h2,F⟩:=h;exact⟨vs,G,zpv hβ H h2,F⟩
 |.fn f l,v,H,h=>by
  simp only[ren,Sm,Sym.lo] at H h ⊢;obtain⟨vs,G,h2⟩:=h;exact⟨vs,G,zpv hβ H h2⟩
 |.d x,v,H,h=>by simpa[ren,Sm] using h
 |.nils,v,H,h=>by simpa[ren,Sm] using h
 |.junk,v,H,h=>by simp[ren,Sm]
theorem zpv(hβ:∀ i,i<m->β' (ρ i)=β i):∀ {l:List Sym} {vs:List Value},Sym.los m l->Sms w E β l vs->Sms w E β' (rens ρ l) vs
 | [],vs,H,h=>by simpa[rens,Sms] using h
 |s::r,vs,H,h=>by
  simp only[rens,Sms,Sym.los] at H h ⊢;obtain⟨v,vs',rfl,G,h2⟩:=h;exact⟨v,vs',rfl,yk6 hβ H.1 G,zpv hβ H.2 h2⟩
end
mutual
theorem yoi(hβ:∀ i,i<m->β' (ρ i)=β i):∀ {s:Sym} {v:Value},Sym.lo m s->Sm w E β' (ren ρ s) v->Sm w E β s v
 |.bp i o,v,H,h=>by simp only[ren,Sm,Sym.lo] at H h ⊢;rw[<-hβ i H];exact h
 |.ar i,v,H,h=>by simp only[ren,Sm,Sym.lo] at H h ⊢;rw[<-hβ i H];exact h
 |.ap i s j o,v,H,h=>by simp only[ren,Sm,Sym.lo] at H h ⊢;rw[<-hβ i H];exact h
 |.aS i s j o,v,H,h=>by simp only[ren,Sm,Sym.lo] at H h ⊢;rw[<-hβ i H];exact h
 |.av i s j o,v,H,h=>by simp only[ren,Sm,Sym.lo] at H h ⊢;rw[<-hβ i H];exact h
 |.yd i,v,H,h=>by simp only[ren,Sm,Sym.lo] at H h ⊢;rw[<-hβ i H];exact h
 |.mp i,v,H,h=>by simp only[ren,Sm,Sym.lo] at H h ⊢;rw[<-hβ i H];exact h
 |.tup l,v,H,h=>by
  simp only[ren,Sm,Sym.lo] at H h ⊢;obtain⟨vs,G,h2⟩:=h;exact⟨vs,G,zhm hβ H h2⟩
 |.agg l,v,H,h=>by
  simp only[ren,Sm,Sym.lo] at H h ⊢;obtain⟨vs,G,h2,F⟩:=h;exact⟨vs,G,zhm hβ H h2,F⟩
 |.fn f l,v,H,h=>by
  simp only[ren,Sm,Sym.lo] at H h ⊢;obtain⟨vs,G,h2⟩:=h;exact⟨vs,G,zhm hβ H h2⟩
 |.d x,v,H,h=>by simpa[ren,Sm] using h
 |.nils,v,H,h=>by simpa[ren,Sm] using h
 |.junk,v,H,h=>by simp[Sm]
theorem zhm(hβ:∀ i,i<m->β' (ρ i)=β i):∀ {l:List Sym} {vs:List Value},Sym.los m l->Sms w E β' (rens ρ l) vs->Sms w E β l vs
 | [],vs,H,h=>by simpa[rens,Sms] using h
 |s::r,vs,H,h=>by
  simp only[rens,Sms,Sym.los] at H h ⊢;obtain⟨v,vs',rfl,G,h2⟩:=h;exact⟨v,vs',rfl,yoi hβ H.1 G,zhm hβ H.2 h2⟩
end
mutual
theorem yk7(hρ:∀ i,i<m->ρ i<m'):∀ {s:Sym},Sym.lo m s->Sym.lo m' (ren ρ s)
 |.bp i o,H=>by simp only[ren,Sym.lo] at H ⊢;exact hρ i H
 |.ar i,H=>by simp only[ren,Sym.lo] at H ⊢;exact hρ i H
 |.ap i s j o,H=>by simp only[ren,Sym.lo] at H ⊢;exact hρ i H
 |.aS i s j o,H=>by simp only[ren,Sym.lo] at H ⊢;exact hρ i H
 |.av i s j o,H=>by simp only[ren,Sym.lo] at H ⊢;exact hρ i H
 |.yd i,H=>by simp only[ren,Sym.lo] at H ⊢;exact hρ i H
 |.mp i,H=>by simp only[ren,Sym.lo] at H ⊢;exact hρ i H
 |.tup l,H=>by simp only[ren,Sym.lo] at H ⊢;exact zpw hρ H
 |.agg l,H=>by simp only[ren,Sym.lo] at H ⊢;exact zpw hρ H
 |.fn f l,H=>by simp only[ren,Sym.lo] at H ⊢;exact zpw hρ H
 |.d x,H=>by simp[ren,Sym.lo]
 |.nils,H=>by simp[ren,Sym.lo]
 |.junk,H=>by simp[ren,Sym.lo]
theorem zpw(hρ:∀ i,i<m->ρ i<m'):∀ {l:List Sym},Sym.los m l->Sym.los m' (rens ρ l)
 | [],H=>by simp[rens,Sym.los]
 |s::r,H=>by simp only[rens,Sym.los] at H ⊢;exact⟨yk7 hρ H.1,zpw hρ H.2⟩
end
theorem yf7(hρ:∀ i,i<m->ρ i<m'){o:Obj'}(h:o.lo m):(zet ρ o).lo m':=by
 cases o with
 |box T cells=>exact zpw hρ h
 |arr=>trivial
 |map=>trivial
 |raw k cells=>exact zpw hρ h
theorem yf8{N N':Nat->Prop}(hβ:∀ i,i<m->β' (ρ i)=β i)(H:∀ b,N b->N' b){i:Nat}(hi:i<m){o:Obj'}(G:o.lo m)(h:zdi w N E β i o):zdi w N' E β' (ρ i) (zet ρ o):=by
 cases o with
 |box T cells=>
  obtain⟨b,vs,F,h2,K,J,L⟩:=h;exact⟨b,vs,by rw[hβ i hi];exact F,H b h2,K,zpv hβ G J,L⟩
 |arr T sz rows=>
  obtain⟨xs,F,h2,K⟩:=h;exact⟨xs,by rw[hβ i hi];exact⟨F.1,λb M=>⟨H b (F.2 b M).1,(F.2 b M).2⟩⟩,h2,K⟩
 |map T rows=>
  obtain⟨r,es,clock,F,h2,K,J⟩:=h;exact⟨r,es,clock,by rw[hβ i hi];exact F,H r h2,K,J⟩
 |raw k cells=>
  obtain⟨b,fn,D,vs,F,h2,K,J⟩:=h;exact⟨b,fn,D,vs,by rw[hβ i hi];exact F,H b h2,K,zpv hβ G J⟩
theorem yf9{N N':Nat->Prop}(hβ:∀ i,i<m->β' (ρ i)=β i){i:Nat}(hi:i<m)(H:∀ b,blk (β i)=some b->N' b){o:Obj'}(G:o.lo m)(h:zdi w N E β' (ρ i) (zet ρ o)):zdi w N' E β i o:=by
 cases o with
 |box T cells=>
  obtain⟨b,vs,F,h2,K,J,L⟩:=h;rw[hβ i hi] at F;exact⟨b,vs,F,H b (by rw[F];rfl),K,zhm hβ G J,L⟩
 |arr T sz rows=>
  obtain⟨xs,F,h2,K⟩:=h;rw[hβ i hi] at F;exact⟨xs,⟨F.1,λb M=>⟨H b M,(F.2 b M).2⟩⟩,h2,K⟩
 |map T rows=>
  obtain⟨r,es,clock,F,h2,K,J⟩:=h;rw[hβ i hi] at F;exact⟨r,es,clock,F,H r (by rw[F];rfl),K,J⟩
 |raw k cells=>
  obtain⟨b,fn,D,vs,F,h2,K,J⟩:=h;rw[hβ i hi] at F;exact⟨b,fn,D,vs,F,H b (by rw[F];exact k.zj5 b),K,zhm hβ G J⟩
end
mutual
def za8(M:List Nat):Sym->Sym
 |.ar i=>if i∈M then .junk else .ar i
 |.ap i s j o=>if i∈M then .junk else .ap i s j o
 |.aS i s j o=>if i∈M then .junk else .aS i s j o
 |.av i s j o=>if i∈M then .junk else .av i s j o
 |.yd i=>if i∈M then .junk else .yd i
 |.bp i o=>if i∈M then .junk else .bp i o
 |.mp i=>if i∈M then .junk else .mp i
 |.agg l=>.agg (zc3 M l)
 |.tup l=>.tup (zc3 M l)
 |.fn f l=>.fn f (zc3 M l)
 |.d x=>.d x
 |.nils=>.nils
 |.junk=>.junk
def zc3(M:List Nat):List Sym->List Sym
 | []=>[]
 |s::r=>za8 M s::zc3 M r
end
def zif(M:List Nat):Obj'->Obj'
 |.box T cells=>.box T (zc3 M cells)
 |.arr T sz rs=>.arr T sz rs
 |.map T rs=>.map T rs
 |.raw k cells=>.raw k (zc3 M cells)
def zc6(M:List Nat):List (Nat×Sym)->List (Nat×Sym)
 | []=>[]
 |(t,s)::r=>(t,za8 M s)::zc6 M r
section
variable {M:List Nat} {β β':Nat->Value} {w w':World} {E E':Nat->Prop} {m:Nat}
mutual
theorem z1s:∀ {s:Sym},Sym.lo m s->Sym.lo m (za8 M s)
 |.ar i,h=>by simp only[za8];split <;> simp_all[Sym.lo]
 |.ap i s j o,h=>by simp only[za8];split <;> simp_all[Sym.lo]
 |.aS i s j o,h=>by simp only[za8];split <;> simp_all[Sym.lo]
 |.av i s j o,h=>by simp only[za8];split <;> simp_all[Sym.lo]
 |.yd i,h=>by simp only[za8];split <;> simp_all[Sym.lo]
 |.bp i o,h=>by simp only[za8];split <;> simp_all[Sym.lo]
 |.mp i,h=>by simp only[za8];split <;> simp_all[Sym.lo]
 |.agg l,h=>by simp only[za8,Sym.lo] at h ⊢;exact zgb h
 |.tup l,h=>by simp only[za8,Sym.lo] at h ⊢;exact zgb h
 |.fn f l,h=>by simp only[za8,Sym.lo] at h ⊢;exact zgb h
 |.d x,h=>by simpa[za8] using h
 |.nils,h=>by simpa[za8] using h
 |.junk,h=>by simpa[za8] using h
theorem zgb:∀ {l:List Sym},Sym.los m l->Sym.los m (zc3 M l)
 | [],h=>by simpa[zc3] using h
 |s::r,h=>by simp only[zc3,Sym.los] at h ⊢;exact⟨z1s h.1,zgb h.2⟩
end
mutual
theorem z1t(hβ:∀ i,i<m->i∉M->β' i=β i)(H:Over w E w' E'):∀ {s:Sym} {v:Value},Sym.lo m s->Sm w E β s v->Sm w' E' β' (za8 M s) v
 |.ar i,v,G,h=>by
  simp only[za8];split
  .simp[Sm]
  .rename_i hi;simp only[Sm,Sym.lo] at G h ⊢;rw[hβ i G hi];exact h
 |.ap i s j o,v,G,h=>by
  simp only[za8];split
  .simp[Sm]
  .rename_i hi;simp only[Sm,Sym.lo] at G h ⊢;rw[hβ i G hi];exact h
 |.aS i s j o,v,G,h=>by
  simp only[za8];split
  .simp[Sm]
  .rename_i hi;simp only[Sm,Sym.lo] at G h ⊢;rw[hβ i G hi];exact h
 |.av i s j o,v,G,h=>by
  simp only[za8];split
  .simp[Sm]
  .rename_i hi;simp only[Sm,Sym.lo] at G h ⊢;rw[hβ i G hi];exact h
 |.yd i,v,G,h=>by
  simp only[za8];split
  .simp[Sm]
  .rename_i hi;simp only[Sm,Sym.lo] at G h ⊢;rw[hβ i G hi];exact h
 |.bp i o,v,G,h=>by
  simp only[za8];split
  .simp[Sm]
  .rename_i hi;simp only[Sm,Sym.lo] at G h ⊢;rw[hβ i G hi];exact h
 |.mp i,v,G,h=>by
  simp only[za8];split
  .simp[Sm]
  .rename_i hi;simp only[Sm,Sym.lo] at G h ⊢;rw[hβ i G hi];exact h
 |.agg l,v,G,h=>by
  simp only[za8,Sm,Sym.lo] at G h ⊢;obtain⟨vs,rfl,F,h2⟩:=h;exact⟨vs,rfl,zgc hβ H G F,h2⟩
 |.tup l,v,G,h=>by
  simp only[za8,Sm,Sym.lo] at G h ⊢;obtain⟨vs,rfl,F⟩:=h;exact⟨vs,rfl,zgc hβ H G F⟩
 |.fn f l,v,G,h=>by
  simp only[za8,Sm,Sym.lo] at G h ⊢;obtain⟨vs,rfl,F⟩:=h;exact⟨vs,rfl,zgc hβ H G F⟩
 |.d x,v,G,h=>by simp only[za8,Sm] at h ⊢;exact R.over H _ _ h
 |.nils,v,G,h=>by simpa[za8,Sm] using h
 |.junk,v,G,h=>by simp[za8,Sm]
theorem zgc(hβ:∀ i,i<m->i∉M->β' i=β i)(H:Over w E w' E'):∀ {l:List Sym} {vs:List Value},Sym.los m l->Sms w E β l vs->Sms w' E' β' (zc3 M l) vs
 | [],vs,G,h=>by simpa[zc3,Sms] using h
 |s::r,vs,G,h=>by
  simp only[zc3,Sms,Sym.los] at G h ⊢;obtain⟨v,vs',rfl,F,h2⟩:=h;exact⟨v,vs',rfl,z1t hβ H G.1 F,zgc hβ H G.2 h2⟩
end
theorem zji:∀ {l:List (Nat×Sym)} {t:Nat} {s:Sym},zac (zc6 M l) t=some s->∃ s',zac l t=some s'/\s=za8 M s'
 | [],t,s,h=>by simp[zc6,zac] at h
 |(k,u)::r,t,s,h=>by
  simp only[zc6,zac] at h ⊢;split at h
  .rename_i e;simp at h;exact⟨u,by simp[e],h.symm⟩
  .rename_i e;simp only[e,if_false];exact zji h
theorem z1u{o:Obj'}(h:o.lo m):(zif M o).lo m:=by
 cases o with
 |box T cells=>exact zgb h
 |arr=>trivial
 |map=>trivial
 |raw k cells=>exact zgb h
theorem z1v{N:Nat->Prop}(hβ:∀ i,i<m->i∉M->β' i=β i)(H:Over w E w' E'){id:Nat}(hid:β' id=β id){o:Obj'}(G:o.lo m)
  (F:∀ b,blk (β id)=some b->w'.heap[b]?=w.heap[b]?) (h:zdi w N E β id o):zdi w' N E' β' id (zif M o):=by
 cases o with
 |box T cells=>
  obtain⟨b,vs,K,h2,J,L,O⟩:=h;exact⟨b,vs,by rw[hid];exact K,h2,by rw[F b (by rw[K];rfl)];exact J,zgc hβ H G L,O⟩
 |arr T sz rows=>
  obtain⟨xs,K,h2,J⟩:=h;exact⟨xs,by rw[hid];exact Owns.same K F,zah.over H _ _ h2,J⟩
 |map T rows=>
  obtain⟨r,es,clock,K,h2,J,L⟩:=h;exact⟨r,es,clock,by rw[hid];exact K,h2,by rw[F r (by rw[K];rfl)];exact J,zdb.over H _ _ L⟩
 |raw k cells=>
  obtain⟨b,fn,D,vs,K,h2,J,L⟩:=h;exact⟨b,fn,D,vs,by rw[hid];exact K,h2,by rw[F b (by rw[K];exact k.zj5 b)];exact J,zgc hβ H G L⟩
end
end Go.V
namespace Go.V
variable [Dr] [Ov]
open Go.RowKit
def act0:Act:={tmps:=#[],defers:=[]}
def zbt(own:List (Nat×Obj'))(n nx:Nat)(mv:List Nat):St:={n:=0,next:=nx,slots:=[],own:=own,base:=n,moved:=mv}
def zbl(P:Program)(f:Nat)(args:List Sym)(own:List (Nat×Obj'))(n:Nat)(s:Sym)(nx:Nat)(own':List (Nat×Obj'))(mv:List Nat):Prop:=
 callable P f=true/\∀ (X:Nat->Prop) (w0:Base) (β:Nat->Value) (w:World) (vs:List Value),w0.β0=β->Mods X w0 (zbt own n n []) β act0 w->Sms w (Ex X β own) β args vs ->
  Calls P f vs.toArray w λe w'=>∃ β' v,e = .returned v/\Mods X w0 (zbt own' n nx mv) β' act0 w'/\Sym.lo nx s/\Sm w' (Ex X β' own') β' s v
def rho(ids:List Nat)(i:Nat):Nat:=ids.getD i 0
def rho'(ids:List Nat)(nx i:Nat):Nat:=if i<ids.length then ids.getD i 0 else nx+(i-ids.length)
def zkj(ρ:Nat->Nat):List (Nat×Obj')->List (Nat×Obj')
 | []=>[]
 |(i,o)::r=>(ρ i,zet ρ o)::zkj ρ r
def zfc(ids M:List Nat):List (Nat×Obj')->List (Nat×Obj')
 | []=>[]
 |(i,o)::r=>if i∈ids then zfc ids M r else (i,zif M o)::zfc ids M r
def zt6(st:St)(ids:List Nat):List (Nat×Obj')->Prop
 | []=>True
 |(i,o)::r=>(match st.look (rho ids i) with |some o'=>o'=zet (rho ids) o |none=>False)/\o.lo ids.length/\zt6 st ids r
def Fits(st:St)(ids:List Nat)(own:List (Nat×Obj')):Prop:=ids.Nodup/\(∀ id∈ids,id<st.next)/\own.map (·.1)=List.range ids.length/\zt6 st ids own
def St.after(st:St)(ids:List Nat)(nx:Nat)(own':List (Nat×Obj'))(mv:List Nat):St:=
 {st with next:=st.next+(nx-ids.length),slots:=zc6 (mv.map (rho' ids st.next)) st.slots,own:=zkj (rho' ids st.next) own'++zfc ids (mv.map (rho' ids st.next)) st.own,moved:=mv.map (rho' ids st.next)++st.moved}
theorem zfd{ρ:Nat->Nat}:∀ {l:List (Nat×Obj')} {i:Nat} {o:Obj'},(i,o)∈zkj ρ l->∃ j o',(j,o')∈l/\i=ρ j/\o=zet ρ o'
 | [],i,o,h=>by cases h
 |(j,o')::r,i,o,h=>by
  simp only[zkj] at h;rcases List.mem_cons.1 h with e | h
  .cases e;exact⟨j,o',by simp,rfl,rfl⟩
  .obtain⟨k,x,H,h2⟩:=zfd h;exact⟨k,x,List.mem_cons_of_mem _ H,h2⟩
theorem zms{ρ:Nat->Nat}:∀ (l:List (Nat×Obj')),(zkj ρ l).map (·.1)=(l.map (·.1)).map ρ
 | []=>rfl
 |(j,o')::r=>by simp only[zkj,List.map_cons,zms r]
theorem zwu{ρ:Nat->Nat}:∀ {l:List (Nat×Obj')} {i:Nat} {o:Obj'},(i,o)∈l->(ρ i,zet ρ o)∈zkj ρ l
 |(j,o')::r,i,o,h=>by
  simp only[zkj];rcases List.mem_cons.1 h with e | h
  .cases e;simp
  .exact List.mem_cons_of_mem _ (zwu h)
theorem zcx{ids M:List Nat}:∀ {l:List (Nat×Obj')} {i:Nat} {o:Obj'},(i,o)∈zfc ids M l->i∉ids/\∃ o',(i,o')∈l/\o=zif M o'
 | [],i,o,h=>by cases h
 |(j,o')::r,i,o,h=>by
  simp only[zfc] at h;split at h
  .obtain⟨H,x,h2,G⟩:=zcx h;exact⟨H,x,List.mem_cons_of_mem _ h2,G⟩
  .rename_i F
   rcases List.mem_cons.1 h with e | h
   .cases e;exact⟨F,o',by simp,rfl⟩
   .obtain⟨H,x,h2,G⟩:=zcx h;exact⟨H,x,List.mem_cons_of_mem _ h2,G⟩
theorem zmt{ids M:List Nat}:∀ {l:List (Nat×Obj')} {i:Nat} {o:Obj'},i∉ids->(i,o)∈l->(i,zif M o)∈zfc ids M l
 |(j,o')::r,i,o,hi,h=>by
  simp only[zfc];rcases List.mem_cons.1 h with e | h
  .cases e;rw[if_neg hi];simp
  .split
   .exact zmt hi h
   .exact List.mem_cons_of_mem _ (zmt hi h)
theorem zi1{ids M:List Nat}:∀ {l:List (Nat×Obj')},(l.map (·.1)).Nodup->((zfc ids M l).map (·.1)).Nodup
 | [],_=>by simp[zfc]
 |(j,o')::r,hn=>by
  simp only[List.map_cons,List.nodup_cons] at hn;simp only[zfc];split
  .exact zi1 hn.2
  .simp only[List.map_cons,List.nodup_cons]
   refine⟨λh=>hn.1 ?_,zi1 hn.2⟩
   obtain⟨⟨i,o⟩,H,e⟩:=List.mem_map.1 h;obtain⟨_,x,h2,_⟩:=zcx H;exact List.mem_map.2 ⟨(i,x),h2,e⟩
section
variable {P:Program} {X:Nat->Prop} {w0:Base} {st:St} {β:Nat->Value} {a:Act} {w w':World} {ids:List Nat} {own0:List (Nat×Obj')}
theorem zgd:∀ {l:List (Nat×Obj')} {i:Nat} {o:Obj'},zt6 st ids l->(i,o)∈l->st.look (rho ids i)=some (zet (rho ids) o)/\o.lo ids.length
 |(j,o')::r,i,o,H,h=>by
  simp only[zt6] at H;rcases List.mem_cons.1 h with e | h
  .cases e
   refine⟨?_,H.2.1⟩
   have:=H.1
   split at this
   .rename_i x hx;rw[hx,this]
   .exact this.elim
  .exact zgd H.2.2 h
theorem Fits.lt(H:Fits st ids own0){i:Nat}{o:Obj'}(h:(i,o)∈own0):i<ids.length:=by
 have:i∈own0.map (·.1):=List.mem_map.2 ⟨(i,o),h,rfl⟩
 rw[H.2.2.1] at this
 exact List.mem_range.1 this
theorem zpx{i:Nat}(h:i<ids.length):rho ids i∈ids:=by
 unfold rho;rw[List.getD_eq_getElem?_getD,List.getElem?_eq_getElem h];exact List.getElem_mem h
theorem zpy(H:ids.Nodup){i:Nat}(h:i<ids.length):ids.idxOf (rho ids i)=i:=by
 unfold rho;rw[List.getD_eq_getElem?_getD,List.getElem?_eq_getElem h]
 exact H.idxOf_getElem i h
theorem zyy{id:Nat}(h:id∈ids):rho ids (ids.idxOf id)=id/\ids.idxOf id<ids.length:=by
 have H:ids.idxOf id<ids.length:=List.idxOf_lt_length_of_mem h
 refine⟨?_,H⟩
 unfold rho;rw[List.getD_eq_getElem?_getD,List.getElem?_eq_getElem H]
 simp
theorem Mods.may(H:Mods X w0 st β a w){id:Nat}{o:Obj'}(h:(id,o)∈st.own){b:Nat}(G:blk (β id)=some b):w0.may b:=by
 obtain⟨_,_,F⟩:=H.own id o h
 cases o with
 |box T cells=>
  obtain⟨b',vs,E,h2,_⟩:=F;rw[E] at G;simp[blk] at G;subst G;exact h2
 |arr T sz rows=>
  obtain⟨xs,E,_⟩:=F;exact(E.2 b G).1
 |map T rows=>
  obtain⟨r,es,clock,E,h2,_⟩:=F;rw[E] at G;simp[blk] at G;subst G;exact h2
 |raw k cells=>
  obtain⟨b',fn,D,vs,E,h2,_⟩:=F;rw[E,RK.zj5] at G;cases G;exact h2
def yk8(β:Nat->Value)(ids:List Nat)(b:Nat):Prop:=∃ id,id∈ids/\blk (β id)=some b
def outOf(X:Nat->Prop)(β:Nat->Value)(ids:List Nat)(own:List (Nat×Obj'))(b:Nat):Prop:=X b\/∃ id o,(id,o)∈own/\id∉ids/\blk (β id)=some b
theorem Fits.has(H:Fits st ids own0){i:Nat}(h:i<ids.length):∃ o,(i,o)∈own0:=by
 have:i∈own0.map (·.1):=by rw[H.2.2.1];exact List.mem_range.2 h
 obtain⟨⟨j,o⟩,G,rfl⟩:=List.mem_map.1 this
 exact⟨o,G⟩
theorem Fits.ex(F:Fits st ids own0)(b:Nat):Ex (outOf X β ids st.own) (λi=>β (rho ids i)) own0 b↔Ex X β st.own b:=by
 constructor
 .rintro((h | ⟨id,o,E,h2,K⟩) | ⟨i,o,E,h2⟩)
  .exact .inl h
  .exact .inr ⟨id,o,E,K⟩
  .have:=(zgd F.2.2.2 E).1
   exact .inr ⟨_,_,za0 this,h2⟩
 .rintro(h | ⟨id,o,E,h2⟩)
  .exact .inl (.inl h)
  .by_cases hid:id∈ids
   .obtain⟨e,H⟩:=zyy hid
    obtain⟨o',G⟩:=F.has H;exact .inr ⟨_,o',G,by show blk (β (rho ids _))=some b;rw[e];exact h2⟩
   .exact .inl (.inr ⟨id,o,E,hid,h2⟩)
theorem Fits.inv(G:Fits st ids own0){id:Nat}(h:id∈ids):∃ o,(id,o)∈st.own:=by
 obtain⟨e,H⟩:=zyy h
 obtain⟨o,F⟩:=G.has H
 have:=(zgd G.2.2.2 F).1
 rw[e] at this
 exact⟨_,za0 this⟩
def inBase(β:Nat->Value)(ids:List Nat)(w:World):Base:=⟨w,yk8 β ids,λi=>β (rho ids i),[]⟩
theorem Mods.zt7(E:Mods X w0 st β a w)(K:Fits st ids own0):
  Mods (outOf X β ids st.own) (inBase β ids w) (zbt own0 ids.length ids.length []) (λi=>β (rho ids i)) act0 w:=by
 have J:Ex (outOf X β ids st.own) (λi=>β (rho ids i)) own0=Ex X β st.own:=funext λb=>propext (K.ex b)
 refine⟨⟨?_,?_⟩,⟨Nat.le_refl _,λi _ _=>rfl⟩,λi=>E.one _,rfl,rfl,Kept.refl _,?_,?_,?_,?_⟩
 .intro b L G
  have H:b<w.heap.size:=by
   rcases L with h | ⟨id,o,M,_,O⟩
   .exact E.lt b (.inl h)
   .exact E.lt b (.inr ⟨id,o,M,O⟩)
  rcases G with h | ⟨id,M,h2⟩
  .have:w.heap.size<=b:=h;omega
  .obtain⟨o,Q⟩:=K.inv M
   rcases L with h | ⟨id',o',O,T,V⟩
   .exact E.outer.1 b h (E.may Q h2)
   .have:=E.apart id o id' o' b Q O h2 V
    subst this;exact T M
 .refine E.glob.over (Over.less λb L=>?_)
  rcases L with(h | ⟨id,o,M,_,O⟩) | ⟨id,M,h2⟩
  .exact .inl h
  .exact .inr ⟨id,o,M,O⟩
  .obtain⟨o,Q⟩:=K.inv M
   exact .inr ⟨_,o,Q,h2⟩
 .show(own0.map (·.1)).Nodup
  rw[K.2.2.1];exact List.nodup_range
 .intro i o F
  have H:=K.lt F;obtain⟨M,h2⟩:=zgd K.2.2.2 F;refine⟨H,h2,?_⟩
  show zdi w (inBase β ids w).may (Ex (outOf X β ids st.own) (λi=>β (rho ids i)) own0) _ i o
  rw[J];exact yf9 (m:=ids.length) (λ_ _=>rfl) H (λb L=>.inr ⟨_,zpx H,L⟩) h2 (E.obj M).2.2
 .intro i o j o' b M h2 e1 e2
  have g1:=za0 (zgd K.2.2.2 M).1;have g2:=za0 (zgd K.2.2.2 h2).1;have:=E.apart _ _ _ _ b g1 g2 e1 e2
  rw[<-zpy K.1 (K.lt M),<-zpy K.1 (K.lt h2),this]
 .intro t s ht;simp[zbt,zac] at ht
def zlo(β β1:Nat->Value)(ids:List Nat)(nx:Nat)(id:Nat):Value:=
 if id∈ids then β1 (ids.idxOf id) else if id<nx then β id else β1 (ids.length+(id-nx))
theorem z1w{β1:Nat->Value}(H:Fits st ids own0)(i:Nat):zlo β β1 ids st.next (rho' ids st.next i)=β1 i:=by
 unfold zlo rho'
 by_cases h:i<ids.length
 .rw[if_pos h]
  have:=zpx h
  unfold rho at this;rw[if_pos this];have:=zpy H.1 h
  unfold rho at this;rw[this]
 .rw[if_neg h]
  have G:st.next+(i-ids.length)∉ids:=λhi=>by have:=H.2.1 _ hi;omega
  rw[if_neg G,if_neg (by omega)]
  congr 1;omega
theorem yjt(H:Fits st ids own0){i j:Nat}(h:rho' ids st.next i=rho' ids st.next j):i=j:=by
 unfold rho' at h
 by_cases hi:i<ids.length <;> by_cases G:j<ids.length
 .rw[if_pos hi,if_pos G] at h
  rw[<-zpy H.1 hi,<-zpy H.1 G];unfold rho;rw[h]
 .rw[if_pos hi,if_neg G] at h
  have:=H.2.1 _ (zpx hi)
  unfold rho at this;omega
 .rw[if_neg hi,if_pos G] at h
  have:=H.2.1 _ (zpx G)
  unfold rho at this;omega
 .rw[if_neg hi,if_neg G] at h;omega
theorem Mods.zoe(I:Mods X w0 st β a w)(N:Fits st ids own0){nx:Nat}{own':List (Nat×Obj')}{mv:List Nat}{β1:Nat->Value}
  (P:Mods (outOf X β ids st.own) (inBase β ids w) (zbt own' ids.length nx mv) β1 act0 w') :
  Mods X w0 (st.after ids nx own' mv) (zlo β β1 ids st.next) a w' /\
  (∀ s v,Sym.lo nx s->Sm w' (Ex (outOf X β ids st.own) β1 own') β1 s v->Sym.lo (st.after ids nx own' mv).next (ren (rho' ids st.next) s)/\Sm w' (Ex X (zlo β β1 ids st.next) (st.after ids nx own' mv).own) (zlo β β1 ids st.next) (ren (rho' ids st.next) s) v):=by
 have H:=λi=>z1w (β:=β) (β1:=β1) N i
 have C:ids.length<=nx:=P.still.1
 -- what has not moved
 have hβ:∀ id,id<st.next->id∉mv.map (rho' ids st.next)->zlo β β1 ids st.next id=β id:=by
  intro id K Y;unfold zlo;by_cases h:id∈ids
  .rw[if_pos h]
   obtain⟨e,S⟩:=zyy h;have:=P.still.2 (ids.idxOf id) S (λZ=>Y (List.mem_map.2 ⟨_,Z,by unfold rho';rw[if_pos S];exact e⟩))
   rw[this];show β (rho ids (ids.idxOf id))=β id
   rw[e]
  .rw[if_neg h,if_pos K]
 have G:∀ id,id<st.next->id∉ids->zlo β β1 ids st.next id=β id:=by
  intro id K h;unfold zlo;rw[if_neg h,if_pos K]
 have F:∀ b,(∃ i o,(i,o)∈own'/\blk (β1 i)=some b)->(inBase β ids w).may b:=by
  rintro b ⟨i,o,W,h2⟩
  exact P.may (st:=zbt own' ids.length nx mv) W h2
 have A:∀ b,Ex X (zlo β β1 ids st.next) (st.after ids nx own' mv).own b↔Ex (outOf X β ids st.own) β1 own' b:=by
  intro b;constructor
  .rintro(h | ⟨id,o,W,h2⟩)
   .exact .inl (.inl h)
   .rcases List.mem_append.1 W with W | W
    .obtain⟨i,o',h3,rfl,rfl⟩:=zfd W
     rw[H] at h2;exact .inr ⟨i,o',h3,h2⟩
    .obtain⟨h3,o',h4,rfl⟩:=zcx W
     rw[G id (I.own id o' h4).1 h3] at h2;exact .inl (.inr ⟨id,o',h4,h3,h2⟩)
  .rintro((h | ⟨id,o,W,h2,h3⟩) | ⟨i,o,W,h2⟩)
   .exact .inl h
   .exact .inr ⟨id,_,List.mem_append.2 (.inr (zmt h2 W)),by rw[G id (I.own id o W).1 h2];exact h3⟩
   .exact .inr ⟨_,_,List.mem_append.2 (.inl (zwu W)),by rw[H];exact h2⟩
 have hE:Ex X (zlo β β1 ids st.next) (st.after ids nx own' mv).own=Ex (outOf X β ids st.own) β1 own':=funext λb=>propext (A b)
 have E:∀ b,yk8 β ids b->Ex X β st.own b/\w0.may b:=by
  rintro b ⟨id,W,h2⟩
  obtain⟨o,ho⟩:=N.inv W;exact⟨.inr ⟨id,o,ho,h2⟩,I.may ho h2⟩
 have Q:Over w (Ex X β st.own) w' (Ex (outOf X β ids st.own) β1 own'):=by
  intro b K he;have T:¬(inBase β ids w).may b:=by
   rintro(h | h)
   .have:w.heap.size<=b:=h;omega
   .exact he (E b h).1
  refine⟨?_,P.below.block b T⟩
  rintro((h | ⟨id,o,W,h2,h3⟩) | h)
  .exact he (.inl h)
  .exact he (.inr ⟨id,o,W,h3⟩)
  .exact T (F b h)
 have L:∀ i,i<nx->rho' ids st.next i<st.next+(nx-ids.length):=by
  intro i hi;unfold rho';by_cases h:i<ids.length
  .rw[if_pos h]
   have:=N.2.1 _ (zpx h)
   unfold rho at this;omega
  .rw[if_neg h];omega
 have M:∀ id,(zlo β β1 ids st.next id).oneCell'=true:=by
  intro id;unfold zlo;split
  .exact P.one _
  .split
   .exact I.one _
   .exact P.one _
 have J:st.next<=st.next+(nx-ids.length):=Nat.le_add_right _ _
 have restSame:∀ id o,(id,o)∈st.own->id∉ids->∀ b,blk (β id)=some b->w'.heap[b]?=w.heap[b]?:=by
  intro id o W h2 b hb;exact P.below.block b (P.outer.1 b (.inr ⟨id,o,W,h2,hb⟩))
 refine⟨⟨I.outer,⟨Nat.le_trans I.still.1 J,?_⟩,M,I.defers,I.size,?_,?_,?_,?_,?_⟩,?_⟩
 .intro id W h2
  have V:id∉mv.map (rho' ids st.next)/\id∉st.moved:=by
   constructor
   .exact λh=>h2 (List.mem_append.2 (.inl h))
   .exact λh=>h2 (List.mem_append.2 (.inr h))
  exact(hβ id (Nat.lt_of_lt_of_le W I.still.1) V.1).trans (I.still.2 id W V.2)
 .refine I.below.turn P.below.os P.below.tape P.below.output P.below.size (λk hk hn=>P.below.block k ?_) P.below.drawn
  rintro(h | h)
  .have:w.heap.size<=k:=h;omega
  .exact hn (E k h).2
 .show((zkj (rho' ids st.next) own'++zfc ids _ st.own).map (·.1)).Nodup
  rw[List.map_append,List.nodup_append];refine⟨?_,zi1 I.keys,?_⟩
  .rw[zms]
   have:(own'.map (·.1)).Nodup:=P.keys
   exact List.Pairwise.map _ (λp q B e=>B (yjt N e)) this
  .intro p hp q hq e
   subst e;rw[zms] at hp;obtain⟨i,_,rfl⟩:=List.mem_map.1 hp;obtain⟨⟨id,o⟩,W,h2⟩:=List.mem_map.1 hq;obtain⟨h3,o',h4,_⟩:=zcx W;have K:=(I.own id o' h4).1;have e:id=rho' ids st.next i:=h2
   unfold rho' at e;by_cases h:i<ids.length
   .rw[if_pos h] at e
    have:=zpx h
    unfold rho at this;rw[<-e] at this;exact h3 this
   .rw[if_neg h] at e;omega
 .intro id o O
  rw[hE];rcases List.mem_append.1 O with W | W
  .obtain⟨i,o',h3,rfl,rfl⟩:=zfd W
   obtain⟨q1,q2,q3⟩:=P.own i o' h3;refine⟨L i q1,yf7 L q2,yf8 (m:=nx) (λi _=>H i) ?_ q1 q2 q3⟩
   rintro b (h | h)
   .exact .inl (Nat.le_trans I.below.size h)
   .exact(E b h).2
  .obtain⟨h3,o',h4,rfl⟩:=zcx W
   obtain⟨q1,q2,q3⟩:=I.own id o' h4;exact⟨Nat.lt_of_lt_of_le q1 J,Obj'.ze9 J (z1u q2),z1v hβ Q (G id q1 h3) q2 (restSame id o' h4 h3) q3⟩
 .intro i o j o2 b W h2 e1 e2
  rcases List.mem_append.1 W with W | W <;> rcases List.mem_append.1 h2 with h2 | h2
  .obtain⟨i',o',h3,rfl,rfl⟩:=zfd W
   obtain⟨j',o'',h4,rfl,rfl⟩:=zfd h2;rw[H] at e1 e2;rw[P.apart i' o' j' o'' b h3 h4 e1 e2]
  .obtain⟨i',o',h3,rfl,rfl⟩:=zfd W
   obtain⟨h5,o'',h4,rfl⟩:=zcx h2;rw[H] at e1;rw[G j (I.own j o'' h4).1 h5] at e2;exact absurd (F b ⟨i',o',h3,e1⟩) (P.outer.1 b (.inr ⟨j,o'',h4,h5,e2⟩))
  .obtain⟨i',o',h3,rfl,rfl⟩:=zfd h2
   obtain⟨h5,o'',h4,rfl⟩:=zcx W;rw[H] at e2;rw[G i (I.own i o'' h4).1 h5] at e1;exact absurd (F b ⟨i',o',h3,e2⟩) (P.outer.1 b (.inr ⟨i,o'',h4,h5,e1⟩))
  .obtain⟨h5,o'',h4,rfl⟩:=zcx W
   obtain⟨h6,o3,h7,rfl⟩:=zcx h2;rw[G i (I.own i o'' h4).1 h5] at e1;rw[G j (I.own j o3 h7).1 h6] at e2;exact I.apart i o'' j o3 b h4 h7 e1 e2
 .intro t s ht
  rw[hE];obtain⟨s',W,rfl⟩:=zji ht;obtain⟨q1,q2⟩:=I.slots t s' W;exact⟨Sym.ze9 J (z1s q1),z1t hβ Q q1 q2⟩
 .intro s v S hs
  rw[hE];exact⟨yk7 L S,yk6 (m:=nx) (λi _=>H i) S hs⟩
def EMut(P:Program)(st:St)(f:Operand)(xs:List Operand)(dst:Option Tmp)(K:St->Prop):Prop:=
 ∃ (g:Nat) (caps:List Sym) (ids:List Nat) (args0:List Sym) (own0:List (Nat×Obj')) (s:Sym) (nx:Nat) (own':List (Nat×Obj')) (mv:List Nat),
  zbm (st.val f)=some (g,caps)/\rens (rho ids) args0=xs.map st.val++caps/\Sym.los ids.length args0/\Fits st ids own0 /\
  zbl P g args0 own0 ids.length s nx own' mv/\K ((st.after ids nx own' mv).put dst (ren (rho' ids st.next) s))
theorem zlf(C:Mods X w0 st β a w){o:Oper}{f:Operand}{args:Array Operand}{ts:Array TypeId}(I:o.op = .call {callee:=.value f,args,argTypes:=ts})
  (S:∀ t,o.dst=some t->t<st.n) {K:St->Prop} (h:EMut P st f args.toList o.dst K):Goes P X w0 o a w K:=by
 obtain⟨g,caps,ids,args0,own0,s,nx,own',mv,W,H,O,hf,F,hk⟩:=h
 intro N Q hN
 obtain⟨G,hp⟩:=F
 have hv:=(C.val f).2
 obtain⟨cs,T,V⟩:∃ cs:List Value,a.eval f = .func (.func g) #[] cs.toArray/\Sms w (Ex X β st.own) β caps cs:=by
  cases hf:st.val f <;> rw[hf] at W hv <;> simp only[zbm] at W
  case d x=>
   cases x <;> simp only[zbm] at W
   case fn f' l=>
    simp at W;obtain⟨rfl,rfl⟩:=W
    simp only[Sm,R] at hv;obtain⟨vs,h1,h2⟩:=hv;exact⟨vs,h1,Sms.zd1 h2⟩
   all_goals cases W
  case fn f' l=>
   simp at W;obtain⟨rfl,rfl⟩:=W
   simp only[Sm] at hv;exact hv
  all_goals cases W
 have E:=(Sms.zly C args.toList).1
 have J:=Sms.append E V
 rw[<-H] at J
 have hE:Ex (outOf X β ids st.own) (λi=>β (rho ids i)) own0=Ex X β st.own:=funext λb=>propext (hf.ex b)
 have Y:=zhm (ρ:=rho ids) (β:=λi=>β (rho ids i)) (β':=β) (m:=ids.length) (λ_ _=>rfl) O J
 unfold callable at G
 cases L:P.funcs[g]? with
 |none=>simp[L] at G
 |some fn=>
  simp[L] at G;have M:(execOp a.eval o).run P w = .ok (.enter g (args.toList.map a.eval++cs).toArray) w:=by
   have e1:¬fn.body=none:=by intro e;rw[e] at G;simp at G
   have e3:Array.map a.eval args++cs.toArray=(List.map a.eval args.toList++cs).toArray:=by simp
   rw[<-e3];simp[execOp,I,resolve,T,Deferred.ofValue,invoke,callFunc,L,e1,G.1]
  unfold Oper.wp;rw[M];simp only[Oper.upon];refine(hp (outOf X β ids st.own) (inBase β ids w) (λi=>β (rho ids i)) w _ rfl (C.zt7 hf) (by rw[hE];exact Y)).mono λe w' he=>?_
  obtain⟨β1,v,rfl,Z,A,B⟩:=he;obtain⟨h1,h2⟩:=C.zoe hf Z;obtain⟨q1,q2⟩:=h2 s v A B;exact hN _ _ _ _ hk (h1.za1 S q1 q2)
end
end Go.V
namespace Go.V
variable [Dr] [Ov]
open Go.RowKit
def yju(id sz n:Nat):Sym->Sym
 |.ar i=>if i=id then .av id sz 0 n else .ar i
 |s=>za2 id s
def zih(id sz n:Nat):List (Nat×Sym)->List (Nat×Sym)
 | []=>[]
 |(t,s)::r=>(t,yju id sz n s)::zih id sz n r
def St.opened(st:St)(id sz n:Nat)(o:Obj'):St:={st with moved:=id::st.moved,slots:=zih id sz n st.slots,own:=zbz id o st.own}
def eCap(P:Program)(st:St)(dst:Option Tmp)(t:Nat)(x:Sym)(K:St->Prop):Prop:=
 match TI.of P t,x with
 |some ⟨.slice e,_,_,_,_⟩,.ar id=>match st.look id with
  |some (.arr T sz rows)=>0<rows.length/\∀ junk:List (List D),(∀ r∈junk,r.length=sz)->rows.length+junk.length<=maxLen ->
    K ((st.opened id sz rows.length (.arr T sz (rows++junk))).put dst (.d (.int .i64 ((rows.length+junk.length:Nat):Int))))
  |_=>False
 |_,_=>False
def chunks{α:Type}(sz:Nat):Nat->List α->List (List α)
 |0,_=>[]
 |k+1,l=>l.take sz::chunks sz k (l.drop sz)
theorem zwv{α:Type}{sz:Nat}:∀ {k:Nat} {l:List α},(chunks sz k l).length=k
 |0,_=>rfl
 |k+1,l=>by simp[chunks,zwv]
theorem zt8{α:Type}{sz:Nat}:∀ {k:Nat} {l:List α},l.length=k*sz->(chunks sz k l).flatten=l
 |0,l,h=>by simp at h;subst h;rfl
 |k+1,l,h=>by
  simp only[chunks,List.flatten_cons];rw[zt8 (k:=k) (by rw[List.length_drop,h,Nat.add_mul];omega),List.take_append_drop]
theorem zww{α:Type}{sz:Nat}:∀ {k:Nat} {l:List α},l.length=k*sz->∀ r∈chunks sz k l,r.length=sz
 |0,_,_,r,H=>by simp[chunks] at H
 |k+1,l,h,r,H=>by
  simp only[chunks] at H;have G:l.length=k*sz+sz:=by rw[h,Nat.add_mul];omega
  rcases List.mem_cons.1 H with e | H
  .subst e;simp;omega
  .exact zww (k:=k) (by rw[List.length_drop];omega) r H
theorem z1x{w:World}{E:Nat->Prop}:∀ {l:List Value},(∀ v∈l,v.oneCell'=true)->zah w E (l.map D.val) l
 | [],_=>by simp[zah]
 |v::r,h=>by
  simp only[List.map_cons,zah];exact⟨v,r,rfl,h v (by simp),by simp[R],z1x λu hu=>h u (by simp[hu])⟩
section
variable {P:Program} {X:Nat->Prop} {w0:Base} {st:St} {β:Nat->Value} {a:Act} {w w':World} {E:Nat->Prop} {m:Nat} {k:Sym->Prop}
theorem zwx(G:Mods X w0 st β a w)(H:Below w.heap.size w w'){n c:Nat}:Over w (Ex X β st.own) w' (λb=>Ex X β st.own b\/blk (.slice (some ⟨w.heap.size,0,none⟩) n c)=some b):=by
 intro b F E
 refine⟨λh=>h.elim E (λh=>by simp[blk] at h;omega),H.block b F⟩
theorem z5z(Y:Mods X w0 st β a w){id T sz:Nat}{rows:List (List D)}(F:st.look id=some (.arr T sz rows))(O:0<rows.length):∃ (b cap:Nat) (cur:Array Value) (xs:List Value),
  β id = .slice (some ⟨b,0,none⟩) rows.length cap/\w.heap[b]?=some (.cells cur T (0,0))/\rows.length<=cap/\cap<=maxLen/\cur.size=cap*sz/\(∀ u∈cur.toList,u.oneCell'=true) /\
  xs=cur.toList.take (rows.length*sz)/\zah w (Ex X β st.own) rows.flatten xs/\(∀ r∈rows,r.length=sz)/\w0.may b/\w.ownsRow 0 T sz (β id) rows.length xs:=by
 obtain⟨hid,Q,xs,Z,E,K⟩:=Y.obj F
 have J:=Z.1
 rcases Z.1.2 with⟨A,B⟩ | ⟨g,cap,cur,C,V,I,H,L,M,G⟩
 .omega
 .have h2:=Z.2 g (by rw[C];rfl)
  exact⟨g,cap,cur,xs,C,I,H,L,M,h2.2 _ _ _ I,G.symm,E,K,h2.1,J⟩
theorem zl2{id sz n:Nat}:∀ {l:List (Nat×Sym)} {t:Nat} {s:Sym},zac (zih id sz n l) t=some s->∃ s',zac l t=some s'/\s=yju id sz n s'
 | [],t,s,h=>by simp[zih,zac] at h
 |(k,u)::r,t,s,h=>by
  simp only[zih,zac] at h ⊢;split at h
  .rename_i e;simp at h;exact⟨u,by simp[e],h.symm⟩
  .rename_i e;simp only[e,if_false];exact zl2 h
theorem zl3{id:Nat}:∀ {l:List (Nat×Sym)} {t:Nat} {s:Sym},zac l t=some s->zac (zav id l) t=some (za2 id s)
 | [],t,s,h=>by simp[zac] at h
 |(k,u)::r,t,s,h=>by
  simp only[zav,zac] at h ⊢;split at h
  .rename_i e;simp at h;subst h;simp[e]
  .rename_i e;simp only[e,if_false];exact zl3 h
theorem ybz(hm:Mods X w0 st β a w){o:Oper}{t:Nat}{x:Operand}(ho:o.op = .call {callee:=.builtin .cap,args:=#[x],argTypes:=#[t]})(hd:∀ t,o.dst=some t->t<st.n){K:St->Prop}
  (h:eCap P st o.dst t (st.val x) K):Goes P X w0 o a w K:=by
 unfold eCap at h
 split at h
 .rename_i e _ _ _ _ id ht hxs
  obtain⟨i,u,z,hi,hu,hz,H0,_⟩:=zay ht;have:=zbb H0.symm;subst this
  split at h
  .rename_i T sz rows C
   obtain⟨V,h⟩:=h;have Y:=(hm.val x).2;rw[hxs] at Y;simp only[Sm] at Y;obtain⟨b,cap,cur,xs,hβ,hh,O,I,N,J,Z,H1,H2,A,H5⟩:=z5z hm C V;have L:cur.toList.length=cap*sz:=by simpa using N
   obtain⟨rest,H⟩:∃ rest,rest=cur.toList.drop (rows.length*sz):=⟨_,rfl⟩;have H6:rows.length*sz<=cap*sz:=Nat.mul_le_mul_right _ O
   have S:(rest.map D.val).length=(cap-rows.length)*sz:=by rw[H,List.length_map,List.length_drop,L,Nat.sub_mul]
   have W:=zww (sz:=sz) (k:=cap-rows.length) S;have H3:=zt8 (sz:=sz) (k:=cap-rows.length) S;have M:=zwv (sz:=sz) (k:=cap-rows.length) (l:=rest.map D.val);have hK:=h (chunks sz (cap-rows.length) (rest.map D.val)) W (by rw[M];omega)
   rw[M] at hK;have F:rows.length+(cap-rows.length)=cap:=by omega
   rw[F] at hK;have H7:Over w (Ex X β st.own) w (Ex X β st.own):=Over.refl _ _
   have G:=hm.renew (w':=w) (o':=.arr T sz (rows++chunks sz (cap-rows.length) (rest.map D.val))) C (v:=.slice (some ⟨b,0,none⟩) cap cap) rfl hm.below (λ_ _ _=>rfl)
    (λb' Q=>.inl (by rw[hβ];simpa[blk] using Q)) trivial (λE B hbE=>by
     refine⟨cur.toList,?_,?_,?_⟩
     .simp only[if_true]
      refine⟨⟨by simp only[List.length_append,M];rw[F];exact L,.inr ⟨b,cap,cur,by simp only[List.length_append,M];rw[F],Nat.zero_le _,hh,by simp only[List.length_append,M];omega,I,N,by
       rw[List.take_of_length_le];simp only[List.length_append,M];rw[F];omega⟩⟩,λb' Q=>?_⟩
      simp[blk] at Q;subst Q;exact⟨A,zcz.of hh J⟩
     .rw[List.flatten_append,H3]
      have h1:=zah.append (zah.over B _ _ H1) (z1x (w:=w) (E:=E) (l:=rest) (λv hv=>J v (by rw[H] at hv;exact List.mem_of_mem_drop hv)))
      rw[Z,H,List.take_append_drop,<-H] at h1;exact h1
     .intro r hr
      exact(List.mem_append.1 hr).elim (H2 r) (W r))
   have H4:Mods X w0 (st.opened id sz rows.length (.arr T sz (rows++chunks sz (cap-rows.length) (rest.map D.val)))) (λi=>if i=id then .slice (some ⟨b,0,none⟩) cap cap else β i) a w:=by
    refine⟨G.outer,G.still,G.one,G.defers,G.size,G.below,G.keys,G.own,G.apart,?_⟩
    intro t' s hs;obtain⟨s',h1,rfl⟩:=zl2 hs;have hp:=G.slots t' _ (zl3 h1);have hold:=hm.slots t' s' h1;cases s' <;> try exact hp
    rename_i i';simp only[yju];split
    .rename_i e;subst e
     simp only[Sm,Sym.lo] at hold ⊢;refine⟨hold.1,b,cap,by simp,?_,by omega,I⟩
     rw[hold.2,hβ];simp
    .rename_i e
     simp only[za2,if_neg e] at hp;exact hp
   refine Goes.zba (v:=.int .i64 cap) (w':=w) ?_ hK (H4.za1 hd (by simp[Sym.lo]) (by simp[Sm,R]))
   simp[execOp,ho,resolve,invoke,builtin,Y,hβ,Builtin.cap_,goInt,run_underlying hu]
  .exact h.elim
 .exact h.elim
def zr6(P:Program)(st:St)(dst:Option Tmp)(t t':Nat)(s x:Sym)(K:St->Prop):Prop:=
 match s,x with
 |.av id sz lo n,.d (.int _ m)=>match TI.of P t,TI.of P t' with
  |some ⟨.slice e,_,_,_,_⟩,some ⟨.int _,_,_,_,_⟩=>match TI.of P e with
   |some te=>match allD (te.zero.map ofConst),st.look id with
    |some z,some (.arr T sz' rows)=>sz=te.size/\sz'=te.size/\0<te.size/\te.zero.length=te.size/\te.zero.all (·.oneCell')=true/\lo+n<=rows.length/\0<m/\(rows.length:Int)<lo+n+m /\
      ((n:Int)+m)*te.bytes<=140737488355328/\(n:Int)+m<=maxLen/\K ((st.new (.arr e te.size ((rows.drop lo).take n++List.replicate m.toNat z))).put dst (.ar st.next))
    |_,_=>False
   |none=>False
  |_,_=>False
 |_,_=>False
theorem yga{u:TypeDesc}{k:IntKind}(h:zc2 P u = .int k):u = .int k:=by
 unfold zc2 at h
 split at h <;> first | (cases h;rfl) | cases h | (split at h <;> cases h)
theorem zvj(hm:Mods X w0 st β a w){o:Oper}{t t':Nat}{s x:Operand}(ho:o.op = .call {callee:=.builtin .append,args:=#[s,x],argTypes:=#[t,t']})(hd:∀ t,o.dst=some t->t<st.n){K:St->Prop}
  (h:zr6 P st o.dst t t' (st.val s) (st.val x) K):Goes P X w0 o a w K:=by
 unfold zr6 at h
 split at h
 .rename_i id sz lo n kx m hs hx
  split at h
  .rename_i e _ _ _ _ kk _ _ _ _ ht H8
   obtain⟨i,u,z,hi,hu,hz,H9,_⟩:=zay ht;have:=zbb H9.symm;subst this
   obtain⟨i',u',z',Hr,Ha,Hs,I,_⟩:=zay H8;have:=yga I.symm;subst this
   split at h
   .rename_i te Hb
    obtain⟨ie,ue,ze,Hc,Ht,Hd,_,He,Hf,_,Hg⟩:=zay Hb;split at h
    .rename_i zd T sz' rows H2 H3
     obtain⟨rfl,rfl,Hh,H4,Hi,N,Hu,H5,L,Hv,h⟩:=h;have Q:=(hm.val s).2;rw[hs] at Q;simp only[Sm] at Q;obtain⟨b,c,hβ,Q,Hw,Hx⟩:=Q;have S:=(hm.val x).2;rw[hx] at S;simp only[Sm,R] at S;obtain⟨q,rfl⟩:∃ q:Nat,m=q:=⟨m.toNat,by omega⟩
     have Hy:rows.length=c/\(0<rows.length->True):=by
      obtain⟨hid,_,xs,A,_,_⟩:=hm.obj H3;rcases A.1.2 with⟨hn,h0⟩ | ⟨g,cap,cur,hg,_⟩
      .rw[hn] at hβ;cases hβ
      .rw[hg] at hβ;simp at hβ;exact⟨hβ.2.1,λ_=>trivial⟩
     obtain⟨hid,_,xs,A,H6,W⟩:=hm.obj H3;have Hz:xs.length=rows.length*te.size:=A.1.1
     have V:∀ j v,((xs.drop (lo*te.size)).take (n*te.size))[j]?=some v->w.cell? ((⟨b,lo*te.size,none⟩:Addr).add j)=some v:=by
      intro j v hj;rw[List.getElem?_take] at hj;split at hj
      .rw[List.getElem?_drop] at hj
       have J:=A.1.cells (g:=b) (by rw[hβ];rfl) (lo*te.size+j) v hj
       rw[add_lit] at J ⊢;simpa using J
      .cases hj
     have Hj:(lo+n)*te.size<=rows.length*te.size:=Nat.mul_le_mul_right _ N
     rw[Nat.add_mul] at Hj;have Y:((xs.drop (lo*te.size)).take (n*te.size)).length=n*te.size:=by simp;omega
     have hold:(Builtin.firstCells ie.size n (.slice (some ⟨b,lo*te.size,none⟩) n (c-lo))).run P w.drew = .ok ((xs.drop (lo*te.size)).take (n*te.size)).toArray w.drew:=by
      rw[<-He];exact run_firstCells_some w.drew te.size n ⟨b,lo*te.size,none⟩ n (c-lo) _ Y (λj v hj=>V j v hj)
     have Hk:(n+q)*ie.bytes<=140737488355328:=by
      rw[<-Hf];have h9:(((n+q)*te.bytes:Nat):Int)<=((140737488355328:Nat):Int):=by rw[Int.natCast_mul,Int.natCast_add];exact L
      exact Int.ofNat_le.1 h9
     have Hl:q*ie.bytes<=281474976710656:=by
      have:q*ie.bytes<=(n+q)*ie.bytes:=Nat.mul_le_mul_right _ (by omega)
      omega
     have H7:n+q<=maxLen:=by omega
     have M:=Lib.run_append_grow_zeros (P:=P) w t t' o.type e ie ze kx kk hu Ha Hc Hd (some ⟨b,lo*te.size,none⟩) n (c-lo) _ hold q (by omega) (by omega) (by omega) (by simp only[maxLen] at H7;omega) Hl (growslice_fits (by omega) Hk)
     obtain⟨G,hG⟩:∃ G,G=grownCap w (n+q) (c-lo) e:=⟨_,rfl⟩;rw[<-hG] at M;obtain⟨row,Z⟩:∃ row,row=(((xs.drop (lo*te.size)).take (n*te.size)).toArray++Builtin.zeroCells ze.cells q++Builtin.zeroCells ze.cells (G-(n+q))):=⟨_,rfl⟩;rw[<-Z] at M;have H0:=zid (E:=Ex X β st.own) (w:=w) H2 Hi;have H1:zd.length=te.size:=by rw[zgt H2];simpa using H4
     have Hm:∀ k,(Builtin.zeroCells ze.cells k).toList=(List.replicate k te.zero).flatten:=by
      intro k;unfold Builtin.zeroCells;rw[zdp,Hg]
     have B:∀ k,(List.replicate k te.zero).flatten.length=k*te.size:=by
      intro k;induction k with
      |zero=>simp
      |succ k ih=>rw[List.replicate_succ,List.flatten_cons,List.length_append,ih,H4,Nat.add_mul];omega
     have Hn:n+q<=G:=by rw[hG];exact grownCap_ge w _ _ _
     have Ho:G<=maxLen:=by rw[hG];exact grownCap_le_maxLen w _ _ _ H7
     have H:row.toList=(xs.drop (lo*te.size)).take (n*te.size)++(List.replicate q te.zero).flatten++(List.replicate (G-(n+q)) te.zero).flatten:=by
      rw[Z];simp[Hm]
     have O:row.size=G*te.size:=by
      have:row.size=row.toList.length:=(Array.length_toList).symm
      rw[this,H];simp only[List.length_append,Y,B];rw[<-Nat.add_mul,<-Nat.add_mul];congr 1;omega
     have F:Below w.heap.size w (w.drew.alloc (.cells row e)):=by
      have h1:Below w.heap.size w w.drew:=⟨⟨rfl,rfl,rfl,Nat.le_refl _,λ_ _=>rfl⟩,λ_=>Nat.le_succ _⟩
      exact h1.trans (zbn w.drew _)
     have G0:∀ (E:Nat->Prop),Over w E (w.drew.alloc (.cells row e)) E:=λE=>Over.of_below F E
     have Hp:Mods X w0 (st.new (.arr e te.size ((rows.drop lo).take n++List.replicate q zd))) (λi=>if i=st.next then .slice (some ⟨w.heap.size,0,none⟩) (n+q) G else β i) a (w.drew.alloc (.cells row e)):=by
      refine hm.new F rfl trivial (λb hb=>by simp[blk] at hb;omega) ?_
      have C:((rows.drop lo).take n).length=n:=by simp;omega
      refine⟨(xs.drop (lo*te.size)).take (n*te.size)++(List.replicate q te.zero).flatten,⟨⟨?_,.inr ⟨w.heap.size,G,row,by simp only[if_true,List.length_append,C,List.length_replicate],Nat.zero_le _,Go.heap_alloc_new w.drew _,by simp only[List.length_append,C,List.length_replicate];exact Hn,Ho,O,?_⟩⟩,λb hb=>⟨.inl (by simp[blk] at hb;have:=hm.below.size;omega),?_⟩⟩,?_,?_⟩
      .simp only[List.length_append,Y,B,C,List.length_replicate];rw[Nat.add_mul]
      .simp only[List.length_append,C,List.length_replicate]
       rw[H,List.take_append_of_le_length (by simp only[List.length_append,Y,B];rw[<-Nat.add_mul];exact Nat.le_refl _),List.take_of_length_le (by simp only[List.length_append,Y,B];rw[<-Nat.add_mul];exact Nat.le_refl _)]
      .simp[blk] at hb;subst hb
       refine zcz.of (Go.heap_alloc_new w.drew (.cells row e)) ?_
       intro u hu;rw[H] at hu;rcases List.mem_append.1 hu with hu | hu
       .rcases List.mem_append.1 hu with hu | hu
        .exact H6.one u (List.mem_of_mem_drop (List.mem_of_mem_take hu))
        .exact(H0.replicate q).one u hu
       .exact(H0.replicate _).one u hu
      .rw[List.flatten_append]
       refine zah.append ?_ ?_
       .have h1:zah w (Ex X β st.own) ((rows.drop lo).take n).flatten ((xs.drop (lo*te.size)).take (n*te.size)):=by
         rw[zib (λr hr=>W r (List.mem_of_mem_drop hr)),zkh W]
         exact zah.take _ (zah.drop _ H6)
        exact zah.over (zwx hm F) _ _ h1
       .exact zah.over (zwx hm F) _ _ (H0.replicate q)
      .intro r hr
       rcases List.mem_append.1 hr with hr | hr
       .exact W r (List.mem_of_mem_drop (List.mem_of_mem_take hr))
       .rw[(List.mem_replicate.1 hr).2];exact H1
     have Hq:(q:Int).toNat=q:=by omega
     rw[Hq] at h;refine Goes.zba (v:=.slice (some ⟨w.heap.size,0,none⟩) (n+q) G) (w':=w.drew.alloc (.cells row e)) ?_ h (Hp.za1 hd (by simp[Sym.lo,St.new]) (by simp[Sm]))
     simp[execOp,ho,resolve,invoke,builtin,Q,S,M]
    .exact h.elim
   .exact h.elim
  .exact h.elim
 .exact h.elim
theorem zyz(w:World)(t ty e:TypeId)(i:TypeInfo)(L:P.underlying t=some (.slice e))(hi:P.info? e=some i)(g o n cap:Nat)(cur:Array Value)(T:TypeId)(M:w.heap[g]?=some (.cells cur T (0,0)))
  (a:Addr) (m c:Nat) (news:List Value) (O:news.length=m*i.size) (H:∀ j u,news[j]?=some u->w.cell? (a.add j)=some u) (Q:∀ u∈news,u.oneCell'=true)
  (G:n+m<=cap) (F:o+n*i.size+news.length<=cur.size) :
  (Builtin.append_ #[t,t] ty #[.slice (some ⟨g,o,none⟩) n cap,.slice (some a) m c]).run P w = .ok (.slice (some ⟨g,o,none⟩) (n+m) cap) (w.setRow g (splice cur.toList (o+n*i.size) news).toArray):=by
 have J:=run_firstCells_some (P:=P) w i.size m a m c news O H
 have E:=run_storeCells_at P g (o+n*i.size) T news 0 cur w M (by simpa using F) Q
 simp only[Nat.add_zero] at E
 have K:(cur.toList.take (o+n*i.size)++news++cur.toList.drop (o+n*i.size+news.length)).toArray=(splice cur.toList (o+n*i.size) news).toArray:=rfl
 rw[K] at E
 simp[Builtin.append_,run_underlying L,sizeOf,typeInfo,hi,Builtin.lenOf,G,J,Addr.add_lit,E]
def zr7(P:Program)(st:St)(dst:Option Tmp)(t t':Nat)(s x:Sym)(K:St->Prop):Prop:=
 match s with
 |.av id sz lo n=>match TI.of P t with
  |some ⟨.slice e,_,_,_,_⟩=>match TI.of P e with
   |some te=>match zde st st.next x,st.look id with
    |some l,some (.arr T sz' rows)=>t'=t/\sz=te.size/\sz'=te.size/\(∀ r∈l,r.length=te.size)/\lo+n+l.length<=rows.length/\K ((st.set id (.arr T sz' (splice rows (lo+n) l))).put dst (.av id sz lo (n+l.length)))
    |_,_=>False
   |none=>False
  |_=>False
 |_=>False
theorem zvk(hm:Mods X w0 st β a w){o:Oper}{t t':Nat}{s x:Operand}(ho:o.op = .call {callee:=.builtin .append,args:=#[s,x],argTypes:=#[t,t']})(hd:∀ t,o.dst=some t->t<st.n){K:St->Prop}
  (h:zr7 P st o.dst t t' (st.val s) (st.val x) K):Goes P X w0 o a w K:=by
 unfold zr7 at h
 split at h
 case h_2=>exact h.elim
 rename_i id sz lo n hs
 split at h
 case h_2=>exact h.elim
 rename_i e _ _ _ _ ht
 obtain⟨i,u,z,hi,hu,hz,N,_⟩:=zay ht
 have:=zbb N.symm;subst this
 split at h
 case h_2=>exact h.elim
 rename_i te S
 obtain⟨ie,ue,ze,B,H5,H6,_,M,H7,_,H8⟩:=zay S
 split at h
 case h_2=>exact h.elim
 rename_i l T sz' rows O Q
 obtain⟨rfl,rfl,rfl,V,Y,h⟩:=h
 have H:=(hm.val s).2
 rw[hs] at H;simp only[Sm] at H
 obtain⟨b,c,hβ,H,H9,W⟩:=H
 have Z:=(hm.val s).1
 rw[hs] at Z
 obtain⟨ad,c1,C,G,F⟩:=zic hm O (hm.val x).2 V
 have Ha:rows.length=c:=by
  obtain⟨hid,_,xs,H0,_,_⟩:=hm.obj Q;rcases H0.1.2 with⟨hn,h0⟩ | ⟨g,cap,cur,hg,_⟩
  .rw[hn] at hβ;cases hβ
  .rw[hg] at hβ;simp at hβ;exact hβ.2.1
 have I:∀ (w':World) (E:Nat->Prop),Sm w' E β (.av id te.size lo (n+l.length)) (.slice (some ⟨b,lo*te.size,none⟩) (n+l.length) (c-lo)):=λw' E=>by
  simp only[Sm];exact⟨b,c,hβ,rfl,by omega,W⟩
 cases ad with
 |none=>
  obtain⟨rfl,rfl⟩:=G rfl;have H1:splice rows (lo+n) ([]:List (List D))=rows:=by simp[splice]
  rw[H1] at h;refine Goes.zba (v:=.slice (some ⟨b,lo*te.size,none⟩) n (c-lo)) (w':=w) ?_ h ((zob hm Q).za1 hd (by simpa[Sym.lo,St.set] using Z) (by simpa using I w _))
  simp[execOp,ho,resolve,invoke,builtin,H,C,Builtin.append_,run_underlying hu,sizeOf,typeInfo,B,Builtin.lenOf,Builtin.firstCells,storeCells];omega
 |some a0=>
  obtain⟨news,A,J⟩:=F a0 rfl;have H2:news.length=l.length*te.size:=by rw[A.length,flat_length V]
  obtain⟨cur,hh,Hb,H3,H4⟩:=zg8 hm Q hβ (l:=l) (lo:=lo+n) Y V A;have L:=zyz (P:=P) w _ o.type e ie hu B b (lo*te.size) n (c-lo) cur T hh a0 l.length c1 news (by rw[H2,<-M]) J A.one (by omega) (by rw[<-M,<-Nat.add_mul];exact H3)
  rw[<-M,<-Nat.add_mul] at L;refine Goes.zba (v:=.slice (some ⟨b,lo*te.size,none⟩) (n+l.length) (c-lo)) (w':=w.setRow b (splice cur.toList ((lo+n)*te.size) news).toArray) ?_ h (H4.za1 hd (by simpa[Sym.lo,St.set] using Z) (I _ _))
  simp[execOp,ho,resolve,invoke,builtin,H,C,L]
def yoj (P : Program) (g t : Nat) : Prop := ∃ (fn : Func) (tr e : Nat), P.funcs[g]? = some fn ∧ (fn.name == "runtime.NumGoroutine") = false ∧ fn.body.isNone = true ∧ Extern.findNext fn = none ∧
 Extern.find fn=some (Extern.SlicesOverlaps.overlaps #[t,t] #[tr])/\P.underlying t=some (.slice e)/\(P.info? e).isSome=true
def ymq(P:Program)(st:St)(f:Operand)(xs:List Operand)(dst:Option Tmp)(K:St->Prop):Prop:=
 match zbm (st.val f),xs.map st.val with
 |some (g,[]),[.ar i,.av j _ _ _]=>i≠j/\(∃ t,yoj P g t)/\(match st.look i,st.look j with
  |some (.arr _ _ (_::_)),some (.arr _ sz (_::_))=>sz≠0/\K (st.put dst (.d (.bool false)))
  |_,_=>False)
 |_,_=>False
theorem z6a(hm:Mods X w0 st β a w){o:Oper}{f:Operand}{args:Array Operand}{ts:Array TypeId}(ho:o.op = .call {callee:=.value f,args,argTypes:=ts})
  (hd:∀ t,o.dst=some t->t<st.n) {K:St->Prop} (h:ymq P st f args.toList o.dst K):Goes P X w0 o a w K:=by
 unfold ymq at h
 split at h
 .rename_i g i j sz1 lo n hc Q
  obtain⟨S,⟨t,fn,tr,e,hf,E,hb,W,J,hu,L⟩,h⟩:=h;split at h
  .rename_i T1 s1 r1 rs1 T2 sz r2 rs2 Z A
   obtain⟨H0,hK⟩:=h;obtain⟨x,y,B⟩:∃ x y,args.toList=[x,y]:=by
    have hl:=congrArg List.length Q;simp at hl
    match hh:args.toList with
    | [x,y]=>exact⟨x,y,rfl⟩
    | []=>rw[<-Array.length_toList,hh] at hl;simp at hl
    | [_]=>rw[<-Array.length_toList,hh] at hl;simp at hl
    |_::_::_::_=>rw[<-Array.length_toList,hh] at hl;simp at hl
   rw[B] at Q;simp only[List.map_cons,List.map_nil,List.cons.injEq,and_true] at Q;obtain⟨hx,hy⟩:=Q;have T:=(hm.val x).2;rw[hx] at T;simp only[Sm] at T;have M:=(hm.val y).2;rw[hy] at M;simp only[Sm] at M;obtain⟨b2,c2,hβ2,M,H1,_⟩:=M;obtain⟨b,cap,cur,xs,hβ,hh,C,Hc,Hd,I,_,_,_,H2,_⟩:=z5z hm Z (by simp)
   obtain⟨b',cap',cur',xs',hβ',H3,G,H4,V,Y,_,_,_,N,_⟩:=z5z hm A (by simp)
   have H5:b2=b':=by rw[hβ'] at hβ2;simp at hβ2;exact hβ2.1.symm
   subst H5;have H6:b≠b2:=by
    intro e;exact S (hm.apart i _ j _ b (za0 Z) (za0 A) (by rw[hβ];rfl) (by rw[hβ',e];rfl))
   have O:=(hm.val f).2;have H7:a.eval f = .func (.func g) #[] #[]:=by
    cases H8:st.val f <;> rw[H8] at hc O <;> simp only[zbm] at hc
    case d x=>
     cases x <;> simp only[zbm] at hc
     case fn f' l=>
      simp at hc;obtain⟨rfl,h0⟩:=hc
      simp only[Sm,R] at O;obtain⟨vs,h1,h2⟩:=O;subst h0;simp only[za9] at h2;subst h2;simpa using h1
     all_goals cases hc
    case fn f' l=>
     simp at hc;obtain⟨rfl,h0⟩:=hc
     simp only[Sm] at O;obtain⟨vs,h1,h2⟩:=O;subst h0;simp only[Sms] at h2;subst h2;simpa using h1
    all_goals cases hc
   obtain⟨ie,H9⟩:=Option.isSome_iff_exists.1 L;have Ha:cur'.size≠0:=by
    rw[V];simp only[List.length_cons] at G;exact Nat.mul_ne_zero (by omega) H0
   have Hb:=Lib.run_overlaps_apart (P:=P) w t tr e hu ie.size (run_sizeOf H9) ⟨b,0,none⟩ ⟨b2,lo*sz1,none⟩ (r1::rs1).length cap n (c2-lo) H6 T1 T2 cur.size cur'.size
    (by simp[World.shape?,hh]) (by simp[World.shape?,H3]) Ha (by simp[World.frozen?,hh]) (by simp[World.frozen?,hh])
   have F:=run_callFunc_extern (P:=P) hf E hb W J #[.slice (some ⟨b,0,none⟩) (r1::rs1).length cap,.slice (some ⟨b2,lo*sz1,none⟩) n (c2-lo)] w;rw[Hb] at F;have H:args.map a.eval = #[.slice (some ⟨b,0,none⟩) (r1::rs1).length cap,.slice (some ⟨b2,lo*sz1,none⟩) n (c2-lo)]:=by
    have:args = #[x,y]:=by rw[<-Array.toArray_toList (xs:=args),B]
    rw[this];simp only[List.map_toArray,List.map_cons,List.map_nil];rw[T,hβ,M]
   refine Goes.zba (v:=.bool false) (w':=w) ?_ hK (hm.za1 hd (by simp[Sym.lo]) (by simp[Sm,R]))
   simp only[Result.andThen,List.length_cons] at F H;simp[execOp,ho,resolve,H7,Deferred.ofValue,invoke,H,F]
  .exact h.elim
 .exact h.elim
end
end Go.V
namespace Go.V
variable [Dr] [Ov]
open Go.RowKit
section
variable {P:Program} {w:World}
theorem z1y(base e:Nat)(xs news:List Value)(n m old:Nat)(z:Value)(G:xs.length=n)(F:news.length=m)(J:z.cells.size=1)(E:n+m<=maxLen)(H:base<=w.heap.size):
  (w.drew.alloc (.cells (xs.toArray++news.toArray++Builtin.zeroCells z.cells (grownCap w (n+m) old e-(n+m))) e)).ownsRow base e 1 (.slice (some ⟨w.heap.size,0,none⟩) (n+m) (grownCap w (n+m) old e)) (n+m) (xs++news):=by
 have K:=grownCap_ge w (n+m) old e
 refine⟨by simp[G,F],.inr ⟨w.heap.size,_,_,rfl,H,Go.heap_alloc_new w.drew _,K,grownCap_le_maxLen w (n+m) old e E,?_,?_⟩⟩
 .simp only[Array.size_append,List.size_toArray,size_zeroCells,J,G,F]
  omega
 .simp only[Array.toList_append]
  rw[List.take_append_of_le_length (by simp[G,F]),List.take_of_length_le (by simp[G,F])]
theorem zt9(base:Nat)(t u ty e:TypeId)(i:TypeInfo)(z:Value)(ht:P.underlying t=some (.slice e))(hu:P.underlying u=some .string)(hi:P.info? e=some i)(hz:i.zero=some z)
  (H:i.size=1) (V:i.bytes=1) (X:z.cells.size=1)
  (v:Value) (n:Nat) (xs:List Value) (E:w.ownsRow base e 1 v n xs) (s:ByteArray)
  (Y:n+s.size<=maxLen) (Q:n+s.size<=140737488355328) (G:base<=w.heap.size)
  (L:∀ b,blk v=some b->zcz w b) (A:∀ u∈xs,u.oneCell'=true) (B:∀ u∈z.cells.toList,u.oneCell'=true) :
  ∃ v' w',(Builtin.append_ #[t,u] ty #[v,.string s]).run P w = .ok v' w'/\w'.ownsRow base e 1 v' (n+s.size) (xs++Lib.strCells s)/\w.grownBy w' v.ownBlock /\
   (v'.ownBlock=v.ownBlock\/∃ g,v'.ownBlock=some g/\w.heap.size<=g)/\∀ b,blk v'=some b->zcz w' b:=by
 have T:n+s.size<=9223372036854775807:=by simp only[maxLen] at Y;omega
 have J:xs.length=n:=by simpa using E.1
 have K:=Lib.strCells_length s
 have M:∀ (olds:List Value) (k:Nat),(∀ u∈olds,u.oneCell'=true)->zcz (w.drew.alloc (.cells (olds.toArray++(Lib.strCells s).toArray++Builtin.zeroCells z.cells k) e)) w.heap.size:=by
  intro olds k ho;refine zcz.of (Go.heap_alloc_new w.drew _) λu hu=>?_
  simp only[Array.toList_append,List.mem_append] at hu;rcases hu with(hu | hu) | hu
  .exact ho u hu
  .exact Lib.strCells_oneCell s u hu
  .exact zn9 B k u hu
 have Z:∀ (cs:Array Value) (row:Option Nat),w.grownBy (w.drew.alloc (.cells cs e)) row:=λcs row=>⟨rfl,rfl,rfl,by simp,λk hk _=>Go.heap_alloc_old w.drew _ hk⟩
 rcases E.2 with⟨rfl,rfl⟩ | ⟨g,cap,cur,rfl,C,hg,H0,I,N,O⟩
 .have hx:xs=[]:=List.eq_nil_of_length_eq_zero J
  subst hx;by_cases hm:s.size=0
  .have hn:Lib.strCells s=[]:=List.eq_nil_of_length_eq_zero (by rw[K];exact hm)
   have hf:=Lib.run_firstCells_string (P:=P) w 1 s;rw[hm] at hf;refine⟨.slice none 0 0,w,?_,by rw[hm,hn];exact World.ownsRow_nil w base e 1,⟨rfl,rfl,rfl,Nat.le_refl _,λ_ _ _=>rfl⟩,.inl rfl,λb hb=>by simp[blk] at hb⟩
   simp[Builtin.append_,run_underlying ht,run_underlying hu,sizeOf,typeInfo,hi,H,Builtin.lenOf,hm,hf]
  .have hr:=run_append_nil_string (P:=P) w t u ty e i z ht hu hi hz s (by omega) (by omega) (by rw[V];omega)
   have e1:(s.data.map λb=>Value.int .u8 b.toNat)=(Lib.strCells s).toArray:=by apply Array.ext';simp[Lib.strCells]
   rw[e1] at hr;have hO:=z1y (w:=w) base e [] (Lib.strCells s) 0 s.size 0 z rfl K X (by omega) G
   have hN:=M [] (grownCap w s.size 0 e-s.size) (λ_ h=>by cases h)
   simp only[Nat.zero_add,List.nil_append,Array.empty_append] at hO hN;refine⟨_,_,hr,by simpa using hO,Z _ _,.inr ⟨_,rfl,Nat.le_refl _⟩,λb hb=>?_⟩
   simp[blk] at hb;subst hb;exact hN
 .by_cases F:n+s.size<=cap
  .have S:cur.size=cap:=by simpa using N
   have hr:=Lib.run_append_room_string (P:=P) w t u ty e i ht hu hi H g n cap cur hg s F (by omega)
   refine⟨_,_,hr,⟨by simp[J,K],.inr ⟨g,cap,_,rfl,C,setRow_heap w g cur _ e _ hg,F,I,?_,?_⟩⟩,⟨rfl,rfl,rfl,by simp,λk _ hk=>setRow_other w g k _ (λe=>hk (by simp[Value.ownBlock,e]))⟩,.inl rfl,λb hb=>?_⟩
   .simp only[List.size_toArray,List.length_append,List.length_take,List.length_drop,Array.length_toList,K]
    omega
   .have W:cur.toList.take n=xs:=by simpa using O
    show(List.take _ (_++_++_))=_
    rw[W,List.take_append_of_le_length (by simp[J,K]),List.take_of_length_le (by simp[J,K])]
   .simp[blk] at hb;subst hb
    refine zcz.of (setRow_heap w g cur _ e (0,0) hg) λu hu=>?_
    have h0:=L g (by rfl) _ _ _ hg
    simp only[List.mem_append] at hu;rcases hu with(hu | hu) | hu
    .exact h0 u (List.mem_of_mem_take hu)
    .exact Lib.strCells_oneCell s u hu
    .exact h0 u (List.mem_of_mem_drop hu)
  .have holds:∀ j u,xs[j]?=some u->w.cell? ((⟨g,0,none⟩:Addr).add j)=some u:=E.cells (g:=g) rfl
   have hr:=Lib.run_append_grow_string (P:=P) w t u ty e i z ht hu hi hz ⟨g,0,none⟩ n cap xs (by rw[H];simpa using J) holds s (by omega) (by omega) (by rw[V];exact growslice_fits (by omega) (by omega))
   refine⟨_,_,hr,z1y base e xs (Lib.strCells s) n s.size cap z J K X Y G,Z _ _,.inr ⟨_,rfl,Nat.le_refl _⟩,λb hb=>?_⟩
   simp[blk] at hb;subst hb;exact M xs _ A
end
def zr8(P:Program)(st:St)(dst:Option Tmp)(t t':Nat)(s x:Sym)(K:St->Prop):Prop:=
 match x with
 |.d (.str b)=>match TI.of P t,TI.of P t' with
  |some ⟨.slice e,_,_,_,_⟩,some ⟨.str,_,_,_,_⟩=>match TI.of P e with
   |some te=>te.size=1/\te.bytes=1/\te.zero.length=1/\te.zero.all (·.oneCell')=true/\match s with
    |.ar id=>match st.look id with
     |some (.arr T sz rows)=>T=e/\sz=1/\rows.length+b.size<=140737488355328/\rows.length+b.size<=maxLen/\K ((st.renew id (.arr e 1 (rows++za5 b))).put dst (.ar id))
     |_=>False
    |.nils=>b.size<=140737488355328/\b.size<=maxLen/\K (((st.new (.arr e 1 [])).renew st.next (.arr e 1 (za5 b))).put dst (.ar st.next))
    |_=>False
   |none=>False
  |_,_=>False
 |_=>False
section
variable {P:Program} {X:Nat->Prop} {w0:Base} {st:St} {β:Nat->Value} {a:Act} {w w':World} {E:Nat->Prop} {m:Nat} {k:Sym->Prop}
theorem zy0(w:World)(E:Nat->Prop)(b:ByteArray):zah w E (za5 b).flatten (Lib.strCells b):=by
 unfold za5 Lib.strCells
 induction b.data.toList with
 |nil=>simp[zah]
 |cons y r ih=>
  simp only[List.map_cons,List.flatten_cons,List.singleton_append,zah];exact⟨_,_,rfl,rfl,by simp[R],ih⟩
theorem zi2(b:ByteArray):(za5 b).length=b.size:=by unfold za5;rw[List.length_map];rfl
theorem z6b(b:ByteArray):∀ r∈za5 b,r.length=1:=by
 intro r H
 simp only[za5,List.mem_map] at H
 obtain⟨_,_,rfl⟩:=H
 rfl
theorem zof(hm:Mods X w0 st β a w){o:Oper}{t t':Nat}{s x:Operand}(ho:o.op = .call {callee:=.builtin .append,args:=#[s,x],argTypes:=#[t,t']})(hd:∀ t,o.dst=some t->t<st.n){K:St->Prop}
  {e:Nat} {te:TI} (hu:P.underlying t=some (.slice e)) (Z:P.underlying t'=some .string) (A:TI.of P e=some te) (B:te.size=1) (C:te.bytes=1) (I:te.zero.length=1) (N:te.zero.all (·.oneCell')=true) {id:Nat} (S:a.eval s=β id) {rows:List (List D)} {b:ByteArray} (hx:a.eval x = .string b)
  (T:st.look id=some (.arr e 1 rows)) (hb:rows.length+b.size<=140737488355328) (W:rows.length+b.size<=maxLen)
  (h:K ((st.renew id (.arr e 1 (rows++za5 b))).put o.dst (.ar id))):Goes P X w0 o a w K:=by
 obtain⟨ie,ue,ze,H0,Ha,H1,_,H2,H3,_,V⟩:=zay A
 obtain⟨hid,Hb,xs,G,Y,H4⟩:=hm.obj T
 have J:∀ r∈rows++za5 b,r.length=1:=λr hr=>(List.mem_append.1 hr).elim (H4 r) (z6b b r)
 have H5:ze.cells.size=1:=by rw[<-I,V];simp
 obtain⟨v',w',hr,L,hg,M,F⟩:=zt9 (P:=P) (w:=w) 0 t t' o.type e ie ze hu Z H0 H1 (by rw[<-H2,B]) (by rw[<-H3,C]) H5 (β id) rows.length xs G.1 b W hb (Nat.zero_le _) (λb hb=>(G.2 b hb).2) Y.one (by rw[<-V];exact List.all_eq_true.1 N)
 have H:∀ b,blk v'=some b->blk (β id)=some b\/w.heap.size<=b:=by
  intro b hb;rw[<-zi0 L] at hb;rcases M with e | ⟨g,e,H6⟩
  .left;rw[e,zi0 G.1] at hb;exact hb
  .right;rw[e] at hb;cases hb;exact H6
 have O:∀ b,blk v'=some b->w0.may b:=λb hb=>(H b hb).elim (λe=>(G.2 b e).1) (λh=>.inl (Nat.le_trans hm.below.size h))
 have Q:(rows++za5 b).length=rows.length+b.size:=by rw[List.length_append,zi2]
 have H7:=hm.renew (o':=.arr e 1 (rows++za5 b)) T (z5y L)
  (hm.below.turn hg.os hg.tape hg.output hg.size (λk hk hn=>hg.block k hk (λe=>hn (G.2 k (by rw[<-zi0 G.1];exact e.symm)).1)) (λ_=>zce P _ _ _ _ hr))
  (λc hc H8=>hg.block c hc (by rw[zi0 G.1];exact H8)) H trivial
  (λE H9 hbE=>⟨xs++Lib.strCells b,⟨by rw[Q];simpa using L,λb hb=>⟨O b (by simpa using hb),F b (by simpa using hb)⟩⟩,by rw[List.flatten_append];exact zah.append (zah.over H9 _ _ Y) (zy0 _ _ b),J⟩)
 refine Goes.zba (v:=v') (w':=w') ?_ h (H7.za1 hd (by simpa[Sym.lo,St.renew] using hid) (by simp[Sm]))
 simp[execOp,ho,resolve,invoke,builtin,S,hx,hr]
theorem zvl(S:Mods X w0 st β a w){o:Oper}{t t':Nat}{s x:Operand}(W:o.op = .call {callee:=.builtin .append,args:=#[s,x],argTypes:=#[t,t']})(hd:∀ t,o.dst=some t->t<st.n){K:St->Prop}
  (h:zr8 P st o.dst t t' (st.val s) (st.val x) K):Goes P X w0 o a w K:=by
 unfold zr8 at h
 split at h
 case h_2=>exact h.elim
 rename_i b Y
 have G:=(S.val x).2
 rw[Y] at G
 simp only[Sm,R] at G
 split at h
 case h_2=>exact h.elim
 rename_i e _ _ _ _ _ _ _ _ ht Z
 obtain⟨i,u,z,hi,hu,hz,A,_⟩:=zay ht
 have:=zbb A.symm;subst this
 obtain⟨i',u',z',I,J,N,F,_⟩:=zay Z
 have:=zfg F.symm;subst this
 split at h
 case h_2=>exact h.elim
 rename_i te L
 obtain⟨M,O,Q,V,h⟩:=h
 have H:=(S.val s).2
 split at h
 .rename_i id hs
  rw[hs] at H;simp only[Sm] at H;split at h
  .rename_i T sz rows B
   obtain⟨rfl,rfl,hb,E,h⟩:=h;exact zof S W hd hu J L M O Q V H G B hb E h
  .exact h.elim
 .rename_i hs
  obtain⟨hb,E,h⟩:=h;rw[hs] at H;simp only[Sm] at H;have C:=S.z1l e 1;refine zof C W hd hu J L M O Q V (id:=st.next) (rows:=[]) ?_ G ?_ (by simpa using hb) (by simpa using E) (by simpa using h)
  .simp[H]
  .simp[St.look,St.new,zac]
 .exact h.elim
end
end Go.V

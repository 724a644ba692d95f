/- A program logic of my own over the kit: part V10. It needs no conditions. -/
import Derived.Test.YtknekjalbninmaaGreatV1
import Derived.Great.BuildSlice
import Derived.Lib.ConvBytes
import Derived.RangeFuncRecord
import Derived.Laws.MakeOwn
import Derived.Laws.CopyRow
import Derived.Laws.IdiomCopy
import Derived.Laws.BytesString
import Derived.Lib.Overlaps
import Derived.Lib.AppendZerosOnto
import Derived.Lib.AppendStr
set_option linter.all false
namespace Go.V
variable [Dr] [Ov]
open Go.RowKit
mutual
theorem Sm.over{w w':World}{E E':Nat->Prop}{β β':Nat->Value}{m:Nat}(hβ:∀ id,id<m->β' id=β id)(h:bh w E w' E'):
  ∀ {s:ah} {v:Value},ah.lo m s->Sm w E β s v->Sm w' E' β' s v
 |.d x,v,_,hs=>by simp only[Sm] at hs ⊢;exact R.over h _ _ hs
 |.aW,v,_,hs=>by simpa[Sm] using hs
 |.bp id off,v,H,hs=>by simp only[Sm,ah.lo] at hs H ⊢;rw[hβ id H];exact hs
 |.ar id,v,H,hs=>by simp only[Sm,ah.lo] at hs H ⊢;rw[hβ id H];exact hs
 |.ap id sz i off,v,H,hs=>by simp only[Sm,ah.lo] at hs H ⊢;rw[hβ id H];exact hs
 |.a_s id sz i off,v,H,hs=>by simp only[Sm,ah.lo] at hs H ⊢;rw[hβ id H];exact hs
 |.av id sz i off,v,H,hs=>by simp only[Sm,ah.lo] at hs H ⊢;rw[hβ id H];exact hs
 |.yd id,v,H,hs=>by simp only[Sm,ah.lo] at hs H ⊢;rw[hβ id H];exact hs
 |.mp id,v,H,hs=>by simp only[Sm,ah.lo] at hs H ⊢;rw[hβ id H];exact hs
 |.bE l,v,H,hs=>by
  simp only[Sm,ah.lo] at hs H ⊢;obtain⟨vs,G,F⟩:=hs;exact⟨vs,G,zi.over hβ h H F⟩
 |.agg l,v,H,hs=>by
  simp only[Sm,ah.lo] at hs H ⊢;obtain⟨vs,G,F,K⟩:=hs;exact⟨vs,G,zi.over hβ h H F,K⟩
 |.fn f l,v,H,hs=>by
  simp only[Sm,ah.lo] at hs H ⊢;obtain⟨vs,G,F⟩:=hs;exact⟨vs,G,zi.over hβ h H F⟩
 |.junk,v,_,_=>by simp[Sm]
theorem zi.over{w w':World}{E E':Nat->Prop}{β β':Nat->Value}{m:Nat}(hβ:∀ id,id<m->β' id=β id)(h:bh w E w' E'):
  ∀ {l:List ah} {vs:List Value},ah.a_ m l->zi w E β l vs->zi w' E' β' l vs
 | [],vs,_,hs=>by simpa[zi] using hs
 |s::r,vs,H,hs=>by
  simp only[zi,ah.a_] at hs H ⊢;obtain⟨v,vs',rfl,G,F⟩:=hs;exact⟨v,vs',rfl,Sm.over hβ h H.1 G,zi.over hβ h H.2 F⟩
end
mutual
theorem ah.jA{m m':Nat}(h:m<=m'):∀ {s:ah},ah.lo m s->ah.lo m' s
 |.d _,_=>by simp[ah.lo]
 |.aW,_=>by simp[ah.lo]
 |.junk,_=>by simp[ah.lo]
 |.bp _ _,H=>by simp only[ah.lo] at H ⊢;omega
 |.ar _,H=>by simp only[ah.lo] at H ⊢;omega
 |.ap _ _ _ _,H=>by simp only[ah.lo] at H ⊢;omega
 |.a_s _ _ _ _,H=>by simp only[ah.lo] at H ⊢;omega
 |.av _ _ _ _,H=>by simp only[ah.lo] at H ⊢;omega
 |.yd _,H=>by simp only[ah.lo] at H ⊢;omega
 |.mp _,H=>by simp only[ah.lo] at H ⊢;omega
 |.bE l,H=>by simp only[ah.lo] at H ⊢;exact ah.Xl h H
 |.agg l,H=>by simp only[ah.lo] at H ⊢;exact ah.Xl h H
 |.fn _ l,H=>by simp only[ah.lo] at H ⊢;exact ah.Xl h H
theorem ah.Xl{m m':Nat}(h:m<=m'):∀ {l:List ah},ah.a_ m l->ah.a_ m' l
 | [],_=>by simp[ah.a_]
 |s::r,H=>by simp only[ah.a_] at H ⊢;exact⟨ah.jA h H.1,ah.Xl h H.2⟩
end
theorem am.jA{m m':Nat}(h:m<=m'){o:am}(H:o.lo m):o.lo m':=by
 cases o with
 |box T cells=>exact ah.Xl h H
 |aQ T sz rows=>trivial
 |map T rows=>trivial
 |cN k cells=>exact ah.Xl h H
theorem zcv{w w':World}{ai T sz n:Nat}{v:Value}{xs:List Value}(h:w.ownsRow ai T sz v n xs)(H:∀ b,bP v=some b->w'.heap[b]?=w.heap[b]?):w'.ownsRow ai T sz v n xs:=by
 refine⟨h.1,?_⟩
 rcases h.2 with G | ⟨g,cap,cur,F,E,K,J⟩
 .exact .inl G
 .exact .inr ⟨g,cap,cur,F,E,by rw[H g (by rw[F];rfl)];exact K,J⟩
theorem ja.same{N:Nat->Prop}{w w':World}{T sz n:Nat}{v:Value}{xs:List Value}(h:ja N w T sz v n xs)(H:∀ b,bP v=some b->w'.heap[b]?=w.heap[b]?):ja N w' T sz v n xs:=⟨zcv h.1 H,λb e=>⟨(h.2 b e).1,(h.2 b e).2.same (H b e)⟩⟩
theorem yV.over{w w':World}{ai:Nat->Prop}{E E':Nat->Prop}{β β':Nat->Value}{m id:Nat}{o:am}(hβ:∀ id,id<m->β' id=β id)(h:bh w E w' E')
  (cq:id<m) (H:o.lo m) (G:∀ b,bP (β id)=some b->w'.heap[b]?=w.heap[b]?) (F:yV w ai E β id o):yV w' ai E' β' id o:=by
 cases o with
 |box T cells=>
  obtain⟨b,vs,K,J,L,M,O⟩:=F;exact⟨b,vs,by rw[hβ id cq];exact K,J,by rw[G b (by rw[K];rfl)];exact L,zi.over hβ h H M,O⟩
 |aQ T sz rows=>
  obtain⟨xs,K,J,L⟩:=F;exact⟨xs,by rw[hβ id cq];exact ja.same K G,zl.over h _ _ J,L⟩
 |map T rows=>
  obtain⟨r,es,clock,K,J,L,M⟩:=F;exact⟨r,es,clock,by rw[hβ id cq];exact K,J,by rw[G r (by rw[K];rfl)];exact L,yN.over h _ _ M⟩
 |cN k cells=>
  obtain⟨b,fn,D,vs,K,J,L,M⟩:=F;exact⟨b,fn,D,vs,by rw[hβ id cq];exact K,J,by rw[G b (by rw[K];exact k.Ym b)];exact L,zi.over hβ h H M⟩
theorem B8{a:Act}{dst:Option Tmp}{v:Value}{t:Tmp}(h:∀ d,dst=some d->d<a.tmps.size):
  (a.put dst v).tmps.getD t undef=if dst=some t then v else a.tmps.getD t undef:=by
 cases dst with
 |none=>simp[Act.put]
 |some d=>
  have:=h d rfl
  by_cases e:d=t
  .subst e;simp[Act.put,this]
  .have e':¬(some d=some t):=by simpa using e
   simp only[Act.put,e',oU];simp[tN,e]
section
variable {P:Program} {X:Nat->Prop} {w0:bz} {st:St} {β:Nat->Value} {a:Act} {w w':World}
theorem ax.put(K:ax X w0 st β a w)(J:Below w.heap.size w w'){dst:Option Tmp}{s:ah}{v:Value}(L:∀ t,dst=some t->t<st.n)(M:ah.lo st.next s)
  (hs:Sm w' (Ex X β st.own) β s v):ax X w0 (st.put dst s) β (a.put dst v) w':=by
 have G:bh w (Ex X β st.own) w' (Ex X β st.own):=bh.dC J _
 have O:(st.put dst s).n=st.n:=by cases dst <;> rfl
 have Q:(st.put dst s).own=st.own:=by cases dst <;> rfl
 have T:(st.put dst s).next=st.next:=by cases dst <;> rfl
 refine⟨K.bU,by cases dst <;> exact K.bI,K.cB,?_,?_,K.below.next J,?_,?_,?_,?_⟩
 .cases dst <;> exact K.defers
 .rw[O,<-K.size];cases dst <;> simp[Act.put]
 .rw[Q];exact K.bB
 .rw[Q,T]
  intro id o H;obtain⟨V,Y,Z⟩:=K.own id o H;exact⟨V,Y,yV.over (m:=st.next) (λ_ _=>rfl) G V Y (λb F=>J.block b (K.lt b (.inr ⟨id,o,H,F⟩))) Z⟩
 .rw[Q];exact K.apart
 .rw[Q,T]
  intro t s' A;rw[B8 (λd E=>by rw[K.size];exact L d E)]
  cases dst with
  |none=>
   simp only[St.put] at A;have:=K.af t s' A
   exact⟨this.1,by simpa using Sm.over (m:=st.next) (λ_ _=>rfl) G this.1 this.2⟩
  |some d=>
   simp only[St.put,zc] at A;by_cases e:d=t
   .subst e;simp at A;subst A;simp;exact⟨M,hs⟩
   .simp only[e,oU] at A
    have:=K.af t s' A
    have e':¬(some d=some t):=by simpa using e
    simp only[e',oU];exact⟨this.1,Sm.over (m:=st.next) (λ_ _=>rfl) G this.1 this.2⟩
theorem ax.new(Q:ax X w0 st β a w)(T:Below w.heap.size w w'){o:am}{v:Value}(J:v.oneCell'=true)(L:o.lo st.next)
  (G:∀ b,bP v=some b->w.heap.size<=b)
  (M:yV w' w0.dS (λb=>Ex X β st.own b\/bP v=some b) (λi=>if i=st.next then v else β i) st.next o) :
  ax X w0 {st with next:=st.next+1,own:=(st.next,o)::st.own} (λi=>if i=st.next then v else β i) a w':=by
 have hβ:∀ id,id<st.next->(λi=>if i=st.next then v else β i) id=β id:=by
  intro id h;simp;intro e;omega
 have V:∀ b,Ex X (λi=>if i=st.next then v else β i) ((st.next,o)::st.own) b↔(Ex X β st.own b\/bP v=some b):=by
  intro b;constructor
  .rintro(h | ⟨id,o',H,h⟩)
   .exact .inl (.inl h)
   .rcases nE.1 H with e | H
    .cases e;simp at h;exact .inr h
    .have:=(Q.own id o' H).1
     rw[hβ id this] at h;exact .inl (.inr ⟨id,o',H,h⟩)
  .rintro((h | ⟨id,o',H,h⟩) | h)
   .exact .inl h
   .refine .inr ⟨id,o',nG _ H,?_⟩
    rw[hβ id (Q.own id o' H).1];exact h
   .exact .inr ⟨st.next,o,by simp,by simpa using h⟩
 have E:Ex X (λi=>if i=st.next then v else β i) ((st.next,o)::st.own)=(λb=>Ex X β st.own b\/bP v=some b):=funext λb=>propext (V b)
 have K:bh w (Ex X β st.own) w' (λb=>Ex X β st.own b\/bP v=some b):=by
  intro b F Y;refine⟨?_,T.block b F⟩
  rintro(h | h)
  .exact Y h
  .have:=G b h;omega
 refine⟨Q.bU,⟨wD Q.bI.1,λi Z A=>(hβ i (pg Z Q.bI.1)).trans (Q.bI.2 i Z A)⟩,λi=>by split;exact J;exact Q.cB i,Q.defers,Q.size,Q.below.next T,?_,?_,?_,?_⟩
 .simp only[nK,oE]
  refine⟨?_,Q.bB⟩
  intro h;obtain⟨⟨id,o'⟩,H,e⟩:=nS.1 h;have:=(Q.own id o' H).1
  simp at e;omega
 .intro id o' H
  rw[E];rcases nE.1 H with e | H
  .cases e
   exact⟨tC _,am.jA (rr _) L,M⟩
  .obtain⟨Z,A,B⟩:=Q.own id o' H
   exact⟨Cx Z,am.jA (rr _) A,yV.over (m:=st.next) hβ K Z A (λb O=>T.block b (Q.lt b (.inr ⟨id,o',H,O⟩))) B⟩
 .intro id o1 id' o2 b Z A e1 e2
  rcases nE.1 Z with e | Z <;> rcases nE.1 A with e' | A
  .cases e;cases e';rfl
  .cases e
   have F:=(Q.own id' o2 A).1;rw[ge (by omega)] at e2
   simp at e1
   have:=G b e1
   have:=Q.lt b (.inr ⟨id',o2,A,e2⟩)
   omega
  .cases e'
   have F:=(Q.own id o1 Z).1;rw[ge (by omega)] at e1
   simp at e2
   have:=G b e2
   have:=Q.lt b (.inr ⟨id,o1,Z,e1⟩)
   omega
  .have l1:=(Q.own id o1 Z).1
   have l2:=(Q.own id' o2 A).1;rw[ge (by omega)] at e1
   rw[ge (by omega)] at e2
   exact Q.apart id o1 id' o2 b Z A e1 e2
 .intro t s C
  have:=Q.af t s C
  rw[E];exact⟨ah.jA (rr _) this.1,Sm.over hβ K this.1 this.2⟩
end
end Go.V
namespace Go.V
variable [Dr] [Ov]
open Go.RowKit
theorem QH{α:Type}{t:Nat}{v:α}:∀ {l:List (Nat×α)},t∈l.map (·.1)->(zT t v l).map (·.1)=l.map (·.1)
 | [],h=>by cases h
 |(k,u)::r,h=>by
  simp only[zT];split
  .rfl
  .rename_i hk
   simp only[nK,nE] at h ⊢;rcases h with h | h
   .exact absurd h.symm hk
   .rw[QH h]
theorem QI{α:Type}{t:Nat}{v:α}:∀ {l:List (Nat×α)} {id:Nat} {o:α},(l.map (·.1)).Nodup->(id,o)∈zT t v l->(id=t/\o=v)\/(id≠t/\(id,o)∈l)
 | [],id,o,_,h=>by simp[zT] at h;exact .inl h
 |(k,u)::r,id,o,H,h=>by
  simp only[zT] at h;simp only[nK,oE] at H;split at h
  .rename_i G
   rcases nE.1 h with e | h
   .cases e;exact .inl ⟨G,rfl⟩
   .refine .inr ⟨?_,nG _ h⟩
    intro e;subst e;subst G;exact H.1 (nS.2 ⟨(k,o),h,rfl⟩)
  .rename_i G
   rcases nE.1 h with e | h
   .cases e;exact .inr ⟨G,by simp⟩
   .rcases QI H.2 h with e | ⟨e,h⟩
    .exact .inl e
    .exact .inr ⟨e,nG _ h⟩
theorem kO{α:Type}{t:Nat}:∀ {l:List (Nat×α)} {id:Nat} {o:α},(id,o)∈uW t l->id≠t/\(id,o)∈l
 | [],id,o,h=>by simp[uW] at h
 |(k,u)::r,id,o,h=>by
  simp only[uW] at h;split at h
  .have:=kO h;exact⟨this.1,nG _ this.2⟩
  .rename_i H
   rcases nE.1 h with e | h
   .cases e;exact⟨H,by simp⟩
   .have:=kO h;exact⟨this.1,nG _ this.2⟩
theorem B9{α:Type}{t:Nat}:∀ {l:List (Nat×α)},(l.map (·.1)).Nodup->((uW t l).map (·.1)).Nodup
 | [],_=>by simp[uW]
 |(k,u)::r,hn=>by
  simp only[nK,oE] at hn;simp only[uW];split
  .exact B9 hn.2
  .simp only[nK,oE]
   refine⟨λh=>hn.1 ?_,B9 hn.2⟩
   obtain⟨⟨id,o⟩,H,e⟩:=nS.1 h;exact nS.2 ⟨(id,o),(kO H).2,e⟩
section
variable {P:Program} {X:Nat->Prop} {w0:bz} {st:St} {β:Nat->Value} {a:Act} {w w':World}
theorem ax.step(M:ax X w0 st β a w){next':Nat}{own':List (Nat×am)}{β':Nat->Value}(O:st.next<=next')(E:∀ id,(β' id).oneCell'=true)(hβ:∀ id,id<st.next->β' id=β id)
  (H:cR w0 w') (F:(own'.map (·.1)).Nodup)
  (K:∀ id o,(id,o)∈own'->((id,o)∈st.own/\∀ b,bP (β id)=some b->w'.heap[b]?=w.heap[b]?)\/(id<next'/\o.lo next'/\yV w' w0.dS (Ex X β' own') β' id o))
  (G:∀ id o id' o' b,(id,o)∈own'->(id',o')∈own'->bP (β' id)=some b->bP (β' id')=some b->id=id')
  (L:bh w (Ex X β st.own) w' (Ex X β' own')):ax X w0 {st with next:=next',own:=own' } β' a w':=by
 refine⟨M.bU,⟨oC M.bI.1 O,λi Q T=>(hβ i (pg Q M.bI.1)).trans (M.bI.2 i Q T)⟩,E,M.defers,M.size,H,F,?_,G,?_⟩
 .intro id o J
  rcases K id o J with⟨h,hs⟩ | h
  .obtain⟨Q,T,V⟩:=M.own id o h
   exact⟨pg Q O,am.jA O T,yV.over (m:=st.next) hβ L Q T hs V⟩
  .exact h
 .intro t s Y
  have:=M.af t s Y
  exact⟨ah.jA O this.1,Sm.over hβ L this.1 this.2⟩
theorem zsa{id:Nat}{o o':am}(G:(st.own.map (·.1)).Nodup)(h:(id,o)∈st.own):Ex X β (zT id o' st.own)=Ex X β st.own:=by
 have H:=QH (v:=o') (nS.2 ⟨(id,o),h,rfl⟩:id∈st.own.map (·.1))
 funext b
 have key:(∃ i x,(i,x)∈zT id o' st.own/\bP (β i)=some b)↔(∃ i x,(i,x)∈st.own/\bP (β i)=some b):=by
  constructor
  .rintro⟨i,x,F,e⟩
   rcases QI G F with⟨rfl,rfl⟩ | ⟨_,F⟩
   .exact⟨i,o,h,e⟩
   .exact⟨i,x,F,e⟩
  .rintro⟨i,x,F,e⟩
   have:i∈(zT id o' st.own).map (·.1):=by rw[H];exact nS.2 ⟨(i,x),F,rfl⟩
   obtain⟨⟨j,y⟩,E,rfl⟩:=nS.1 this;exact⟨j,y,E,e⟩
 unfold Ex
 rw[key]
theorem ax.db(A:ax X w0 st β a w){id:Nat}{o o':am}(B:st.ay id=some o){b:Nat}(C:bP (β id)=some b)(F:w0.dS b)
  (G:∀ c,c≠b->w'.heap[c]?=w.heap[c]?) (L:w'.heap.size=w.heap.size) (M:w'.os=w.os) (E:w'.tape=w.tape) (K:w'.output=w.output) (O:jv w w')
  (Q:o'.lo st.next) (T:yV w' w0.dS (Ex X β st.own) β id o'):ax X w0 {st with own:=zT id o' st.own} β a w':=by
 have H:=xm B
 have I:=zsa (X:=X) (β:=β) (o':=o') A.bB H
 have J:cR w0 w':=A.below.k_ M E K (by rw[L];exact nJ _) (λk _ N=>G k (λe=>by subst e;exact N F)) O
 refine A.step (next':=st.next) (nJ _) A.cB (λ_ _=>rfl) J ?_ ?_ ?_ ?_
 .rw[QH (nS.2 ⟨(id,o),H,rfl⟩)];exact A.bB
 .intro i x P
  rcases QI A.bB P with⟨rfl,rfl⟩ | ⟨V,P⟩
  .right;rw[I];exact⟨(A.own i o H).1,Q,T⟩
  .left
   refine⟨P,λc S=>G c ?_⟩
   intro e;subst e;exact V (A.apart i x id o c P H S C)
 .intro i x j y c P W e1 e2
  have old:∀ {i x},(i,x)∈zT id o' st.own->∃ x',(i,x')∈st.own:=by
   intro i x P;rcases QI A.bB P with⟨rfl,rfl⟩ | ⟨_,P⟩
   .exact⟨o,H⟩
   .exact⟨x,P⟩
  obtain⟨x',Y⟩:=old P;obtain⟨y',Z⟩:=old W;exact A.apart i x' j y' c Y Z e1 e2
 .rw[I]
  intro c S he;refine⟨he,G c ?_⟩
  intro e;subst e;exact he (.inr ⟨id,o,H,C⟩)
theorem ax.replace(Y:ax X w0 st β a w){id:Nat}{o o':am}(Z:st.ay id=some o){v:Value}(Q:v.oneCell'=true)
  (K:cR w0 w') (F:∀ c,c<w.heap.size->some c≠bP (β id)->w'.heap[c]?=w.heap[c]?)
  (J:∀ b,bP v=some b->bP (β id)=some b\/w.heap.size<=b)
  (T:o'.lo (st.next+1)) (V:∀ E:Nat->Prop,bh w (Ex X β st.own) w' E->(∀ b,bP v=some b->E b)->yV w' w0.dS E (λi=>if i=st.next then v else β i) st.next o') :
  ax X w0 {st with next:=st.next+1,own:=(st.next,o')::uW id st.own} (λi=>if i=st.next then v else β i) a w':=by
 have G:=xm Z
 have cq:=(Y.own id o G).1
 have hβ:∀ i,i<st.next->(λi=>if i=st.next then v else β i) i=β i:=by
  intro i h;simp;intro e;omega
 have M:bh w (Ex X β st.own) w' (Ex X (λi=>if i=st.next then v else β i) ((st.next,o')::uW id st.own)):=by
  intro c A B;have O:some c≠bP (β id):=λe=>B (.inr ⟨id,o,G,e.symm⟩)
  refine⟨?_,F c A O⟩
  rintro(h | ⟨i,x,C,h⟩)
  .exact B (.inl h)
  .rcases nE.1 C with e | C
   .cases e
    simp at h
    rcases J c h with h | h
    .exact O h.symm
    .omega
   .have H:=(kO C).2
    have L:=(Y.own i x H).1;rw[hβ i L] at h;exact B (.inr ⟨i,x,H,h⟩)
 have sep:∀ {i x c},(i,x)∈uW id st.own->bP (β i)=some c->bP v=some c->False:=by
  intro i x c C I N;have H:=kO C;rcases J c N with h | h
  .exact H.1 (Y.apart i x id o c H.2 G I h)
  .have:=Y.lt c (.inr ⟨i,x,H.2,I⟩);omega
 refine Y.step (next':=st.next+1) (rr _) (λi=>by split;exact Q;exact Y.cB i) hβ K ?_ ?_ ?_ M
 .simp only[nK,oE]
  refine⟨?_,B9 Y.bB⟩
  intro h;obtain⟨⟨i,x⟩,C,e⟩:=nS.1 h;have:=(Y.own i x (kO C).2).1
  simp at e;omega
 .intro i x C
  rcases nE.1 C with e | C
  .cases e
   right
   exact⟨tC _,T,V _ M (λb P=>.inr ⟨st.next,o',by simp,by simpa using P⟩)⟩
  .left
   have H:=kO C;refine⟨H.2,λc A=>F c (Y.lt c (.inr ⟨i,x,H.2,A⟩)) ?_⟩
   intro e;exact H.1 (Y.apart i x id o c H.2 G A e.symm)
 .intro i x j y c C S e1 e2
  rcases nE.1 C with e | C <;> rcases nE.1 S with e' | S
  .cases e;cases e';rfl
  .cases e
   have L:=(Y.own j y (kO S).2).1;rw[ge (by omega)] at e2;simp at e1
   exact(sep S e2 e1).elim
  .cases e'
   have L:=(Y.own i x (kO C).2).1;rw[ge (by omega)] at e1;simp at e2
   exact(sep C e1 e2).elim
  .have l1:=(Y.own i x (kO C).2).1
   have l2:=(Y.own j y (kO S).2).1;rw[ge (by omega)] at e1
   rw[ge (by omega)] at e2
   exact Y.apart i x j y c (kO C).2 (kO S).2 e1 e2
end
end Go.V
namespace Go.V
variable [Dr] [Ov]
open Go.RowKit
def vh:ah->Option (List ah)
 |.d (.agg l)=>some (l.map .d)
 |.d (.bE _)=>none
 |.d (.val _)=>none
 |.d x=>some [.d x]
 |.agg l=>some l
 |.bE _=>none
 |.junk=>none
 |s=>some [s]
section
variable {P:Program} {X:Nat->Prop} {w0:bz} {st:St} {β:Nat->Value} {a:Act} {w w':World} {E:Nat->Prop} {m:Nat}
theorem Jk(hβ:∀ id,(β id).oneCell'=true){s:ah}{l:List ah}{v:Value}(h:vh s=some l)(H:ah.lo m s)(hs:Sm w E β s v):
  ∃ vs:List Value,v.cells=vs.toArray/\zi w E β l vs/\(∀ u∈vs,u.oneCell'=true)/\ah.a_ m l:=by
 have cB:∀ {s:ah} {v:Value},ah.lo m s->Sm w E β s v->v.oneCell'=true->∃ vs:List Value,v.cells=vs.toArray/\zi w E β [s] vs/\(∀ u∈vs,u.oneCell'=true)/\ah.a_ m [s]:=by
  intro s v H hs G;refine⟨[v],?_,by simp[zi,hs],by simpa using G,by simpa[ah.a_] using H⟩
  cases v <;> first | rfl | simp[Value.oneCell'] at G
 cases s
 case d x=>
  cases x <;> simp only[vh] at h
  case agg l'=>
   simp at h;subst h
   simp only[Sm,R] at hs;obtain⟨vs,rfl,F⟩:=hs;exact⟨vs,rfl,zi.Z3 F.fS,F.cB,ah.Ro m l'⟩
  case bE=>cases h
  case val=>cases h
  all_goals (simp at h;subst h;refine cB H hs ?_;simp only[Sm,R] at hs)
  case int=>subst hs;rfl
  case bool=>subst hs;rfl
  case str=>subst hs;rfl
  case sl=>obtain⟨_,_,rfl,_⟩:=hs;rfl
  case ptr=>obtain⟨_,_,rfl,_⟩:=hs;rfl
  case fn=>obtain⟨_,rfl,_⟩:=hs;rfl
  case mp=>obtain⟨_,_,_,rfl,_⟩:=hs;rfl
 case agg l'=>
  simp[vh] at h;subst h;simp only[Sm] at hs;obtain⟨vs,rfl,F,G⟩:=hs;exact⟨vs,rfl,F,G,by simpa[ah.lo] using H⟩
 case bE=>simp[vh] at h
 case junk=>simp[vh] at h
 all_goals (simp[vh] at h;subst h;refine cB H hs ?_;simp only[Sm] at hs)
 case aW=>subst hs;rfl
 case bp=>obtain⟨_,_,rfl⟩:=hs;rfl
 case ar=>subst hs;exact hβ _
 case ap=>obtain⟨_,_,_,_,rfl⟩:=hs;rfl
 case a_s=>obtain⟨_,_,_,_,_,rfl,_⟩:=hs;rfl
 case av=>obtain⟨_,_,_,rfl,_⟩:=hs;rfl
 case yd=>obtain⟨_,_,rfl⟩:=hs;rfl
 case mp=>subst hs;exact hβ _
 case fn=>obtain⟨_,rfl,_⟩:=hs;rfl
end
end Go.V
namespace Go.V
variable [Dr] [Ov]
open Go.RowKit
def St.new(st:St)(o:am):St:={st with next:=st.next+1,own:=(st.next,o)::st.own}
def St.set(st:St)(id:Nat)(o:am):St:={st with own:=zT id o st.own}
def Jl(st:St)(dst:Option Tmp)(T:Nat)(s:ah)(K:St->Prop):Prop:=
 match vh s with
 |some l=>K ((st.new (.box T l)).put dst (.bp st.next 0))
 |none=>False
def Ba(st:St)(dst:Option Tmp)(T:Nat)(ti:TI)(K:St->Prop):Prop:=
 ti.zero.all (·.oneCell')=true/\K ((st.new (.box T (ti.zero.map bY))).put dst (.bp st.next 0))
def Bc(st:St)(dst:Option Tmp)(e sz:Nat)(K:St->Prop):Prop:=
 K ((st.new (.aQ e sz [])).put dst (.ar st.next))
def aO{α:Type}(l:List α)(off:Nat)(x:List α):List α:=l.take off++x++l.drop (off+x.length)
def Xm(st:St)(ti:TI)(addr s:ah)(K:St->Prop):Prop:=
 match addr with
 |.bp id off=>match st.ay id with
  |some (.box T cells)=>match vh s with
   |some l=>l.length=ti.size/\off+l.length<=cells.length/\K (st.set id (.box T (aO cells off l)))
   |none=>False
  |_=>False
 |.ap id sz i off=>match st.ay id with
  |some (.aQ T sz' rows)=>match vh s with
   |some l=>match vD l with
    |some ds=>sz=sz'/\i<rows.length/\ds.length=ti.size/\off+ds.length<=(rows.getD i []).length/\K (st.set id (.aQ T sz (rows.set i (aO (rows.getD i []) off ds))))
    |none=>False
   |none=>False
  |_=>False
 |_=>False
section
variable {P:Program} {X:Nat->Prop} {w0:bz} {st:St} {β:Nat->Value} {a:Act} {w w':World}
def br(P:Program)(X:Nat->Prop)(w0:bz)(o:Oper)(a:Act)(w:World)(K:St->Prop):Prop:=
 ∀ (N:Act->World->Prop) (Q:Exit->Act->World->Prop),(∀ a' w' st' β',K st'->ax X w0 st' β' a' w'->N a' w')->o.wp P a w N Q
theorem br.U5{o:Oper}{K:St->Prop}(H:ax X w0 st β a w)(G:∀ t,o.dst=some t->t<st.n)(h:Yields P X st β a w o (λs=>K (st.put o.dst s))):br P X w0 o a w K:=by
 intro N Q F
 exact h N Q λs v w' E J L hs=>F _ w' _ β E (H.put L G J hs)
theorem br.x9{o:Oper}{K:St->Prop}{v:Value}{st':St}{β':Nat->Value}(H:(execOp a.eval o).run P w = .ok (.value v) w')(G:K st')(F:ax X w0 st' β' (a.put o.dst v) w'):br P X w0 o a w K:=by
 intro N Q E
 unfold Oper.wp
 rw[H]
 exact E _ _ _ _ G F
theorem br.U6{o:Oper}{K:St->Prop}{st':St}{β':Nat->Value}(H:(execOp a.eval o).run P w = .ok .skip w')(G:K st')(F:ax X w0 st' β' (a.put o.dst undef) w'):br P X w0 o a w K:=by
 intro N Q E
 unfold Oper.wp
 rw[H]
 exact E _ _ _ _ G F
theorem kP(w:World)(o:Obj):Below w.heap.size w (w.alloc o):=(Below.refl _ _).alloc (nJ _) o
theorem RB(H:ax X w0 st β a w)(o:Obj):bh w (Ex X β st.own) (w.alloc o) (λb=>Ex X β st.own b\/some w.heap.size=some b):=by
 intro b G F
 refine⟨?_,(kP w o).block b G⟩
 rintro(h | h)
 .exact F h
 .simp at h;omega
theorem ax.RD(H:ax X w0 st β a w){T:Nat}{l:List ah}{vs:List Value}(G:ah.a_ st.next l)(hs:zi w (Ex X β st.own) β l vs)(F:∀ u∈vs,u.oneCell'=true):
  ax X w0 (st.new (.box T l)) (λi=>if i=st.next then .pointer (some ⟨w.heap.size,0,none⟩) else β i) a (w.alloc (.cells vs.toArray T)):=by
 refine H.new (kP w _) rfl G (λb hb=>by simp[bP] at hb;omega) ?_
 have hβ:∀ id,id<st.next->(λi=>if i=st.next then Value.pointer (some ⟨w.heap.size,0,none⟩) else β i) id=β id:=by
  intro id h;simp;intro e;omega
 refine⟨w.heap.size,vs,by simp,.inl H.below.size,Go.heap_alloc_new w _,?_,F⟩
 exact zi.over hβ (RB H _) G hs
theorem ax.yH(H:ax X w0 st β a w){dst:Option Tmp}{s:ah}{v:Value}(G:∀ t,dst=some t->t<st.n)(F:ah.lo st.next s)
  (hs:Sm w (Ex X β st.own) β s v):ax X w0 (st.put dst s) β (a.put dst v) w:=H.put (Below.refl _ _) G F hs
theorem zh6(F:ax X w0 st β a w){o:Oper}{T:Nat}{x:Operand}(E:o.op = .box T x)(J:∀ t,o.dst=some t->t<st.n){K:St->Prop}(h:Jl st o.dst T (st.val x) K):br P X w0 o a w K:=by
 unfold Jl at h
 split at h
 .rename_i l L
  obtain⟨vs,M,hs,O,H⟩:=Jk F.cB L (F.val x).1 (F.val x).2;have G:=F.RD (T:=T) H hs O;refine br.x9 (v:=.pointer (some ⟨w.heap.size,0,none⟩)) (w':=w.alloc (.cells vs.toArray T)) ?_ h (G.yH J (by simp[ah.lo,St.new]) ?_)
  .simp[execOp,E,Instr.box,newVar,newRow,M]
  .simp only[Sm];exact⟨w.heap.size,by simp,rfl⟩
 .exact h.elim
theorem zcw(E:ax X w0 st β a w){o:Oper}{T:Nat}(J:o.op = .alloc T){ti:TI}(L:TI.of P T=some ti)(M:∀ t,o.dst=some t->t<st.n){K:St->Prop}(h:Ba st o.dst T ti K):br P X w0 o a w K:=by
 obtain⟨i,u,z,hi,O,Q,_,_,_,_,H⟩:=y8 L
 obtain⟨V,h⟩:=h
 have G:=E.RD (T:=T) (U2 _ ti.zero) (U1 _ _ _ ti.zero) (λu O=>by simpa using(oo.1 V) u O)
 have F:z.cells=ti.zero.toArray:=by rw[H]
 refine br.x9 (v:=.pointer (some ⟨w.heap.size,0,none⟩)) (w':=w.alloc (.cells ti.zero.toArray T)) ?_ h (G.yH M (by simp[ah.lo,St.new]) ?_)
 .simp[execOp,J,Instr.alloc,zeroValue,typeInfo,hi,Q,newVar,newRow,F]
 .simp only[Sm];exact⟨w.heap.size,by simp,rfl⟩
theorem ax.Xn(H:ax X w0 st β a w)(e sz:Nat):ax X w0 (st.new (.aQ e sz [])) (λi=>if i=st.next then .slice none 0 0 else β i) a w:=by
 refine H.new (Below.refl _ _) rfl trivial (λb G=>by simp[bP] at G) ?_
 exact⟨[],⟨by simpa using World.ownsRow_nil w 0 e sz,by simp[bP]⟩,by simp[zl],by simp⟩
theorem zh7(H:ax X w0 st β a w){o:Oper}(G:o.op = .assign (.const (.slice none 0 0)))(F:∀ t,o.dst=some t->t<st.n){e sz:Nat}{K:St->Prop}(h:Bc st o.dst e sz K):br P X w0 o a w K:=by
 refine br.x9 (v:=.slice none 0 0) (w':=w) (by simp[execOp,G,Act.eval]) h ((H.Xn e sz).yH F (by simp[ah.lo,St.new]) ?_)
 simp[Sm]
end
end Go.V
namespace Go.V
variable [Dr] [Ov]
open Go.RowKit
section
variable {P:Program} {X:Nat->Prop} {w0:bz} {st:St} {β:Nat->Value} {a:Act} {w w':World} {E:Nat->Prop}
theorem zi.aO{l m:List ah}{vs us:List Value}(h:zi w E β l vs)(H:zi w E β m us)(off:Nat):zi w E β (aO l off m) (aO vs off us):=by
 unfold Go.V.aO
 have G:=H.length
 rw[G]
 exact zi.append (zi.append (zi.take off h) H) (zi.drop _ h)
theorem ah.U7{m:Nat}{l r:List ah}(h:ah.a_ m l)(H:ah.a_ m r)(off:Nat):ah.a_ m (Go.V.aO l off r):=
 ah.CX (ah.CX (ah.KV off h) H) (ah.Je _ h)
theorem Jm{α:Type}{l r:List α}{off:Nat}{x:α}(h:x∈aO l off r):x∈l\/x∈r:=by
 unfold aO at h
 rcases nM.1 h with h | h
 .rcases nM.1 h with h | h
  .exact .inl (oh h)
  .exact .inr h
 .exact .inl (oH h)
theorem QJ{α:Type}{l u:List α}{off:Nat}(h:off+u.length<=l.length):(aO l off u).length=l.length:=by
 simp[aO];omega
theorem Bd{α:Type}{l u:List α}{off:Nat}(h:off+u.length<=l.length)(j:Nat):
  (aO l off u)[j]?=if j<off then l[j]? else if j<off+u.length then u[j-off]? else l[j]?:=by
 unfold aO
 have H:(l.take off).length=off:=by simp;omega
 by_cases a:j<off
 .rw[gt a,pA,pl (by omega),og,gt a]
 .rw[ge a,pA,pF (by omega),H]
  by_cases b:j<off+u.length
  .rw[gt b,pl (by omega)]
  .rw[ge b,pF (by omega),oQ]
   congr 1;omega
theorem RE{α:Type}{l u:List α}{off k:Nat}(h:off+u.length<=k)(H:k<=l.length):(aO l off u).take k=aO (l.take k) off u:=by
 apply ro
 intro j
 have G:(l.take k).length=k:=by simp;omega
 rw[Bd (by omega),og,Bd (by omega),og]
 by_cases a:j<k
 .rw[gt a,gt a]
 .rw[ge a,ge a,ge (by omega),ge (by omega)]
theorem cx{sz:Nat}:∀ {rows:List (List D)},(∀ r∈rows,r.length=sz)->rows.flatten.length=rows.length*sz
 | [],_=>by simp
 |r::rs,h=>by
  have:=cx (rows:=rs) (λq H=>h q (by simp[H]))
  simp[this,h r (by simp),oR];omega
theorem RF{sz off:Nat}{ds:List D}:∀ {rows:List (List D)} {i:Nat},i<rows.length->(∀ r∈rows,r.length=sz)->off+ds.length<=sz ->
  (rows.set i (aO (rows.getD i []) off ds)).flatten=aO rows.flatten (i*sz+off) ds
 | [],i,hi,_,_=>by simp at hi
 |r::rs,0,hi,H,G=>by
  have F:=H r (by simp)
  simp only[tc,oZ,List.getD_cons_zero,Nat.zero_mul,pG,aO];rw[o_ (by omega),sg (by omega)]
  simp
 |r::rs,i+1,hi,H,G=>by
  have F:=H r (by simp)
  have ih:=RF (rows:=rs) (i:=i) (by simpa using hi) (λq E=>H q (by simp[E])) G
  simp only[sk,oZ,B_];rw[ih];simp only[aO];have e:(i+1)*sz+off=r.length+(i*sz+off):=by rw[oR];omega
  have e':(i+1)*sz+off+ds.length=r.length+(i*sz+off+ds.length):=by omega
  rw[e',e,List.take_length_add_append,List.drop_length_add_append];simp only[pA]
theorem zl.drop{l:List D}{vs:List Value}(n:Nat)(h:zl w E l vs):zl w E (l.drop n) (vs.drop n):=by
 have:=zl.extract n (l.length) h
 rw[oa (by simp),oa (by have:=h.length;simp;omega)] at this
 exact this
theorem zl.take{l:List D}{vs:List Value}(n:Nat)(h:zl w E l vs):zl w E (l.take n) (vs.take n):=by
 simpa using zl.extract 0 n h
theorem zl.aO{l m:List D}{vs us:List Value}(h:zl w E l vs)(H:zl w E m us)(off:Nat):zl w E (aO l off m) (aO vs off us):=by
 unfold Go.V.aO
 have G:=H.length
 rw[G]
 exact zl.append (zl.append (zl.take off h) H) (zl.drop _ h)
theorem QK{b:Nat}{w w':World}{E:Nat->Prop}(H:E b)(hs:∀ c,c≠b->w'.heap[c]?=w.heap[c]?):bh w E w' E:=
 λc _ G=>⟨G,hs c (λe=>G (e▸H))⟩
theorem RG{t:Nat}{ti:TI}(E:TI.of P t=some ti){b off:Nat}{v:Value}{us:List Value}(K:v.cells=us.toArray)(H:us.length=ti.size){cur:List Value}{T:Nat}
  (J:w.heap[b]?=some (.cells cur.toArray T (0,0))) (G:off+us.length<=cur.length) (L:∀ u∈us,u.oneCell'=true) :
  (Instr.storeAt t (.pointer (some ⟨b,off,none⟩)) v).run P w = .ok () (w.setRow b (aO cur off us).toArray):=by
 obtain⟨i,u,z,hi,M,O,_,F,_⟩:=y8 E
 have Q:=run_storeCells_at (P:=P) b off T us 0 cur.toArray w J (by simpa using G) L
 simp only[rf] at Q
 have e:¬(v.cells.size≠i.size):=by rw[K,<-F,<-H];simp
 have e2:us.length=i.size:=by rw[<-F,H]
 simp[Instr.storeAt,Instr.sureAddr,storeVar,bQ hi,K,e2,Q,aO]
theorem zcx(hm:ax X w0 st β a w){o:Oper}{t:Nat}{ad x:Operand}(ho:o.op = .store t ad x){ti:TI}(ht:TI.of P t=some ti)(hd:o.dst=none){K:St->Prop}
  (h:Xm st ti (st.val ad) (st.val x) K):br P X w0 o a w K:=by
 have Q:∀ v,a.put o.dst v=a:=by intro v;rw[hd];rfl
 unfold Xm at h
 split at h
 .rename_i id off had
  split at h
  .rename_i T cells L
   split at h
   .rename_i l hl
    obtain⟨Hc,B,h⟩:=h;obtain⟨us,hc,hs,h1,C⟩:=Jk hm.cB hl (hm.val x).1 (hm.val x).2;obtain⟨cq,I,b,vs,hb,G,hh,H1,Hd⟩:=hm.dm L;have F:=(hm.val ad).2;rw[had] at F;simp only[Sm] at F;obtain⟨b',H2,F⟩:=F;rw[hb] at H2;cases H2;have Hi:=hs.length;have F1:=H1.length;have M:=RG (P:=P) (w:=w) ht (b:=b) (off:=off) hc (by omega) hh (by omega) h1
    have O:=setRow_heap w b vs.toArray (aO vs off us).toArray T (0,0) hh;have N:Ex X β st.own b:=.inr ⟨id,_,xm L,by rw[hb];rfl⟩
    have H:∀ c,c≠b->(w.setRow b (aO vs off us).toArray).heap[c]?=w.heap[c]?:=λc hc=>setRow_other w b c _ hc
    have S:=QK N H;refine br.U6 (β':=β) (w':=w.setRow b (aO vs off us).toArray) ?_ h ?_
    .simp[execOp,ho,F,M]
    .rw[Q]
     refine hm.db L (b:=b) (by rw[hb];rfl) G H (by simp) rfl rfl rfl (λ_=>by simp) (ah.U7 I C off) ?_
     exact⟨b,_,hb,G,O,zi.over (m:=st.next) (λ_ _=>rfl) S (ah.U7 I C off) (zi.aO H1 hs off),λu hu=>(Jm hu).elim (Hd u) (h1 u)⟩
   .exact h.elim
  .exact h.elim
 .rename_i id sz i off had
  split at h
  .rename_i T sz' rows L
   split at h
   .rename_i l hl
    split at h
    .rename_i ds Hp
     obtain⟨rfl,hi,Hc,B,h⟩:=h;obtain⟨us,hc,hs,h1,C⟩:=Jk hm.cB hl (hm.val x).1 (hm.val x).2;have Hb:=KW Hp hs h1;obtain⟨cq,I,xs,hx,Hs,W⟩:=hm.dm L;have F:=(hm.val ad).2;rw[had] at F;simp only[Sm] at F;obtain⟨b,n,c,hb,F⟩:=F;rcases hx.1.2 with⟨hn,h0⟩ | ⟨g,cap,cur,hg,Hx,hh,E,G2,Ga,V⟩
     .omega
     .have G:=(hx.2 g (by rw[hg];rfl)).1
      have Y:=(hx.2 g (by rw[hg];rfl)).2 _ _ _ hh
      have Gb:b=g:=by rw[hg] at hb;simp at hb;exact hb.1.symm
      rw[Gb] at F;have Hi:us.length=ds.length:=Hb.length
      have O:rows.getD i []=rows[i]:=by simp[ot,hi]
      have Gc:(rows.getD i []).length=sz:=by rw[O];exact W _ (nF hi)
      have Gd:xs.length=rows.length*sz:=hx.1.1
      have Fc:i*sz+off+us.length<=rows.length*sz:=by
       have:(i+1)*sz<=rows.length*sz:=oY _ hi
       rw[oR] at this;omega
      have Go:rows.length*sz<=cap*sz:=oY _ E
      have H0:cur.toList.toArray=cur:=by simp
      have Gr:w.heap[g]?=some (.cells cur.toList.toArray T (0,0)):=by rw[H0];exact hh
      have F0:cur.toList.length=cap*sz:=by simpa using Ga
      have M:=RG (P:=P) (w:=w) ht (b:=g) (off:=i*sz+off) hc (by omega) Gr (by omega) h1
      have N:Ex X β st.own g:=.inr ⟨id,_,xm L,by rw[hg];rfl⟩
      have H:∀ c,c≠g->(w.setRow g (aO cur.toList (i*sz+off) us).toArray).heap[c]?=w.heap[c]?:=λc hc=>setRow_other w g c _ hc
      have S:=QK N H;have J:=setRow_heap w g cur (aO cur.toList (i*sz+off) us).toArray T (0,0) hh
      -- the data
      have Z:(rows.set i (aO (rows.getD i []) off ds)).flatten=aO rows.flatten (i*sz+off) ds:=RF hi W (by omega)
      refine br.U6 (β':=β) (w':=w.setRow g (aO cur.toList (i*sz+off) us).toArray) ?_ h ?_
      .simp[execOp,ho,F,M]
      .rw[Q]
       refine hm.db L (b:=g) (by rw[hg];rfl) G H (by simp) rfl rfl rfl (λ_=>by simp) trivial ?_
       refine⟨aO xs (i*sz+off) us,⟨⟨?_,.inr ⟨g,cap,_,?_,Hx,J,?_,G2,?_,?_⟩⟩,λb2 A=>⟨(hx.2 b2 A).1,by
         rw[hg] at A;simp[bP] at A;subst A;exact xY.of J (λu hu=>(Jm (by simpa using hu)).elim (Y u) (h1 u))⟩⟩,?_,?_⟩
       .rw[QJ (by omega)];simpa using Gd
       .rw[hg];simp
       .simpa using E
       .simp only[sK];rw[QJ (by omega)];exact F0
       .simp only[rS]
        rw[RE (by omega) (by omega),V]
       .rw[Z]
        exact zl.over S _ _ (zl.aO Hs Hb _)
       .intro r hr
        rcases List.mem_or_eq_of_mem_set hr with hr | rfl
        .exact W r hr
        .rw[QJ (by omega)];exact Gc
    .exact h.elim
   .exact h.elim
  .exact h.elim
 .exact h.elim
end
end Go.V
namespace Go.V
variable [Dr] [Ov]
open Go.RowKit
def Xo(x:D)(i s j o:Nat):ah:=match x with
 |.sl l=>if j+o<=l.length/\dh l=s then .d (.sl ((l.drop j).take o)) else .a_s i s j o
 |_=>.a_s i s j o
mutual
def bX(id:Nat)(rows:D):ah->ah
 |.ar i=>if i=id then .d rows else .ar i
 |.agg l=>wZ (xZ id rows l)
 |.bE l=>.bE (xZ id rows l)
 |.d x=>.d x
 |.aW=>.aW
 |.bp i o=>.bp i o
 |.ap i s j o=>.ap i s j o
 |.a_s i s j o=>if i=id then Xo rows i s j o else .a_s i s j o
 |.av i s j o=>if i=id then Xo rows i s j o else .av i s j o
 |.yd i=>.yd i
 |.mp i=>if i=id then .d rows else .mp i
 |.fn f l=>.fn f l
 |.junk=>.junk
def xZ(id:Nat)(rows:D):List ah->List ah
 | []=>[]
 |s::r=>bX id rows s::xZ id rows r
end
def Zz(id:Nat)(rows:D):am->am
 |.box T cells=>.box T (xZ id rows cells)
 |.aQ T sz rs=>.aQ T sz rs
 |.map T rs=>.map T rs
 |.cN k cells=>.cN k (xZ id rows cells)
def ga(id:Nat)(rows:D):List (Nat×ah)->List (Nat×ah)
 | []=>[]
 |(t,s)::r=>(t,bX id rows s)::ga id rows r
def qw(id:Nat)(rows:D):List (Nat×am)->List (Nat×am)
 | []=>[]
 |(t,o)::r=>if t=id then qw id rows r else (t,Zz id rows o)::qw id rows r
def St.vP(st:St)(id:Nat):St:=
 match st.ay id with
 |some (.aQ _ _ rows)=>{st with af:=ga id (.sl rows) st.af,own:=qw id (.sl rows) st.own}
 |some (.map _ rows)=>{st with af:=ga id (.mp rows) st.af,own:=qw id (.mp rows) st.own}
 |_=>st
def St.xn(st:St):List Nat->St
 | []=>st
 |id::r=>(st.vP id).xn r
section
variable {P:Program} {X:Nat->Prop} {w0:bz} {st:St} {β:Nat->Value} {a:Act} {w w':World} {E:Nat->Prop} {m:Nat} {id:Nat} {rows:D}
theorem RH{N:Nat->Prop}{T sz:Nat}{rows:List (List D)}{v:Value}{xs:List Value}{E E':Nat->Prop}(L:ja N w T sz v rows.length xs)(M:zl w E rows.flatten xs)(F:∀ r∈rows,r.length=sz)
  (O:∀ b,bP v=some b->¬E' b) (K:bh w E w E'):R w E' (.sl rows) v:=by
 simp only[R]
 rcases L.1.2 with⟨Q,V⟩ | ⟨g,cap,cur,X,Y,Z,H,G,_⟩
 .refine⟨none,0,by rw[Q,V],by omega,nU _,λ_=>rfl,λh=>absurd (nZ V) h⟩
 .refine⟨_,cap,X,H,G,by simp,λhne=>⟨g,0,rfl,O g (by rw[X];rfl),(oD.1 Z).1,?_⟩⟩
  have J:dh rows=sz:=by
   cases rows with
   |nil=>exact absurd rfl hne
   |cons r rs=>exact F r (by simp)
  rw[J];refine yj.fv F (zZ.dZ (zl.over K _ _ M) λj u hj=>?_)
  rw[pG];exact KY L.1 X hj
theorem RI{x:D}{i s j o:Nat}(h:ah.lo m (.a_s i s j o)):ah.lo m (Xo x i s j o):=by
 unfold Xo
 split
 .split
  .simp[ah.lo]
  .exact h
 .exact h
theorem RJ{E':Nat->Prop}{x:D}{i s j o:Nat}{v:Value}(L:R w E' x (β i))(h:Sm w E β (.a_s i s j o) v):Sm w E' β (Xo x i s j o) v:=by
 unfold Xo
 split
 .rename_i l
  split
  .rename_i M
   obtain⟨J,G⟩:=M;simp only[Sm,R] at h L ⊢;obtain⟨b,mm,c,k,hβ,rfl,O,Q⟩:=h;obtain⟨a',cap,e1,e2,e3,e4,e5⟩:=L;rw[hβ] at e1;simp only[Value.slice.injEq] at e1;obtain⟨rfl,rfl,rfl⟩:=e1;have H:((l.drop j).take o).length=o:=by simp;omega
   refine⟨_,k,by rw[H],by rw[H];exact O,Q,by simp,λhne=>?_⟩
   have F:l≠[]:=by intro e;subst e;simp at hne
   obtain⟨b',off,q1,q2,q3,q4⟩:=e5 F;simp only[pB,Addr.mk.injEq] at q1;obtain⟨rfl,rfl,_⟩:=q1;refine⟨b,j*s,rfl,q2,q3,?_⟩
   have q5:=yj.take o (yj.drop j q4);rw[pG,G] at q5;have K:dh ((l.drop j).take o)=s:=by
    cases T:(l.drop j).take o with
    |nil=>exact absurd T hne
    |cons r rs=>
     rw[T] at q5;exact yj.length q5 r (by simp)
   rw[K];exact q5
  .simpa[Sm] using h
 .simpa[Sm] using h
mutual
theorem RL:∀ {s:ah},ah.lo m s->ah.lo m (bX id rows s)
 |.ar i,h=>by simp only[bX];split <;> simp_all[ah.lo]
 |.agg l,h=>by simp only[bX,ah.lo] at h ⊢;exact Jg (Jn h)
 |.bE l,h=>by simp only[bX,ah.lo] at h ⊢;exact Jn h
 |.d x,h=>by simpa[bX] using h
 |.aW,h=>by simpa[bX] using h
 |.bp i o,h=>by simpa[bX] using h
 |.ap i s j o,h=>by simpa[bX] using h
 |.a_s i s j o,h=>by simp only[bX];split;exact RI h;exact h
 |.av i s j o,h=>by simp only[bX];split;exact RI (by simpa[ah.lo] using h);exact h
 |.yd i,h=>by simpa[bX] using h
 |.mp i,h=>by simp only[bX];split <;> simp_all[ah.lo]
 |.fn f l,h=>by simpa[bX] using h
 |.junk,h=>by simpa[bX] using h
theorem Jn:∀ {l:List ah},ah.a_ m l->ah.a_ m (xZ id rows l)
 | [],h=>by simpa[xZ] using h
 |s::r,h=>by simp only[xZ,ah.a_] at h ⊢;exact⟨RL h.1,Jn h.2⟩
end
mutual
theorem RN{E':Nat->Prop}(G:R w E' rows (β id))(H:bh w E w E'):∀ {s:ah} {v:Value},Sm w E β s v->Sm w E' β (bX id rows s) v
 |.ar i,v,h=>by
  simp only[bX];split
  .rename_i e;subst e;simp only[Sm] at h ⊢;subst h;exact G
  .simpa[Sm] using h
 |.agg l,v,h=>by
  simp only[bX,Sm] at h ⊢;obtain⟨vs,rfl,F,K⟩:=h;exact Jf (Jo G H F) K
 |.bE l,v,h=>by
  simp only[bX,Sm] at h ⊢;obtain⟨vs,rfl,F⟩:=h;exact⟨vs,rfl,Jo G H F⟩
 |.d x,v,h=>by simp only[bX,Sm] at h ⊢;exact R.over H _ _ h
 |.aW,v,h=>by simpa[bX,Sm] using h
 |.bp i o,v,h=>by simpa[bX,Sm] using h
 |.ap i s j o,v,h=>by simpa[bX,Sm] using h
 |.a_s i s j o,v,h=>by
  simp only[bX];split
  .rename_i e;subst e;exact RJ G h
  .simpa[Sm] using h
 |.av i s j o,v,h=>by
  simp only[bX];split
  .rename_i e;subst e
   refine RJ (E:=E) G ?_
   simp only[Sm] at h ⊢;obtain⟨b,c,F,K,J,L⟩:=h;exact⟨b,c,c,c-j,F,K,by omega,by omega⟩
  .simpa[Sm] using h
 |.yd i,v,h=>by simpa[bX,Sm] using h
 |.mp i,v,h=>by
  simp only[bX];split
  .rename_i e;subst e;simp only[Sm] at h ⊢;subst h;exact G
  .simpa[Sm] using h
 |.fn f l,v,h=>by
  simp only[bX,Sm] at h ⊢;obtain⟨vs,rfl,F⟩:=h;exact⟨vs,rfl,Xp H F⟩
 |.junk,v,h=>by simp[bX,Sm]
theorem Jo{E':Nat->Prop}(G:R w E' rows (β id))(H:bh w E w E'):∀ {l:List ah} {vs:List Value},zi w E β l vs->zi w E' β (xZ id rows l) vs
 | [],vs,h=>by simpa[xZ,zi] using h
 |s::r,vs,h=>by
  simp only[xZ,zi] at h ⊢;obtain⟨v,vs',rfl,F,K⟩:=h;exact⟨v,vs',rfl,RN G H F,Jo G H K⟩
theorem QL{E':Nat->Prop}(H:bh w E w E'):∀ {s:ah} {v:Value},Sm w E β s v->Sm w E' β s v
 |.ar i,v,h=>by simpa[Sm] using h
 |.agg l,v,h=>by
  simp only[Sm] at h ⊢;obtain⟨vs,rfl,G,F⟩:=h;exact⟨vs,rfl,Xp H G,F⟩
 |.bE l,v,h=>by
  simp only[Sm] at h ⊢;obtain⟨vs,rfl,G⟩:=h;exact⟨vs,rfl,Xp H G⟩
 |.d x,v,h=>by simp only[Sm] at h ⊢;exact R.over H _ _ h
 |.aW,v,h=>by simpa[Sm] using h
 |.bp i o,v,h=>by simpa[Sm] using h
 |.ap i s j o,v,h=>by simpa[Sm] using h
 |.a_s i s j o,v,h=>by simpa[Sm] using h
 |.av i s j o,v,h=>by simpa[Sm] using h
 |.yd i,v,h=>by simpa[Sm] using h
 |.mp i,v,h=>by simpa[Sm] using h
 |.fn f l,v,h=>by
  simp only[Sm] at h ⊢;obtain⟨vs,rfl,G⟩:=h;exact⟨vs,rfl,Xp H G⟩
 |.junk,v,h=>by simp[Sm]
theorem Xp{E':Nat->Prop}(H:bh w E w E'):∀ {l:List ah} {vs:List Value},zi w E β l vs->zi w E' β l vs
 | [],vs,h=>by simpa[zi] using h
 |s::r,vs,h=>by
  simp only[zi] at h ⊢;obtain⟨v,vs',rfl,G,F⟩:=h;exact⟨v,vs',rfl,QL H G,Xp H F⟩
end
theorem RO:∀ {l:List (Nat×ah)} {t:Nat} {s:ah},zc (ga id rows l) t=some s->∃ s',zc l t=some s'/\s=bX id rows s'
 | [],t,s,h=>by simp[ga,zc] at h
 |(k,u)::r,t,s,h=>by
  simp only[ga,zc] at h ⊢;split at h
  .rename_i e;simp at h;exact⟨u,by simp[e],h.symm⟩
  .rename_i e;simp only[e,oU];exact RO h
theorem gb:∀ {l:List (Nat×am)} {i:Nat} {o:am},(i,o)∈qw id rows l->i≠id/\∃ o',(i,o')∈l/\o=Zz id rows o'
 | [],i,o,h=>by simp[qw] at h
 |(k,u)::r,i,o,h=>by
  simp only[qw] at h;split at h
  .obtain⟨H,o',G,F⟩:=gb h;exact⟨H,o',nG _ G,F⟩
  .rename_i E
   rcases nE.1 h with e | h
   .cases e;exact⟨E,u,by simp,rfl⟩
   .obtain⟨H,o',G,F⟩:=gb h;exact⟨H,o',nG _ G,F⟩
theorem Be:∀ {l:List (Nat×am)},(l.map (·.1)).Nodup->((qw id rows l).map (·.1)).Nodup
 | [],_=>by simp[qw]
 |(k,u)::r,hn=>by
  simp only[nK,oE] at hn;simp only[qw];split
  .exact Be hn.2
  .simp only[nK,oE]
   refine⟨λh=>hn.1 ?_,Be hn.2⟩
   obtain⟨⟨i,o⟩,H,e⟩:=nS.1 h;obtain⟨_,o',G,_⟩:=gb H;exact nS.2 ⟨(i,o'),G,e⟩
theorem ax.bX(L:ax X w0 st β a w){id:Nat}{o:am}{x:D}(G:st.ay id=some o)(M:R w (Ex X β (qw id x st.own)) x (β id)):
  ax X w0 {st with af:=ga id x st.af,own:=qw id x st.own} β a w:=by
 have F:=xm G
 have H:bh w (Ex X β st.own) w (Ex X β (qw id x st.own)):=bh.dy λb O=>O.elim .inl λ⟨i,o,Q,e⟩=>by
  obtain⟨_,o',T,_⟩:=gb Q;exact .inr ⟨i,o',T,e⟩
 refine⟨L.bU,L.bI,L.cB,L.defers,L.size,L.below,Be L.bB,?_,?_,?_⟩
 .intro i o Q
  obtain⟨J,o',T,rfl⟩:=gb Q;obtain⟨V,Y,Z⟩:=L.own i o' T;refine⟨V,?_,?_⟩
  .cases o' with
   |box T' cells=>exact Jn Y
   |aQ=>trivial
   |map=>trivial
   |cN k cells=>exact Jn Y
  .cases o' with
   |box T' cells=>
    obtain⟨b,vs,q1,q2,q3,q4,q5⟩:=Z;exact⟨b,vs,q1,q2,q3,Jo M H q4,q5⟩
   |aQ T' sz' rs=>
    obtain⟨ys,q1,q2,q3⟩:=Z;exact⟨ys,q1,zl.over H _ _ q2,q3⟩
   |map T' rs=>
    obtain⟨r,es,clock,q1,q2,q3,q4⟩:=Z;exact⟨r,es,clock,q1,q2,q3,yN.over H _ _ q4⟩
   |cN k cells=>
    obtain⟨b,fn,D,vs,q1,q2,q3,q4⟩:=Z;exact⟨b,fn,D,vs,q1,q2,q3,Jo M H q4⟩
 .intro i o j o' b A T e1 e2
  obtain⟨_,o1,E,_⟩:=gb A;obtain⟨_,o2,K,_⟩:=gb T;exact L.apart i o1 j o2 b E K e1 e2
 .intro t s B
  obtain⟨s',A,rfl⟩:=RO B;have:=L.af t s' A
  exact⟨RL this.1,RN M H this.2⟩
theorem ax.vP(L:ax X w0 st β a w)(id:Nat):ax X w0 (st.vP id) β a w:=by
 unfold St.vP
 split
 .rename_i T sz rows H
  have G:=xm H;obtain⟨cq,_,xs,M,O,J⟩:=L.dm H;have E:bh w (Ex X β st.own) w (Ex X β (qw id (.sl rows) st.own)):=bh.dy λb Q=>Q.elim .inl λ⟨i,o,V,e⟩=>by
   obtain⟨_,o',Y,_⟩:=gb V;exact .inr ⟨i,o',Y,e⟩
  refine L.bX H (RH M O J (λb Q Z=>?_) E)
  rcases Z with Z | ⟨i,o,V,e⟩
  .exact L.bU.1 b Z (M.2 b Q).1
  .obtain⟨K,o',Y,_⟩:=gb V
   exact K (L.apart i o' id _ b Y G e Q)
 .rename_i T rows H
  have G:=xm H;obtain⟨cq,_,r,es,clock,Q,A,B,F⟩:=L.dm H;have E:bh w (Ex X β st.own) w (Ex X β (qw id (.mp rows) st.own)):=bh.dy λb Q=>Q.elim .inl λ⟨i,o,V,e⟩=>by
   obtain⟨_,o',Y,_⟩:=gb V;exact .inr ⟨i,o',Y,e⟩
  refine L.bX H ?_
  simp only[R];refine⟨r,es,clock,Q,λZ=>?_,(oD.1 B).1,B,yN.over E _ _ F⟩
  rcases Z with Z | ⟨i,o,V,e⟩
  .exact L.bU.1 r Z A
  .obtain⟨K,o',Y,_⟩:=gb V
   exact K (L.apart i o' id _ r Y G e (by rw[Q];rfl))
 .exact L
theorem ax.xn:∀ {l:List Nat} {st:St},ax X w0 st β a w->ax X w0 (st.xn l) β a w
 | [],st,hm=>hm
 |id::r,st,hm=>ax.xn (l:=r) (st:=st.vP id) (hm.vP id)
end
mutual
def zA(id:Nat):ah->ah
 |.ar i=>if i=id then .junk else .ar i
 |.ap i s j o=>if i=id then .junk else .ap i s j o
 |.a_s i s j o=>if i=id then .junk else .a_s i s j o
 |.av i s j o=>if i=id then .junk else .av i s j o
 |.yd i=>if i=id then .junk else .yd i
 |.bp i o=>if i=id then .junk else .bp i o
 |.mp i=>if i=id then .junk else .mp i
 |.agg l=>.agg (yI id l)
 |.bE l=>.bE (yI id l)
 |.fn f l=>.fn f (yI id l)
 |.d x=>.d x
 |.aW=>.aW
 |.junk=>.junk
def yI(id:Nat):List ah->List ah
 | []=>[]
 |s::r=>zA id s::yI id r
end
def qx(id:Nat):am->am
 |.box T cells=>.box T (yI id cells)
 |.aQ T sz rs=>.aQ T sz rs
 |.map T rs=>.map T rs
 |.cN k cells=>.cN k (yI id cells)
def xu(id:Nat):List (Nat×ah)->List (Nat×ah)
 | []=>[]
 |(t,s)::r=>(t,zA id s)::xu id r
def qf(id:Nat)(o':am):List (Nat×am)->List (Nat×am)
 | []=>[]
 |(t,o)::r=>(if t=id then (t,o') else (t,qx id o))::qf id o' r
def St.aV(st:St)(id:Nat)(o:am):St:={st with aA:=id::st.aA,af:=xu id st.af,own:=qf id o st.own}
section
variable {P:Program} {X:Nat->Prop} {w0:bz} {st:St} {β:Nat->Value} {a:Act} {w w':World} {E:Nat->Prop} {m:Nat} {id:Nat}
mutual
theorem RP:∀ {s:ah},ah.lo m s->ah.lo m (zA id s)
 |.ar i,h=>by simp only[zA];split <;> simp_all[ah.lo]
 |.ap i s j o,h=>by simp only[zA];split <;> simp_all[ah.lo]
 |.a_s i s j o,h=>by simp only[zA];split <;> simp_all[ah.lo]
 |.av i s j o,h=>by simp only[zA];split <;> simp_all[ah.lo]
 |.yd i,h=>by simp only[zA];split <;> simp_all[ah.lo]
 |.bp i o,h=>by simp only[zA];split <;> simp_all[ah.lo]
 |.mp i,h=>by simp only[zA];split <;> simp_all[ah.lo]
 |.agg l,h=>by simp only[zA,ah.lo] at h ⊢;exact QM h
 |.bE l,h=>by simp only[zA,ah.lo] at h ⊢;exact QM h
 |.fn f l,h=>by simp only[zA,ah.lo] at h ⊢;exact QM h
 |.d x,h=>by simpa[zA] using h
 |.aW,h=>by simpa[zA] using h
 |.junk,h=>by simpa[zA] using h
theorem QM:∀ {l:List ah},ah.a_ m l->ah.a_ m (yI id l)
 | [],h=>by simpa[yI] using h
 |s::r,h=>by simp only[yI,ah.a_] at h ⊢;exact⟨RP h.1,QM h.2⟩
end
mutual
theorem RQ{E':Nat->Prop}{β':Nat->Value}(hβ:∀ i,i≠id->β' i=β i)(H:bh w E w' E'):∀ {s:ah} {v:Value},Sm w E β s v->Sm w' E' β' (zA id s) v
 |.ar i,v,h=>by
  simp only[zA];split
  .simp[Sm]
  .rename_i hi;simp only[Sm] at h ⊢;rw[hβ i hi];exact h
 |.ap i s j o,v,h=>by
  simp only[zA];split
  .simp[Sm]
  .rename_i hi;simp only[Sm] at h ⊢;rw[hβ i hi];exact h
 |.a_s i s j o,v,h=>by
  simp only[zA];split
  .simp[Sm]
  .rename_i hi;simp only[Sm] at h ⊢;rw[hβ i hi];exact h
 |.av i s j o,v,h=>by
  simp only[zA];split
  .simp[Sm]
  .rename_i hi;simp only[Sm] at h ⊢;rw[hβ i hi];exact h
 |.yd i,v,h=>by
  simp only[zA];split
  .simp[Sm]
  .rename_i hi;simp only[Sm] at h ⊢;rw[hβ i hi];exact h
 |.bp i o,v,h=>by
  simp only[zA];split
  .simp[Sm]
  .rename_i hi;simp only[Sm] at h ⊢;rw[hβ i hi];exact h
 |.mp i,v,h=>by
  simp only[zA];split
  .simp[Sm]
  .rename_i hi;simp only[Sm] at h ⊢;rw[hβ i hi];exact h
 |.agg l,v,h=>by
  simp only[zA,Sm] at h ⊢;obtain⟨vs,rfl,G,F⟩:=h;exact⟨vs,rfl,QN hβ H G,F⟩
 |.bE l,v,h=>by
  simp only[zA,Sm] at h ⊢;obtain⟨vs,rfl,G⟩:=h;exact⟨vs,rfl,QN hβ H G⟩
 |.fn f l,v,h=>by
  simp only[zA,Sm] at h ⊢;obtain⟨vs,rfl,G⟩:=h;exact⟨vs,rfl,QN hβ H G⟩
 |.d x,v,h=>by simp only[zA,Sm] at h ⊢;exact R.over H _ _ h
 |.aW,v,h=>by simpa[zA,Sm] using h
 |.junk,v,h=>by simp[zA,Sm]
theorem QN{E':Nat->Prop}{β':Nat->Value}(hβ:∀ i,i≠id->β' i=β i)(H:bh w E w' E'):∀ {l:List ah} {vs:List Value},zi w E β l vs->zi w' E' β' (yI id l) vs
 | [],vs,h=>by simpa[yI,zi] using h
 |s::r,vs,h=>by
  simp only[yI,zi] at h ⊢;obtain⟨v,vs',rfl,G,F⟩:=h;exact⟨v,vs',rfl,RQ hβ H G,QN hβ H F⟩
end
theorem RR:∀ {l:List (Nat×ah)} {t:Nat} {s:ah},zc (xu id l) t=some s->∃ s',zc l t=some s'/\s=zA id s'
 | [],t,s,h=>by simp[xu,zc] at h
 |(k,u)::r,t,s,h=>by
  simp only[xu,zc] at h ⊢;split at h
  .rename_i e;simp at h;exact⟨u,by simp[e],h.symm⟩
  .rename_i e;simp only[e,oU];exact RR h
theorem Jp{o':am}:∀ {l:List (Nat×am)} {i:Nat} {x:am},(i,x)∈qf id o' l->(i=id/\x=o'/\∃ y,(i,y)∈l)\/(i≠id/\∃ y,(i,y)∈l/\x=qx id y)
 | [],i,x,h=>by simp[qf] at h
 |(k,u)::r,i,x,h=>by
  simp only[qf] at h;rcases nE.1 h with e | h
  .split at e
   .rename_i H;cases e;exact .inl ⟨H,rfl,u,by simp⟩
   .rename_i H;cases e;exact .inr ⟨H,u,by simp,rfl⟩
  .rcases Jp h with⟨G,F,y,E⟩ | ⟨G,y,F,E⟩
   .exact .inl ⟨G,F,y,nG _ E⟩
   .exact .inr ⟨G,y,nG _ F,E⟩
theorem RS{o':am}:∀ (l:List (Nat×am)),(qf id o' l).map (·.1)=l.map (·.1)
 | []=>rfl
 |(k,u)::r=>by
  simp only[qf,nK,RS r];congr 1
  split <;> rfl
theorem ax.aV(B:ax X w0 st β a w){o o':am}(C:st.ay id=some o){v:Value}(Y:v.oneCell'=true)
  (K:cR w0 w') (F:∀ c,c<w.heap.size->some c≠bP (β id)->w'.heap[c]?=w.heap[c]?)
  (M:∀ b,bP v=some b->bP (β id)=some b\/w.heap.size<=b) (Z:o'.lo st.next)
  (A:∀ E:Nat->Prop,bh w (Ex X β st.own) w' E->(∀ b,bP v=some b->E b)->yV w' w0.dS E (λi=>if i=id then v else β i) id o') :
  ax X w0 (st.aV id o') (λi=>if i=id then v else β i) a w':=by
 have G:=xm C
 have cq:=(B.own id o G).1
 have hβ:∀ i,i≠id->(λi=>if i=id then v else β i) i=β i:=by intro i h;simp[h]
 have L:bh w (Ex X β st.own) w' (Ex X (λi=>if i=id then v else β i) (qf id o' st.own)):=by
  intro c I N;have O:some c≠bP (β id):=λe=>N (.inr ⟨id,o,G,e.symm⟩)
  refine⟨?_,F c I O⟩
  rintro(h | ⟨i,x,P,h⟩)
  .exact N (.inl h)
  .rcases Jp P with⟨rfl,_,_⟩ | ⟨H,y,S,_⟩
   .simp at h
    rcases M c h with h | h
    .exact O h.symm
    .omega
   .rw[hβ i H] at h
    exact N (.inr ⟨i,y,S,h⟩)
 have sep:∀ {i x c},i≠id->(i,x)∈st.own->bP (β i)=some c->bP v=some c->False:=by
  intro i x c H P W h2;rcases M c h2 with h | h
  .exact H (B.apart i x id o c P G W h)
  .have:=B.lt c (.inr ⟨i,x,P,W⟩);omega
 refine⟨B.bU,⟨B.bI.1,λi W h2=>(hβ i (λe=>h2 (by subst e;exact nL))).trans (B.bI.2 i W (λh=>h2 (nG _ h)))⟩,λi=>by split;exact Y;exact B.cB i,B.defers,B.size,K,?_,?_,?_,?_⟩
 .show((qf id o' st.own).map (·.1)).Nodup
  rw[RS];exact B.bB
 .intro i x P
  rcases Jp P with⟨rfl,rfl,_⟩ | ⟨H,y,S,rfl⟩
  .exact⟨cq,Z,A _ L (λb hb=>.inr ⟨i,x,P,by simpa using hb⟩)⟩
  .obtain⟨W,h2,h3⟩:=B.own i y S
   have hb:∀ b,bP (β i)=some b->w'.heap[b]?=w.heap[b]?:=λc I=>F c (B.lt c (.inr ⟨i,y,S,I⟩)) (λe=>H (B.apart i y id o c S G I e.symm))
   cases y with
   |box T cells=>
    obtain⟨b,vs,q1,q2,q3,q4,q5⟩:=h3;exact⟨W,QM h2,b,vs,by rw[hβ i H];exact q1,q2,by rw[hb b (by rw[q1];rfl)];exact q3,QN hβ L q4,q5⟩
   |aQ T sz rows=>
    obtain⟨xs,q1,q2,q3⟩:=h3;exact⟨W,trivial,xs,by rw[hβ i H];exact ja.same q1 hb,zl.over L _ _ q2,q3⟩
   |map T rows=>
    obtain⟨r,es,clock,q1,q2,q3,q4⟩:=h3;exact⟨W,trivial,r,es,clock,by rw[hβ i H];exact q1,q2,by rw[hb r (by rw[q1];rfl)];exact q3,yN.over L _ _ q4⟩
   |cN k cells=>
    obtain⟨b,fn,D,vs,q1,q2,q3,q4⟩:=h3;exact⟨W,QM h2,b,fn,D,vs,by rw[hβ i H];exact q1,q2,by rw[hb b (by rw[q1];exact k.Ym b)];exact q3,QN hβ L q4⟩
 .intro i x j y c P S e1 e2
  rcases Jp P with⟨rfl,_,_⟩ | ⟨H,x',Q,_⟩ <;> rcases Jp S with⟨rfl,_,_⟩ | ⟨J,y',V,_⟩
  .rfl
  .simp at e1
   rw[ge J] at e2;exact(sep J V e2 e1).elim
  .simp at e2
   rw[ge H] at e1;exact(sep H Q e1 e2).elim
  .rw[ge H] at e1
   rw[ge J] at e2;exact B.apart i x' j y' c Q V e1 e2
 .intro t s ht
  obtain⟨s',W,rfl⟩:=RR ht;have:=B.af t s' W
  exact⟨RP this.1,RQ hβ L this.2⟩
end
end Go.V
namespace Go.V
variable [Dr] [Ov]
open Go.RowKit
def QO(fs:List (Nat×Nat×Bool)):List ah->List (Nat×ah)->Option (List ah)
 |cells,[]=>some cells
 |cells,(i,s)::r=>match fs[i]?,vh s with
  |some (off,sz,_),some l=>if l.length=sz/\off+l.length<=cells.length then QO fs (aO cells off l) r else none
  |_,_=>none
def mo:ah->Bool
 |.aW=>true
 |_=>false
def Bf:List ah->Bool
 | []=>false
 |s::r=>mo s ||Bf r
def QP(l:List ah):ah:=match Bf l with
 |true=>.agg l
 |false=>wZ l
theorem zcy{w:World}{E:Nat->Prop}{β:Nat->Value}{l:List ah}{vs:List Value}(hs:zi w E β l vs)(H:∀ v∈vs,v.oneCell'=true):Sm w E β (QP l) (.agg vs.toArray):=by
 unfold QP
 split
 .simp only[Sm];exact⟨vs,rfl,hs,H⟩
 .exact Jf hs H
theorem zl5{l:List ah}{m:Nat}(h:ah.a_ m l):ah.lo m (QP l):=by
 unfold QP
 split
 .simp[ah.lo,h]
 .exact Jg h
def QQ(ti:TI)(parts:List (Nat×ah))(k:ah->Prop):Prop:=
 match ti.kind with
 |.struct fs=>ti.zero.all (·.oneCell')=true/\match QO fs (ti.zero.map bY) parts with
  |some out=>k (QP out)
  |none=>False
 |_=>False
def cp{α:Type}:Nat->List (Nat×α)->Option (List α)
 |_,[]=>some []
 |n,(i,x)::r=>if i=n then (match cp (n+1) r with
  |some l=>some (x::l)
  |none=>none) else none
def ii(sz:Nat)(s:ah):Option (List D):=match vh s with
 |some l=>match vD l with
  |some ds=>if ds.length=sz then some ds else none
  |none=>none
 |none=>none
def dL(sz:Nat):List ah->Option (List (List D))
 | []=>some []
 |s::r=>match ii sz s,dL sz r with
  |some x,some xs=>some (x::xs)
  |_,_=>none
def QR(P:Program)(t n:Nat)(parts:List (Nat×ah))(k:ah->Prop):Prop:=
 match TI.of P t with
 |some ⟨.slice e,_,_,_,_⟩=>match TI.of P e with
  |some te=>match cp 0 parts with
   |some xs=>xs.length=n/\0<te.size/\n*te.size<=16777216/\match dL te.size xs with
    |some rows=>k (.d (.sl rows))
    |none=>False
   |none=>False
  |none=>False
 |_=>False
def vQ(P:Program)(ay:Nat->Option am)(ρ:Operand->ah)(op:Op)(k:ah->Prop):Prop:=
 match op with
 |.build t parts=>match TI.of P t with
  |some ti=>QQ ti (parts.toList.map λ(i,x)=>(i,ρ x)) k
  |none=>False
 |.buildSlice t n parts=>QR P t n (parts.toList.map λ(i,x)=>(i,ρ x)) k
 |.makeFunc (.func f) first captured=>match first.toList with
  | []=>k (.fn f (captured.toList.map ρ))
  |_=>False
 |op=>uA P ay ρ op k
section
variable {P:Program} {X:Nat->Prop} {w0:bz} {st:St} {β:Nat->Value} {a:Act} {w w':World} {E:Nat->Prop} {m:Nat} {k:ah->Prop}
theorem ze9(off:Nat)(us:List Value)(cells:List Value)(h:off+us.length<=cells.length):
  (us.toArray.zipIdx.foldl (λcs (x:Value×Nat)=>cs.setIfInBounds (off+x.2) x.1) cells.toArray)=(aO cells off us).toArray:=by
 rw[<-Cq,Array.toList_zipIdx]
 obtain⟨H,G⟩:=Great.foldl_set off us 0 cells.toArray
 apply Cr
 intro j
 rw[G j]
 simp only[List.getElem?_toArray,sK,rf]
 rw[Bd h]
 by_cases p:j<off
 .rw[ge (by omega),gt p]
 .rw[ge p]
  by_cases q:j<off+us.length
  .rw[gt (by omega),gt q]
  .rw[ge (by omega),ge q]
theorem RU(hβ:∀ id,(β id).oneCell'=true){fs:List (Nat×Nat×Bool)}{df:Nat->Option (Nat×Nat)}(J:∀ (i off sz:Nat) (b:Bool),fs[i]?=some (off,sz,b)->df i=some (off,sz))(ρ:Operand->ah)(ev:Operand->Value)
  (hρ:∀ x,ah.lo m (ρ x)/\Sm w E β (ρ x) (ev x)):∀ {parts:List (Nat×Operand)} {cells out:List ah} {vs:List Value},
  QO fs cells (parts.map λ(i,x)=>(i,ρ x))=some out->zi w E β cells vs->(∀ u∈vs,u.oneCell'=true)->ah.a_ m cells ->
  ∃ us:List Value,Instr.fill df vs.toArray (parts.map λ(i,x)=>(i,ev x))=some us.toArray/\zi w E β out us/\(∀ u∈us,u.oneCell'=true)/\ah.a_ m out
 | [],cells,out,vs,h,hs,L,M=>by
  simp[QO] at h;subst h;exact⟨vs,by simp[Instr.fill],hs,L,M⟩
 |(i,x)::r,cells,out,vs,h,hs,L,M=>by
  simp only[nK,QO] at h;split at h
  .rename_i off sz b l O Q
   split at h
   .rename_i hb
    obtain⟨us,e1,e2,e3,e4⟩:=Jk hβ Q (hρ x).1 (hρ x).2;have G:=e2.length;have K:=hs.length;obtain⟨out',q1,q2,q3,q4⟩:=RU hβ J ρ ev hρ h (zi.aO hs e2 off) (λu T=>(Jm T).elim (L u) (e3 u)) (ah.U7 M e4 off)
    refine⟨out',?_,q2,q3,q4⟩
    simp only[nK,Instr.fill,J i off sz b O,e1];have H:us.toArray.size=sz:=by simp;omega
    have F:¬off+us.toArray.size>vs.toArray.size:=by simp;omega
    simp only[H,Cz,Cu,tS,rk];rw[ge (by rw[<-H];simpa using F),ze9 off us vs (by omega)]
    exact q1
   .cases h
  .cases h
theorem zcz(Q:ax X w0 st β a w){t:Nat}{ti:TI}(T:TI.of P t=some ti){parts:Array (Nat×Operand)}(h:QQ ti (parts.toList.map λ(i,x)=>(i,st.val x)) k):
  YV P w (Ex X β st.own) β st.next (Instr.build t (parts.map λ(i,x)=>(i,a.eval x))) k:=by
 obtain⟨i,u,z,hi,V,Y,K,_,_,_,L⟩:=y8 T
 unfold QQ at h
 split at h
 .rename_i fs Z
  obtain⟨A,h⟩:=h;split at h
  .rename_i out B
   rw[K] at Z;obtain⟨fds,rfl,C⟩:=Rm Z
   -- the places
   have H:∃ places:List (Nat×Nat),fds.toList.mapM (λf=>(P.info? f.type).map λi=>(f.offset,i.size))=some places/\∀ (i off sz:Nat) (b:Bool),fs[i]?=some (off,sz,b)->places[i]?=some (off,sz):=by
    generalize fds.toList=q at C;clear B V Z K A h;induction q generalizing fs with
    |nil=>simp at C;subst C;exact⟨[],by simp,by simp⟩
    |cons f q ih=>
     simp only[tl] at C;cases G:Qr P f with
     |none=>simp[G] at C
     |some y=>
      cases I:q.mapM (Qr P) with
      |none=>simp[G,I] at C
      |some r=>
       simp[G,I] at C;obtain⟨places,p1,p2⟩:=ih r I;unfold Qr at G;cases E:P.info? f.type with
       |none=>simp[E] at G
       |some j=>
        cases J:P.underlying f.type with
        |none=>simp[E,J] at G
        |some d=>
         simp[E,J] at G;refine⟨(f.offset,j.size)::places,by simp[tl,E,p1],?_⟩
         intro i off sz b F;rw[<-C] at F;cases i with
         |zero=>simp at F;rw[<-G] at F;simp at F;simp[F.1,F.2.1]
         |succ i=>simpa using p2 i off sz b (by simpa using F)
   obtain⟨places,p1,p2⟩:=H;have M:∀ u∈ti.zero,u.oneCell'=true:=λu V=>by simpa using(oo.1 A) u V
   obtain⟨us,q1,q2,q3,q4⟩:=RU (m:=st.next) Q.cB (df:=(places.toArray[·]?)) (λi off sz b hi=>by simpa using p2 i off sz b hi) st.val a.eval (λx=>Q.val x) B
    (U1 w (Ex X β st.own) β ti.zero) M (U2 _ _)
   refine⟨_,_,h,zl5 q4,zcy q2 q3,run_build w t _ us.toArray ?_⟩
   have O:z.cells=ti.zero.toArray:=by rw[L]
   simp only[Program.built,hi,V,Y,p1,O];simpa using q1
  .exact h.elim
 .exact h.elim
theorem zfa(hβ:∀ id,(β id).oneCell'=true){sz:Nat}{s:ah}{ds:List D}{v:Value}(h:ii sz s=some ds)(G:ah.lo m s)(hs:Sm w E β s v):
  ∃ us:List Value,v.cells=us.toArray/\zl w E ds us/\us.length=sz/\ds.length=sz:=by
 unfold ii at h
 split at h
 .rename_i l F
  split at h
  .rename_i ds' K
   split at h
   .rename_i H
    simp at h;subst h
    obtain⟨us,e1,e2,e3,_⟩:=Jk hβ F G hs;have J:=KW K e2 e3;exact⟨us,e1,J,by rw[J.length];exact H,H⟩
   .cases h
  .cases h
 .cases h
theorem Bg(hβ:∀ id,(β id).oneCell'=true){sz:Nat}:∀ {l:List ah} {rows:List (List D)} {vs:List Value},dL sz l=some rows->ah.a_ m l->zi w E β l vs ->
  (∀ v∈vs,v.cells.size=sz)/\zl w E rows.flatten (vs.flatMap λv=>v.cells.toList)/\(∀ r∈rows,r.length=sz)/\rows.length=l.length
 | [],rows,vs,h,_,hs=>by
  simp[dL] at h;subst h;simp only[zi] at hs;subst hs;simp[zl]
 |s::r,rows,vs,h,G,hs=>by
  simp only[zi] at hs;obtain⟨v,vs',rfl,F,K⟩:=hs;simp only[ah.a_] at G;simp only[dL] at h;split at h
  .rename_i x xs J H
   simp at h;subst h
   obtain⟨us,e1,e2,e3,e4⟩:=zfa hβ J G.1 F;obtain⟨q1,q2,q3,q4⟩:=Bg hβ H G.2 K;refine⟨?_,?_,?_,by simp[q4]⟩
   .intro u L
    rcases nE.1 L with e | L
    .subst e;rw[e1];simpa using e3
    .exact q1 u L
   .simp only[oZ,pz,e1]
    exact zl.append e2 q2
   .intro q M
    rcases nE.1 M with e | M
    .subst e;exact e4
    .exact q3 q M
  .cases h
theorem Bh(ev:Operand->Value):∀ {n:Nat} {parts:List (Nat×Operand)} {xs:List Operand},cp n parts=some xs ->
  (parts.map λ(i,x)=>(i,ev x))=((xs.map ev).zipIdx n).map λx=>(x.2,x.1)
 |n,[],xs,h=>by simp[cp] at h;subst h;simp
 |n,(i,x)::r,xs,h=>by
  simp only[cp] at h;split at h
  .rename_i e;subst e
   split at h
   .rename_i l hl
    simp at h;subst h
    simp only[nK,List.zipIdx_cons];rw[Bh ev hl]
   .cases h
  .cases h
theorem RV{α γ:Type}(f:α->γ):∀ {n:Nat} {parts:List (Nat×α)} {xs:List γ},cp n (parts.map λ(i,x)=>(i,f x))=some xs->∃ ys,cp n parts=some ys/\xs=ys.map f
 |n,[],xs,h=>by simp[cp] at h;subst h;exact⟨[],rfl,rfl⟩
 |n,(i,x)::r,xs,h=>by
  simp only[nK,cp] at h ⊢;split at h
  .rename_i e
   split at h
   .rename_i l H
    simp at h;subst h
    obtain⟨ys,G,rfl⟩:=RV f H;rw[gt e,G];exact⟨x::ys,rfl,rfl⟩
   .cases h
  .cases h
theorem zbp{t n e:Nat}{te:TI}{j:TypeInfo}(X:P.underlying t=some (.slice e))(K:TI.of P e=some te){parts:Array (Nat×Operand)}{xs:List Operand}(J:cp 0 parts.toList=some xs)(Y:xs.length=n)(H:0<te.size)(G:n*te.size<=16777216)
  (ev:Operand->Value) (L:∀ v∈xs.map ev,v.cells.size=te.size):(Instr.buildSlice t n (parts.map λ(i,x)=>(i,ev x))).run P w = .ok (.slice (some ⟨w.heap.size,0,none⟩) n n) (w.alloc (.cells ((xs.map ev).flatMap λv=>v.cells.toList).toArray e)):=by
 obtain⟨ie,ue,ze,E,T,M,_,F,_,_,V⟩:=y8 K
 have Z:(parts.map λ(i,x)=>(i,ev x)).toList=((xs.map ev).zipIdx 0).map λx=>(x.2,x.1):=by
  rw[y_];exact Bh ev J
 by_cases A:n=0
 .subst A
  have O:xs=[]:=nZ Y
  subst O;have Q:(parts.map λ(i,x)=>(i,ev x)) = #[]:=by
   have:=congrArg List.toArray Z;simpa using this
  rw[Q];simp[Instr.buildSlice,run_underlying X,bQ E,Instr.fill,newRow];congr 2;apply tb;simp
 .refine run_buildSlice w t e n _ _ ie ze X E M (by rw[<-F];show ¬(n*te.size>16777216);omega) (by rw[<-F];exact A9 A (by omega)) ?_
  rw[Z,<-F];refine Great.fill_whole H _ _ L ?_
  simp[Y]
theorem zav(B:ax X w0 st β a w){o:Oper}{t n:Nat}{parts:Array (Nat×Operand)}(C:o.op = .buildSlice t n parts)(h:QR P t n (parts.toList.map λ(i,x)=>(i,st.val x)) k):Yields P X st β a w o k:=by
 unfold QR at h
 split at h
 .rename_i e _ _ _ _ I
  obtain⟨i,u,z,hi,N,S,T,_⟩:=y8 I;have:=qK T.symm;subst this
  split at h
  .rename_i te V
   split at h
   .rename_i ss Y
    obtain⟨W,G,H,h⟩:=h;split at h
    .rename_i rows hr
     obtain⟨xs,Z,rfl⟩:=RV st.val Y;have F:=zi.Z4 B xs;obtain⟨q1,q2,q3,q4⟩:=Bg B.cB hr F.2 F.1;have M:xs.length=n:=by simpa using W
     have J:=zbp (w:=w) (j:=i) N V Z M G H a.eval q1;intro K Q hK;unfold Oper.wp;have E:(execOp a.eval o).run P w = .ok (.value (.slice (some ⟨w.heap.size,0,none⟩) n n)) (w.alloc (.cells ((xs.map a.eval).flatMap λv=>v.cells.toList).toArray e)):=by simp[execOp,C,J]
     rw[E];refine hK (.d (.sl rows)) _ _ h (by simp[ah.lo]) (kP w _) ?_
     have O:rows.length=n:=by rw[q4];simpa using M
     have A:((xs.map a.eval).flatMap λv=>v.cells.toList).length=n*te.size:=by rw[q2.length,cx q3,O]
     simp only[Sm,R];refine⟨_,n,by rw[O],by omega,?_,by simp,λhne=>⟨w.heap.size,0,rfl,λhE=>absurd (B.lt _ hE) (by omega),(oD.1 (Go.heap_alloc_new w (.cells ((xs.map a.eval).flatMap λv=>v.cells.toList).toArray e))).1,?_⟩⟩
     .have h2:n*1<=n*te.size:=sW _ G
      simp only[maxLen];omega
     .have L:dh rows=te.size:=by
       cases rows with
       |nil=>exact absurd rfl hne
       |cons r rs=>exact q3 r (by simp)
      rw[L];refine yj.fv q3 (zZ.dZ (zl.over (bh.dC (kP w _) _) _ _ q2) λj u hj=>?_)
      rw[pG];have hh:=Go.heap_alloc_new w (.cells ((xs.map a.eval).flatMap λv=>v.cells.toList).toArray e)
      simp only[World.cell?,hh];simpa using hj
    .exact h.elim
   .exact h.elim
  .exact h.elim
 .exact h.elim
theorem Jq(H:ax X w0 st β a w)(o:Oper)(h:vQ P st.ay st.val o.op k):Yields P X st β a w o k:=by
 unfold vQ at h
 split at h
 .rename_i t parts G
  split at h
  .rename_i ti F
   exact .jy (zcz H F h) (λv hv=>by simp[execOp,G,hv])
  .exact h.elim
 .rename_i t n parts G
  exact zav H G h
 .rename_i f first cap G
  split at h
  .rename_i hf
   have e:first = #[]:=by cases first;simp at hf;rw[hf]
   subst e;have hs:=zi.Z4 H cap.toList;refine .x9 h (by simpa[ah.lo] using hs.2) (v:=.func (.func f) #[] (cap.toList.map a.eval).toArray) ?_ (by simp[execOp,G,Instr.makeFunc];apply tb;simp)
   simp only[Sm];exact⟨_,rfl,hs.1⟩
  .exact h.elim
 .exact zl4 H o h
end
end Go.V
namespace Go.V
variable [Dr] [Ov]
open Go.RowKit
mutual
def RX:ah->List Nat
 |.ar i=>[i]
 |.agg l=>uB l
 |.mp i=>[i]
 |_=>[]
def uB:List ah->List Nat
 | []=>[]
 |s::r=>RX s++uB r
end
def Jr(P:Program)(st:St)(dst:Option Tmp)(t n:Nat)(parts:List (Nat×Operand))(K:St->Prop):Prop:=
 match TI.of P t with
 |some ⟨.slice e,_,_,_,_⟩=>match TI.of P e with
  |some te=>match cp 0 parts with
   |some xs=>xs.length=n/\0<te.size/\n*te.size<=16777216 /\
    match dL te.size (xs.map (st.xn (uB (xs.map st.val))).val) with
    |some rows=>K (((st.xn (uB (xs.map st.val))).new (.aQ e te.size rows)).put dst (.ar (st.xn (uB (xs.map st.val))).next))
    |none=>False
   |none=>False
  |none=>False
 |_=>False
def kQ(st:St)(id:Nat):ah->Option (List (List D))
 |.d (.sl l)=>some l
 |.aW=>some []
 |.ar j=>if j=id then none else match st.ay j with
  |some (.aQ _ _ rows)=>some rows
  |_=>none
 |.a_s j sz lo n=>if j=id then none else match st.ay j with
  |some (.aQ _ sz' rows)=>if sz=sz'/\lo+n<=rows.length then some ((rows.drop lo).take n) else none
  |_=>none
 |.av j sz lo n=>if j=id then none else match st.ay j with
  |some (.aQ _ sz' rows)=>if sz=sz'/\lo+n<=rows.length then some ((rows.drop lo).take n) else none
  |_=>none
 |_=>none
def Js(P:Program)(st:St)(dst:Option Tmp)(t t':Nat)(s x:ah)(K:St->Prop):Prop:=
 match TI.of P t with
 |some ⟨.slice e,_,_,_,_⟩=>match TI.of P e with
  |some te=>t'=t/\0<te.size/\te.zero.length=te.size/\te.zero.all (·.oneCell')=true/\match s with
   |.ar id=>match st.ay id,kQ st id x with
    |some (.aQ T sz rows),some l=>T=e/\sz=te.size/\(∀ r∈l,r.length=te.size)/\(rows.length+l.length)*te.bytes<=140737488355328/\rows.length+l.length<=maxLen /\
     K ((st.aV id (.aQ e te.size (rows++l))).put dst (.ar id))
    |_,_=>False
   |.aW=>match kQ (st.new (.aQ e te.size [])) st.next x with
    |some l=>(∀ r∈l,r.length=te.size)/\l.length*te.bytes<=140737488355328/\l.length<=maxLen /\
     K (((st.new (.aQ e te.size [])).aV st.next (.aQ e te.size l)).put dst (.ar st.next))
    |_=>False
   |_=>False
  |none=>False
 |_=>False
section
variable {P:Program} {X:Nat->Prop} {w0:bz} {st:St} {β:Nat->Value} {a:Act} {w w':World} {E:Nat->Prop} {m:Nat} {k:ah->Prop}
theorem zpz(st:St)(id:Nat):(st.vP id).next=st.next/\(st.vP id).n=st.n:=by
 unfold St.vP;split <;> exact⟨rfl,rfl⟩
theorem U8:∀ (l:List Nat) (st:St),(st.xn l).next=st.next/\(st.xn l).n=st.n
 | [],st=>⟨rfl,rfl⟩
 |id::r,st=>by
  have H:=U8 r (st.vP id);have G:=zpz st id;exact⟨H.1.trans G.1,H.2.trans G.2⟩
theorem zc0(Q:ax X w0 st β a w){o:Oper}{t n:Nat}{parts:Array (Nat×Operand)}(W:o.op = .buildSlice t n parts)(T:∀ t,o.dst=some t->t<st.n){K:St->Prop}(h:Jr P st o.dst t n parts.toList K):br P X w0 o a w K:=by
 unfold Jr at h
 split at h
 .rename_i e _ _ _ _ ht
  obtain⟨i,u,z,hi,hu,hz,V,_⟩:=y8 ht;have:=qK V.symm;subst this
  split at h
  .rename_i te Y
   obtain⟨ie,ue,ze,O,N,Z,_,J,_,_,S⟩:=y8 Y;split at h
   .rename_i xs hxs
    obtain⟨hn,G,L,h⟩:=h;generalize F:st.xn (uB (xs.map st.val))=fO at h;have hm:ax X w0 fO β a w:=by rw[<-F];exact Q.xn
    have hd:∀ t,o.dst=some t->t<fO.n:=by rw[<-F,(U8 _ st).2];exact T
    split at h
    .rename_i rows hr
     have E:=zi.Z4 hm xs;obtain⟨q1,q2,q3,q4⟩:=Bg hm.cB hr E.2 E.1;have A:(xs.map a.eval).length=n:=by simpa using hn
     have H:((xs.map a.eval).flatMap λv=>v.cells.toList).length=n*te.size:=by
      rw[q2.length,cx q3,q4];simp[hn]
     have M:(Instr.buildSlice t n (parts.map λ(i,x)=>(i,a.eval x))).run P w = .ok (.slice (some ⟨w.heap.size,0,none⟩) n n) (w.alloc (.cells ((xs.map a.eval).flatMap λv=>v.cells.toList).toArray e)):=by
      have hp:(parts.map λ(i,x)=>(i,a.eval x)).toList=((xs.map a.eval).zipIdx 0).map λx=>(x.2,x.1):=by
       rw[y_];exact Bh a.eval hxs
      by_cases h0:n=0
      .subst h0
       have B:xs=[]:=nZ hn
       subst B;have C:(parts.map λ(i,x)=>(i,a.eval x)) = #[]:=by
        have:=congrArg List.toArray hp;simpa using this
       rw[C];simp[Instr.buildSlice,run_underlying hu,bQ O,Instr.fill,newRow];congr 2;apply tb;simp
      .refine run_buildSlice w t e n _ _ ie ze hu O Z (by rw[<-J];omega) (by rw[<-J];exact A9 h0 (by omega)) ?_
       rw[hp,<-J];refine Great.fill_whole G _ _ q1 ?_
       simp[hn]
     have I:ax X w0 (fO.new (.aQ e te.size rows)) (λi=>if i=fO.next then .slice (some ⟨w.heap.size,0,none⟩) n n else β i) a (w.alloc (.cells ((xs.map a.eval).flatMap λv=>v.cells.toList).toArray e)):=by
      refine hm.new (kP w _) rfl trivial (λb hb=>by simp[bP] at hb;omega) ?_
      refine⟨_,?_,zl.over (RB hm _) _ _ q2,q3⟩
      refine⟨⟨by rw[H,q4];simp[hn],.inr ⟨w.heap.size,n,_,by simp[q4,hn],nU _,Go.heap_alloc_new w _,by rw[q4];simp[hn],?_,by simpa using H,?_⟩⟩,λb hb=>⟨.inl (by simp[bP] at hb;have:=hm.below.size;omega),by
       simp[bP] at hb;subst hb;exact xY.of (Go.heap_alloc_new w _) (λu hu=>q2.cB u (by simpa using hu))⟩⟩
      .have h2:n*1<=n*te.size:=sW _ G
       simp only[maxLen];omega
      .rw[oa]
       rw[q4];simp only[om];show((xs.map a.eval).flatMap λv=>v.cells.toList).length<=xs.length*te.size
       rw[H,hn];exact nJ _
     refine br.x9 (v:=.slice (some ⟨w.heap.size,0,none⟩) n n) (w':=w.alloc (.cells ((xs.map a.eval).flatMap λv=>v.cells.toList).toArray e)) ?_ h (I.yH hd (by simp[ah.lo,St.new]) ?_)
     .simp[execOp,W,M]
     .simp[Sm]
    .exact h.elim
   .exact h.elim
  .exact h.elim
 .exact h.elim
theorem Jt(z:Array Value)(n:Nat):((Array.range (n*z.size)).map λi=>z[i%z.size]!).toList=(List.replicate n z.toList).flatten:=by
 rw[y_,Array.toList_range]
 induction n with
 |zero=>simp
 |succ n ih=>
  rw[oR,rF,List.range_add,oF,ih,List.replicate_succ',q_];congr 1
  simp only[rW,oZ,List.flatten_nil,oq];apply rh
  .simp
  .intro i H h2
   simp at H h2
   simp[Nat.mul_add_mod_of_lt,Nat.mul_comm n z.size,H,xV H]
theorem RY{z:Array Value}(h:∀ u∈z.toList,u.oneCell'=true)(n:Nat):∀ u∈(Builtin.zeroCells z n).toList,u.oneCell'=true:=by
 intro u H
 unfold Builtin.zeroCells at H
 rw[Jt] at H
 obtain⟨l,G,H⟩:=xv.1 H
 rw[(sp.1 G).2] at H
 exact h u H
theorem zfb(ai:Nat)(t ty e:TypeId)(i:TypeInfo)(z:Value)(size bytes:Nat)(ht:P.underlying t=some (.slice e))(hi:P.info? e=some i)(hz:i.zero=some z)
  (E:i.size=size) (X:i.bytes=bytes) (A:z.cells.size=size) (B:0<size)
  (v:Value) (n:Nat) (xs:List Value) (F:w.ownsRow ai e size v n xs)
  (a:Addr) (m c:Nat) (news:List Value) (hl:news.length=m*size) (G:∀ j u,news[j]?=some u->w.cell? (a.add j)=some u) (h1:∀ u∈news,u.oneCell'=true)
  (Y:n+m<=maxLen) (H:(n+m)*bytes<=140737488355328) (L:ai<=w.heap.size)
  (M:∀ b,bP v=some b->xY w b) (C:∀ u∈xs,u.oneCell'=true) (I:∀ u∈z.cells.toList,u.oneCell'=true) :
  ∃ v' w',(Builtin.append_ #[t,t] ty #[v,.slice (some a) m c]).run P w = .ok v' w'/\w'.ownsRow ai e size v' (n+m) (xs++news)/\w.grownBy w' v.ownBlock /\
   (v'.ownBlock=v.ownBlock\/∃ g,v'.ownBlock=some g/\w.heap.size<=g)/\∀ b,bP v'=some b->xY w' b:=by
 obtain⟨v',w',hr,h2,h3,h4⟩:=run_append_own (P:=P) w ai t ty e i z size bytes ht hi hz E X A B v n xs F a m c news hl G h1 Y H L
 refine⟨v',w',hr,h2,h3,?_⟩
 have O:∀ (olds:List Value) (k:Nat),(∀ u∈olds,u.oneCell'=true)->xY (w.drew.alloc (.cells (olds.toArray++news.toArray++Builtin.zeroCells z.cells k) e)) w.heap.size:=by
  intro olds k ho;refine xY.of (aQ:=olds.toArray++news.toArray++Builtin.zeroCells z.cells k) (T:=e) (fz:=(0,0)) (Go.heap_alloc_new w.drew _) ?_
  intro u hu;simp only[sf,nM] at hu;rcases hu with(hu | hu) | hu
  .exact ho u hu
  .exact h1 u hu
  .exact RY I k u hu
 subst E;subst X
 have Q:n+m<=9223372036854775807:=by simp only[maxLen] at Y;omega
 rcases F.2 with⟨rfl,rfl⟩ | ⟨g,cap,cur,rfl,S,hg,W,H0,N,Z⟩
 .by_cases hm:m=0
  .have:=h4.2 ⟨rfl,hm⟩
   rw[this];exact⟨.inl rfl,λb hb=>by simp[bP] at hb⟩
  .have K:=run_append_nil (P:=P) w t ty e i z ht hi hz a m c news hl G (by omega) (by omega) (by have hb:=H;simp only[pG] at hb;omega)
   rw[hr] at K;injection K with e1 e2;refine⟨by rw[e1];exact .inr ⟨_,rfl,nJ _⟩,λb hb=>?_⟩
   rw[e1] at hb;simp[bP] at hb;subst hb;rw[e2];have:=O [] (grownCap w m 0 e-m) (λ_ h=>by cases h)
   simpa using this
 .by_cases J:n+m<=cap
  .have V:n*i.size+news.length<=cur.size:=by rw[hl,N,<-oR];exact oY _ J
   have K:=run_append_room (P:=P) w t ty e i ht hi g n cap cur hg a m c news hl G h1 J V;rw[hr] at K;injection K with e1 e2;refine⟨by rw[e1];exact .inl rfl,λb hb=>?_⟩
   rw[e1] at hb;simp[bP] at hb;subst hb;rw[e2];refine xY.of (setRow_heap w g cur _ e (0,0) hg) ?_
   intro u hu;have h0:=M g (by rfl) _ _ _ hg
   simp only[nM] at hu;rcases hu with(hu | hu) | hu
   .exact h0 u (oh hu)
   .exact h1 u hu
   .exact h0 u (oH hu)
  .have holds:∀ j u,xs[j]?=some u->w.cell? ((⟨g,0,none⟩:Addr).add j)=some u:=F.cells (g:=g) rfl
   have K:=run_append_grow (P:=P) w t ty e i z ht hi hz ⟨g,0,none⟩ n cap xs F.1 holds a m c news hl G (by omega) (by omega) (growslice_fits (by omega) H)
   rw[hr] at K;injection K with e1 e2;refine⟨by rw[e1];exact .inr ⟨_,rfl,nJ _⟩,λb hb=>?_⟩
   rw[e1] at hb;simp[bP] at hb;subst hb;rw[e2];exact O xs _ C
end
end Go.V
namespace Go.V
variable [Dr] [Ov]
open Go.RowKit
section
variable {P:Program} {X:Nat->Prop} {w0:bz} {st:St} {β:Nat->Value} {a:Act} {w w':World} {m:Nat} {k:ah->Prop}
theorem Ju{sz:Nat}:∀ {rows:List (List D)} {n:Nat},(∀ r∈rows,r.length=sz)->(rows.drop n).flatten=rows.flatten.drop (n*sz)
 | [],n,h=>by simp
 |r::rs,0,h=>by simp
 |r::rs,n+1,h=>by
  have H:=h r (by simp)
  simp only[List.drop_succ_cons,oZ];rw[Ju (λx hx=>h x (by simp[hx])),oR,List.drop_append]
  have:n*sz+1*sz-r.length=n*sz:=by omega
  rw[this,pJ (as:=r) (by rw[H];have:0<=n*sz:=nU _;omega)];rfl
theorem QS{sz:Nat}:∀ {rows:List (List D)} {n:Nat},(∀ r∈rows,r.length=sz)->(rows.take n).flatten=rows.flatten.take (n*sz)
 | [],n,h=>by simp
 |r::rs,0,h=>by simp
 |r::rs,n+1,h=>by
  have H:=h r (by simp)
  simp only[pE,oZ];rw[QS (λx hx=>h x (by simp[hx])),oR,z_]
  have:n*sz+1*sz-r.length=n*sz:=by omega
  rw[this,oa (l:=r) (by rw[H];have:0<=n*sz:=nU _;omega)]
theorem zfc{sz:Nat}{rows l:List (List D)}{lo:Nat}(h:∀ r∈rows,r.length=sz)(H:∀ r∈l,r.length=sz):(aO rows lo l).flatten=aO rows.flatten (lo*sz) l.flatten:=by
 unfold aO
 rw[q_,q_,QS h,Ju h,cx H,oR]
theorem QT(M:ax X w0 st β a w){id sz:Nat}{s:ah}{v:Value}{l:List (List D)}(h:kQ st id s=some l)(hs:Sm w (Ex X β st.own) β s v)(J:∀ r∈l,r.length=sz):
  ∃ ad c,v = .slice ad l.length c/\(ad=none->l=[]/\c=0)/\∀ a0,ad=some a0->∃ news:List Value,zl w (Ex X β st.own) l.flatten news/\∀ (j:Nat) u,news[j]?=some u->w.cell? (a0.add j)=some u:=by
 cases s <;> simp only[kQ] at h
 case d x=>
  cases x <;> simp only[kQ] at h
  case sl l'=>
   simp at h;subst h
   simp only[Sm,R] at hs;obtain⟨ad,c,rfl,O,Q,V,Y⟩:=hs;refine⟨ad,c,rfl,λZ=>?_,λa0 ha=>?_⟩
   .have:=V Z
    exact⟨nZ (by omega),this⟩
   .by_cases K:l'=[]
    .subst K;exact⟨[],by simp[zl],by simp⟩
    .obtain⟨b,off,A,B,L,C⟩:=Y K
     rw[ha] at A;simp at A;subst A;obtain⟨vs,e1,e2⟩:=(yj.i_ C).cells;exact⟨vs,e1,λj u I=>by rw[add_lit];exact e2 j u I⟩
  all_goals cases h
 case aW=>
  simp at h;subst h
  simp only[Sm] at hs;subst hs;exact⟨none,0,rfl,λ_=>⟨rfl,rfl⟩,λa0 h=>by cases h⟩
 case ar j=>
  split at h
  .cases h
  .split at h
   .rename_i T sz' rows N
    simp at h;subst h
    obtain⟨_,_,xs,P,S,G⟩:=M.dm N;simp only[Sm] at hs;subst hs;rcases P.1.2 with⟨Z,W⟩ | ⟨g,cap,cur,hg,_⟩
    .exact⟨none,0,by rw[Z,W],λ_=>⟨nZ W,rfl⟩,λa0 h=>by cases h⟩
    .refine⟨some ⟨g,0,none⟩,cap,hg,(λh=>by cases h),λa0 ha=>⟨xs,S,λj u I=>?_⟩⟩
     cases ha;exact P.1.cells (by rw[hg];rfl) j u I
   .cases h
 case a_s j sz' lo n=>
  split at h
  .cases h
  .split at h
   .rename_i T sz2 rows N
    split at h
    .rename_i F
     obtain⟨rfl,F⟩:=F;simp at h;subst h
     obtain⟨_,_,xs,P,S,G⟩:=M.dm N;simp only[Sm] at hs;obtain⟨b,m,c,k,hβ,rfl,O,Q⟩:=hs;have E:((rows.drop lo).take n).length=n:=by simp;omega
     refine⟨some ⟨b,lo*sz',none⟩,k,by rw[E],(λh=>by cases h),λa0 ha=>?_⟩
     cases ha;refine⟨(xs.drop (lo*sz')).take (n*sz'),?_,λj u I=>?_⟩
     .rw[QS (λr C=>G r (oH C)),Ju G]
      exact zl.take _ (zl.drop _ S)
     .rw[og] at I
      split at I
      .rw[oQ] at I
       rcases P.1.2 with⟨Z,W⟩ | ⟨g,cap,cur,hg,_⟩
       .rw[Z] at hβ;cases hβ
       .have H:=P.1.cells (by rw[hg];rfl) (lo*sz'+j) u I
        rw[hg] at hβ;simp at hβ;obtain⟨rfl,_⟩:=hβ;rw[add_lit] at H ⊢;simpa using H
      .cases I
    .cases h
   .cases h
 case av j sz' lo n=>
  split at h
  .cases h
  .split at h
   .rename_i T sz2 rows N
    split at h
    .rename_i F
     obtain⟨rfl,F⟩:=F;simp at h;subst h
     obtain⟨_,_,xs,P,S,G⟩:=M.dm N;simp only[Sm] at hs;obtain⟨b,c,hβ,rfl,O,Q⟩:=hs;have E:((rows.drop lo).take n).length=n:=by simp;omega
     refine⟨some ⟨b,lo*sz',none⟩,c-lo,by rw[E],(λh=>by cases h),λa0 ha=>?_⟩
     cases ha;refine⟨(xs.drop (lo*sz')).take (n*sz'),?_,λj u I=>?_⟩
     .rw[QS (λr C=>G r (oH C)),Ju G]
      exact zl.take _ (zl.drop _ S)
     .rw[og] at I
      split at I
      .rw[oQ] at I
       rcases P.1.2 with⟨Z,W⟩ | ⟨g,cap,cur,hg,_⟩
       .rw[Z] at hβ;cases hβ
       .have H:=P.1.cells (by rw[hg];rfl) (lo*sz'+j) u I
        rw[hg] at hβ;simp at hβ;obtain⟨rfl,_⟩:=hβ;rw[add_lit] at H ⊢;simpa using H
      .cases I
    .cases h
   .cases h
 all_goals cases h
theorem ZA{ai T sz n:Nat}{v:Value}{xs:List Value}(h:w.ownsRow ai T sz v n xs):v.ownBlock=bP v:=by
 rcases h.2 with⟨rfl,_⟩ | ⟨g,cap,cur,rfl,_⟩ <;> rfl
theorem Bi{ai T sz n:Nat}{v:Value}{xs:List Value}(h:w.ownsRow ai T sz v n xs):v.oneCell'=true:=by
 rcases h.2 with⟨rfl,_⟩ | ⟨g,cap,cur,rfl,_⟩ <;> rfl
theorem RZ(hm:ax X w0 st β a w){o:Oper}{t t':Nat}{s x:Operand}(ho:o.op = .call {callee:=.builtin .append,args:=#[s,x],argTypes:=#[t,t']})(hd:∀ t,o.dst=some t->t<st.n){K:St->Prop}
  {e:Nat} {te:TI} (hu:P.underlying t=some (.slice e)) (Hd:TI.of P e=some te) (Hi:t'=t) (Y:0<te.size) (Hp:te.zero.length=te.size) (Hs:te.zero.all (·.oneCell')=true) {id:Nat} (Hx:a.eval s=β id) {rows l:List (List D)}
  (H2:st.ay id=some (.aQ e te.size rows)) (Z:kQ st id (st.val x)=some l) (A:∀ r∈l,r.length=te.size) (hb:(rows.length+l.length)*te.bytes<=140737488355328) (G2:rows.length+l.length<=maxLen)
  (h:K ((st.aV id (.aQ e te.size (rows++l))).put o.dst (.ar id))):br P X w0 o a w K:=by
 subst Hi
 obtain⟨ie,ue,ze,B,Fd,Ga,_,Gb,Gc,_,Hb⟩:=y8 Hd
 obtain⟨cq,Fi,xs,hx,C,Gd⟩:=hm.dm H2
 obtain⟨ad,c,Hc,F,J⟩:=QT hm Z (hm.val x).2 A
 have I:∀ r∈rows++l,r.length=te.size:=λr hr=>(nM.1 hr).elim (Gd r) (A r)
 have Go:ze.cells.size=te.size:=by rw[<-Hp,Hb];simp
 have ck:∀ (v':Value) (w':World) (xs':List Value),(Builtin.append_ #[t',t'] o.type #[β id,a.eval x]).run P w = .ok v' w'->ja w0.dS w' e te.size v' (rows++l).length xs' ->
   cR w0 w'->(∀ c,c<w.heap.size->some c≠bP (β id)->w'.heap[c]?=w.heap[c]?)->(∀ b,bP v'=some b->bP (β id)=some b\/w.heap.size<=b) ->
   (∀ E,bh w (Ex X β st.own) w' E->zl w' E (rows++l).flatten xs')->br P X w0 o a w K:=by
  intro v' w' xs' hr L N M S G;have Gr:=hm.aV (o':=.aQ e te.size (rows++l)) H2 (Bi L.1) N M S trivial (λE O Fk=>⟨xs',by simpa using L,G E O,I⟩)
  refine br.x9 (v:=v') (w':=w') ?_ h (Gr.yH hd (by simpa[ah.lo,St.aV] using cq) (by simp[Sm]))
  simp[execOp,ho,resolve,invoke,builtin,Hx,hr]
 cases ad with
 |none=>
  obtain⟨rfl,rfl⟩:=F rfl;refine ck (β id) w xs ?_ (by simpa using hx) hm.below (λ_ _ _=>rfl) (λb hb=>.inl hb) (λE O=>by simpa using zl.over O _ _ C)
  rw[Hc];rcases hx.1.2 with⟨hn,h0⟩ | ⟨g,cap,cur,hg,_,hh,Q,_⟩
  .rw[hn]
   simp[Builtin.append_,run_underlying hu,sizeOf,typeInfo,B,Builtin.lenOf,Builtin.firstCells]
  .rw[hg]
   simp[Builtin.append_,run_underlying hu,sizeOf,typeInfo,B,Builtin.lenOf,Builtin.firstCells,Q,storeCells]
 |some a0=>
  obtain⟨news,W,T⟩:=J a0 rfl;have F0:news.length=l.length*te.size:=by rw[W.length,cx A]
  obtain⟨v',w',hr,L,hg,H0,V⟩:=zfb (P:=P) (w:=w) 0 t' o.type e ie ze te.size te.bytes hu B Ga Gb.symm Gc.symm Go Y (β id) rows.length xs hx.1 a0 l.length c news F0 T W.cB G2 hb (nU _) (λb hb=>(hx.2 b hb).2) C.cB (by rw[<-Hb];exact oo.1 Hs)
  have H:∀ b,bP v'=some b->bP (β id)=some b\/w.heap.size<=b:=by
   intro b hb;rw[<-ZA L] at hb;rcases H0 with e | ⟨g,e,F1⟩
   .left;rw[e,ZA hx.1] at hb;exact hb
   .right;rw[e] at hb;cases hb;exact F1
  have H1:∀ b,bP v'=some b->w0.dS b:=λb hb=>(H b hb).elim (λe=>(hx.2 b e).1) (λh=>.inl (oC hm.below.size h))
  refine ck v' w' (xs++news) (by rw[Hc];exact hr) ⟨by simpa using L,λb hb=>⟨H1 b hb,V b hb⟩⟩ ?_ ?_ H ?_
  .exact hm.below.k_ hg.os hg.tape hg.output hg.size (λk hk hn=>hg.block k hk (λe=>hn (hx.2 k (by rw[<-ZA hx.1];exact e.symm)).1)) (λ_=>ju P _ _ _ _ hr)
  .intro c hc Fc
   exact hg.block c hc (by rw[ZA hx.1];exact Fc)
  .intro E O
   rw[q_];exact zl.over O _ _ (zl.append C W)
theorem zbq(A:ax X w0 st β a w){o:Oper}{t t':Nat}{s x:Operand}(B:o.op = .call {callee:=.builtin .append,args:=#[s,x],argTypes:=#[t,t']})(C:∀ t,o.dst=some t->t<st.n){K:St->Prop}
  (h:Js P st o.dst t t' (st.val s) (st.val x) K):br P X w0 o a w K:=by
 unfold Js at h
 split at h
 .rename_i e _ _ _ _ I
  obtain⟨i,u,z,hi,N,S,V,_⟩:=y8 I;have:=qK V.symm;subst this
  split at h
  .rename_i te L
   obtain⟨M,F,O,Q,h⟩:=h;split at h
   .rename_i id hs
    split at h
    .rename_i T sz rows l Y H
     obtain⟨rfl,rfl,E,W,J,h⟩:=h;have G:=(A.val s).2;rw[hs] at G;simp only[Sm] at G;exact RZ A B C N L M F O Q G Y H E W J h
    .exact h.elim
   .rename_i hs
    split at h
    .rename_i l H
     obtain⟨E,W,J,h⟩:=h;have G:=(A.val s).2;rw[hs] at G;simp only[Sm] at G;have Z:=A.Xn e te.size;refine RZ Z B C N L M F O Q (id:=st.next) (rows:=[]) ?_ ?_ H E (by simpa using W) (by simpa using J) (by simpa using h)
     .simp[G]
     .simp[St.ay,St.new,zc]
    .exact h.elim
   .exact h.elim
  .exact h.elim
 .exact h.elim
def U9(P:Program)(st:St)(dst:Option Tmp)(t:Nat)(d s:ah)(K:St->Prop):Prop:=
 match TI.of P t with
 |some ⟨.slice e,_,_,_,_⟩=>match TI.of P e with
  |some te=>0<te.size/\match kQ st st.next s with
   |some l=>(∀ r∈l,r.length=te.size)/\match d with
    |.d (.sl [])=>K (st.put dst (.d (.int .i64 0)))
    |.a_s id sz lo n=>match st.ay id with
     |some (.aQ T sz' rows)=>sz=te.size/\sz'=te.size/\lo+n<=rows.length/\K ((st.set id (.aQ T sz' (aO rows lo (l.take n)))).put dst (.d (.int .i64 ((l.take n).length:Nat))))
     |_=>False
    |.av id sz lo n=>match st.ay id with
     |some (.aQ T sz' rows)=>sz=te.size/\sz'=te.size/\lo+n<=rows.length/\K ((st.set id (.aQ T sz' (aO rows lo (l.take n)))).put dst (.d (.int .i64 ((l.take n).length:Nat))))
     |_=>False
    |.ar id=>match st.ay id with
     |some (.aQ T sz' rows)=>sz'=te.size/\K ((st.set id (.aQ T sz' (aO rows 0 (l.take rows.length)))).put dst (.d (.int .i64 ((l.take rows.length).length:Nat))))
     |_=>False
    |_=>False
   |none=>False
  |none=>False
 |_=>False
theorem zbr(w:World)(dT sT ty elem:TypeId)(g o dLen dCap:Nat)(a:Addr)(sLen sCap:Nat)(cur:Array Value)(t:TypeId)(cs:List Value)(K:Nat)
  (E:P.underlying dT=some (.slice elem)) (hs:(P.info? elem).map (·.size)=some K)
  (J:w.heap[g]?=some (.cells cur t (0,0))) (L:cs.length=Nat.min sLen dLen*K)
  (H:∀ j v,cs[j]?=some v->w.cell? (a.add j)=some v) (G:o+cs.length<=cur.size) (M:∀ v∈cs,v.oneCell'=true) :
  (Builtin.copy_ #[dT,sT] ty #[.slice (some ⟨g,o,none⟩) dLen dCap,.slice (some a) sLen sCap]).run P w =
   .ok (goInt (Nat.min sLen dLen)) (w.setRow g (cur.toList.take o++cs++cur.toList.drop (o+cs.length)).toArray):=by
 have O:=run_loadCells_list (P:=P) w a cs H
 have F:=run_storeCells_at P g o t cs 0 cur w J (by simpa using G) M
 cases Q:P.info? elem with
 |none=>simp[Q] at hs
 |some i=>
  have hi:i.size=K:=by simpa[Q] using hs
  subst hi;simp only[rf] at F;simp[Builtin.copy_,run_underlying E,Builtin.lenOf,Builtin.firstCells,sizeOf,typeInfo,Q,<-L,O,F]
theorem Bj(w:World)(dT sT ty elem:TypeId)(d a:Option Addr)(dLen dCap sLen sCap:Nat)(K:Nat)(H:P.underlying dT=some (.slice elem))(hs:(P.info? elem).map (·.size)=some K)(G:Nat.min sLen dLen=0):
  (Builtin.copy_ #[dT,sT] ty #[.slice d dLen dCap,.slice a sLen sCap]).run P w = .ok (goInt 0) w:=by
 cases F:P.info? elem with
 |none=>simp[F] at hs
 |some i=>
  have E:∀ (x:Addr),(loadCells x 0).run P w = .ok #[] w:=λx=>by simpa using run_loadCells_list (P:=P) w x [] (by simp)
  cases d <;> cases a <;> simp[Builtin.copy_,run_underlying H,Builtin.lenOf,Builtin.firstCells,sizeOf,typeInfo,F,G,storeCells,E]
theorem Ua(hm:ax X w0 st β a w){id T sz b m c lo:Nat}{rows l:List (List D)}(Y:st.ay id=some (.aQ T sz rows))(hβ:β id = .slice (some ⟨b,0,none⟩) m c)
  (K:lo+l.length<=rows.length) (hl:∀ r∈l,r.length=sz) {us:List Value} (Z:zl w (Ex X β st.own) l.flatten us) :
  ∃ cur:Array Value,w.heap[b]?=some (.cells cur T (0,0))/\us.length=l.length*sz/\lo*sz+us.length<=cur.size /\
   ax X w0 (st.set id (.aQ T sz (aO rows lo l))) β a (w.setRow b (aO cur.toList (lo*sz) us).toArray):=by
 obtain⟨cq,Hc,xs,hx,B,A⟩:=hm.dm Y
 have C:us.length=l.length*sz:=by rw[Z.length,cx hl]
 rcases hx.1.2 with⟨hn,_⟩ | ⟨g,cap,cur,hg,I,hh,G,N,P,J⟩
 .rw[hn] at hβ;cases hβ
 .have S:b=g:=by rw[hg] at hβ;simp at hβ;exact hβ.1.symm
  subst S;have W:xs.length=rows.length*sz:=hx.1.1
  have H0:cur.toList.length=cap*sz:=by simpa using P
  have H1:(lo+l.length)*sz<=rows.length*sz:=oY _ K
  have Hd:rows.length*sz<=cap*sz:=oY _ G
  rw[oR] at H1;have L:lo*sz+us.length<=xs.length:=by omega
  have M:lo*sz+us.length<=cur.size:=by have h7:cur.size=cur.toList.length:=(oM).symm;omega
  have H:(aO rows lo l).length=rows.length:=QJ K
  have O:=(hx.2 b (by rw[hg];rfl)).1
  have Q:=(hx.2 b (by rw[hg];rfl)).2 _ _ _ hh
  have H2:Ex X β st.own b:=.inr ⟨id,_,xm Y,by rw[hg];rfl⟩
  have F:∀ c,c≠b->(w.setRow b (aO cur.toList (lo*sz) us).toArray).heap[c]?=w.heap[c]?:=λc hc=>setRow_other w b c _ hc
  have Hb:=QK H2 F;have E:=setRow_heap w b cur (aO cur.toList (lo*sz) us).toArray T (0,0) hh;refine⟨cur,hh,C,M,?_⟩
  refine hm.db Y (b:=b) (by rw[hg];rfl) O F (by simp) rfl rfl rfl (λ_=>by simp) trivial ?_
  refine⟨aO xs (lo*sz) us,⟨⟨?_,.inr ⟨b,cap,_,?_,I,E,?_,N,?_,?_⟩⟩,λb2 V=>⟨(hx.2 b2 V).1,by
   rw[hg] at V;simp[bP] at V;subst V;exact xY.of E (λu hu=>(Jm (by simpa using hu)).elim (Q u) (Z.cB u))⟩⟩,?_,?_⟩
  .rw[QJ L,H];exact W
  .rw[hg,H]
  .rw[H];exact G
  .simp only[sK];rw[QJ (by omega)];exact H0
  .rw[H];simp only[]
   rw[RE (by omega) (by omega),J]
  .rw[zfc A hl]
   exact zl.over Hb _ _ (zl.aO B Z _)
  .intro r hr
   exact(Jm hr).elim (A r) (hl r)
theorem Jv(K:ax X w0 st β a w){id T sz:Nat}{rows:List (List D)}(H:st.ay id=some (.aQ T sz rows)):ax X w0 (st.set id (.aQ T sz rows)) β a w:=by
 obtain⟨cq,G,xs,J,F,E⟩:=K.dm H
 have L:∀ {l:List (Nat×am)},zc l id=some (.aQ T sz rows)->zT id (.aQ T sz rows) l=l:=by
  intro l;induction l with
  |nil=>intro h;simp[zc] at h
  |cons x r ih=>
   intro h;obtain⟨k,u⟩:=x;simp only[zc] at h;simp only[zT];split at h
   .rename_i e;simp at h;simp[e,h]
   .rename_i e;rw[ge e,ih h]
 have:st.set id (.aQ T sz rows)=st:=by
  unfold St.set;rw[L H]
 rw[this];exact K
theorem Bl(hm:ax X w0 st β a w){o:Oper}{t t':Nat}{d s:Operand}(ho:o.op = .call {callee:=.builtin .copy,args:=#[d,s],argTypes:=#[t,t']})(hd:∀ t,o.dst=some t->t<st.n){K:St->Prop}
  {e sz:Nat} (hu:P.underlying t=some (.slice e)) (G:(P.info? e).map (·.size)=some sz) {l:List (List D)} (M:kQ st st.next (st.val s)=some l) (L:∀ r∈l,r.length=sz)
  {id T lo n m c k b:Nat} {rows:List (List D)} (B:st.ay id=some (.aQ T sz rows)) (N:lo+n<=rows.length) (hβ:β id = .slice (some ⟨b,0,none⟩) m c) (C:a.eval d = .slice (some ⟨b,lo*sz,none⟩) n k)
  (h:K ((st.set id (.aQ T sz (aO rows lo (l.take n)))).put o.dst (.d (.int .i64 ((l.take n).length:Nat))))):br P X w0 o a w K:=by
 obtain⟨ad,c1,I,F,E⟩:=QT hm M (hm.val s).2 L
 have O:(l.take n).length=Nat.min l.length n:=by simp[Nat.min_comm]
 have Q:∀ r∈l.take n,r.length=sz:=λr hr=>L r (oh hr)
 by_cases h0:(l.take n).length=0
 .have V:l.take n=[]:=nZ h0
  have S:aO rows lo ([]:List (List D))=rows:=by simp[aO]
  rw[V,S] at h;have H:=Bj (P:=P) w t t' o.type e (some ⟨b,lo*sz,none⟩) ad n k l.length c1 sz hu G (by rw[O] at h0;exact h0)
  refine br.x9 (v:=goInt 0) (w':=w) ?_ h ((Jv hm B).yH hd (by simp[ah.lo]) (by simp[Sm,R,goInt]))
  simp[execOp,ho,resolve,invoke,builtin,C,I,H]
 .cases ad with
  |none=>obtain⟨rfl,_⟩:=F rfl;simp at h0
  |some a0=>
   obtain⟨news,Y,J⟩:=E a0 rfl;have H2:news.length=l.length*sz:=by rw[Y.length,cx L]
   have Z:zl w (Ex X β st.own) (l.take n).flatten (news.take (n*sz)):=by
    rw[QS L];exact zl.take _ Y
   obtain⟨cur,hh,W,H0,H1⟩:=Ua hm B hβ (l:=l.take n) (lo:=lo) (by simp;omega) Q Z
   have H:=zbr (P:=P) w t t' o.type e b (lo*sz) n k a0 l.length c1 cur T (news.take (n*sz)) sz hu G hh (by rw[W,O])
    (λj v hj=>J j v (by rw[og] at hj;split at hj;exact hj;cases hj)) H0 (λv hv=>Y.cB v (oh hv))
   have A:(cur.toList.take (lo*sz)++news.take (n*sz)++cur.toList.drop (lo*sz+(news.take (n*sz)).length)).toArray=(aO cur.toList (lo*sz) (news.take (n*sz))).toArray:=rfl
   rw[A] at H;refine br.x9 (v:=goInt (Nat.min l.length n)) (w':=w.setRow b (aO cur.toList (lo*sz) (news.take (n*sz))).toArray) ?_ h (H1.yH hd (by simp[ah.lo]) (by simp only[Sm,R,goInt];rw[O]))
   simp[execOp,ho,resolve,invoke,builtin,C,I,H]
theorem zfd(hm:ax X w0 st β a w){o:Oper}{t t':Nat}{d s:Operand}(ho:o.op = .call {callee:=.builtin .copy,args:=#[d,s],argTypes:=#[t,t']})(hd:∀ t,o.dst=some t->t<st.n){K:St->Prop}
  (h:U9 P st o.dst t (st.val d) (st.val s) K):br P X w0 o a w K:=by
 unfold U9 at h
 split at h
 .rename_i e _ _ _ _ ht
  obtain⟨i,u,z,hi,hu,hz,Y,_⟩:=y8 ht;have:=qK Y.symm;subst this
  split at h
  .rename_i te Z
   obtain⟨ie,ue,ze,A,N,S,_,W,H0,_,H1⟩:=y8 Z;obtain⟨B,h⟩:=h;have G:(P.info? e).map (·.size)=some te.size:=by rw[A];simp;omega
   split at h
   .rename_i l F
    obtain⟨M,h⟩:=h;have H:=(hm.val d).2;split at h
    .rename_i hds
     rw[hds] at H;simp only[Sm,R] at H;obtain⟨da,dc,H,_⟩:=H;obtain⟨ad,c,V,O,Q⟩:=QT hm F (hm.val s).2 M;have E:=Bj (P:=P) w t t' o.type e da ad 0 dc l.length c te.size hu G (by simp)
     refine br.x9 (v:=goInt 0) (w':=w) ?_ h (hm.yH hd (by simp[ah.lo]) (by simp[Sm,R,goInt]))
     simp only[pc] at H;simp[execOp,ho,resolve,invoke,builtin,H,V,E]
    .rename_i id sz lo n hds
     rw[hds] at H;simp only[Sm] at H;split at h
     .rename_i T sz' rows J
      obtain⟨rfl,rfl,L,h⟩:=h;obtain⟨b,m,c',k,hβ,H,h1,h2⟩:=H;exact Bl hm ho hd hu G F M J L hβ H h
     .exact h.elim
    .rename_i id sz lo n hds
     rw[hds] at H;simp only[Sm] at H;split at h
     .rename_i T sz' rows J
      obtain⟨rfl,rfl,L,h⟩:=h;obtain⟨b,c',hβ,H,h1,h2⟩:=H;exact Bl hm ho hd hu G F M J L hβ H h
     .exact h.elim
    .rename_i id hds
     rw[hds] at H;simp only[Sm] at H;split at h
     .rename_i T sz' rows J
      obtain⟨rfl,h⟩:=h;obtain⟨cq,H2,xs,hx,Hb,Hc⟩:=hm.dm J;rcases hx.1.2 with⟨hn,h0⟩ | ⟨g,cap,cur,hg,_⟩
      .have C:rows=[]:=nZ h0
       subst C;obtain⟨ad,c,V,O,Q⟩:=QT hm F (hm.val s).2 M;have E:=Bj (P:=P) w t t' o.type e none ad 0 0 l.length c te.size hu G (by simp)
       have I:aO ([]:List (List D)) 0 (l.take ([]:List (List D)).length)=[]:=by simp[aO]
       rw[I] at h;refine br.x9 (v:=goInt 0) (w':=w) ?_ h ((Jv hm J).yH hd (by simp[ah.lo]) (by simp[Sm,R,goInt]))
       rw[hn] at H;simp[execOp,ho,resolve,invoke,builtin,H,V,E]
      .refine Bl hm ho hd hu G F M (lo:=0) (n:=rows.length) (k:=cap) J (by omega) hg ?_ h
       rw[Nat.zero_mul];rw[H,hg]
     .exact h.elim
    .exact h.elim
   .exact h.elim
  .exact h.elim
 .exact h.elim
theorem Jw{E:Nat->Prop}{w:World}:∀ {zs:List Value} {ds:List D},vD (zs.map bY)=some ds->zs.all (·.oneCell')=true->zl w E ds zs
 | [],ds,h,_=>by simp[vD] at h;subst h;simp[zl]
 |z::zs,ds,h,h1=>by
  simp only[nK,vD] at h;simp only[Ch,nI] at h1;split at h
  .rename_i x xs G H
   simp at h;subst h
   simp only[zl];exact⟨z,zs,rfl,h1.1,CZ G (KU _ E (λ_=>.nilFunc) z),Jw H h1.2⟩
  .cases h
theorem zl.replicate{E:Nat->Prop}{w:World}{ds:List D}{zs:List Value}(h:zl w E ds zs):∀ n,zl w E (List.replicate n ds).flatten (List.replicate n zs).flatten
 |0=>by simp[zl]
 |n+1=>by
  simp only[sY,oZ];exact zl.append h (zl.replicate h n)
theorem Jx:∀ {l:List ah} {ds:List D},vD l=some ds->ds.length=l.length
 | [],ds,h=>by simp[vD] at h;subst h;rfl
 |s::r,ds,h=>by
  simp only[vD] at h;split at h
  .rename_i x xs H hxs
   simp at h;subst h
   simp[Jx hxs]
  .cases h
def Ub(P:Program)(st:St)(dst:Option Tmp)(t:Nat)(x:ah)(K:St->Prop):Prop:=
 match TI.of P t with
 |some ⟨.slice e,_,_,_,_⟩=>match TI.of P e with
  |some te=>match vD (te.zero.map bY) with
   |some z=>te.zero.all (·.oneCell')=true/\te.zero.length=te.size/\match x with
    |.d (.sl [])=>K (st.put dst (.d (.bE [])))
    |.a_s id sz lo n=>match st.ay id with
     |some (.aQ T sz' rows)=>sz=te.size/\sz'=te.size/\lo+n<=rows.length/\K ((st.set id (.aQ T sz' (aO rows lo (List.replicate n z)))).put dst (.d (.bE [])))
     |_=>False
    |.av id sz lo n=>match st.ay id with
     |some (.aQ T sz' rows)=>sz=te.size/\sz'=te.size/\lo+n<=rows.length/\K ((st.set id (.aQ T sz' (aO rows lo (List.replicate n z)))).put dst (.d (.bE [])))
     |_=>False
    |_=>False
   |none=>False
  |none=>False
 |_=>False
theorem zc1(hm:ax X w0 st β a w){o:Oper}{t:Nat}{x:Operand}(ho:o.op = .call {callee:=.builtin .clear,args:=#[x],argTypes:=#[t]})(hd:∀ t,o.dst=some t->t<st.n){K:St->Prop}
  (h:Ub P st o.dst t (st.val x) K):br P X w0 o a w K:=by
 unfold Ub at h
 split at h
 .rename_i e _ _ _ _ ht
  obtain⟨i,u,z,hi,hu,hz,H1,_⟩:=y8 ht;have:=qK H1.symm;subst this
  split at h
  .rename_i te H2
   obtain⟨ie,ue,ze,I,Hc,N,_,Hd,Hi,_,S⟩:=y8 H2;split at h
   .rename_i zd Q
    obtain⟨W,H0,h⟩:=h;have H:=(hm.val x).2;split at h
    .rename_i hds
     rw[hds] at H;simp only[Sm,R] at H;obtain⟨da,dc,H,_⟩:=H;simp only[pc] at H;refine br.x9 (v:=.tuple #[]) (w':=w) ?_ h (hm.yH hd (by simp[ah.lo]) (by simp[Sm,R,zI]))
     cases da <;> simp[execOp,ho,resolve,invoke,builtin,H,Builtin.clear_,run_underlying hu]
    .rename_i id sz lo n hds
     rw[hds] at H;simp only[Sm] at H;split at h
     .rename_i T sz' rows M
      obtain⟨rfl,rfl,V,h⟩:=h;obtain⟨b,m,c',k,hβ,H,h1,h2⟩:=H;have O:=Jw (E:=Ex X β st.own) (w:=w) Q W;have G:zd.length=te.size:=by rw[Jx Q];simpa using H0
      cases n with
      |zero=>
       have Y:aO rows lo (List.replicate 0 zd)=rows:=by simp[aO]
       rw[Y] at h;refine br.x9 (v:=.tuple #[]) (w':=w) ?_ h ((Jv hm M).yH hd (by simp[ah.lo]) (by simp[Sm,R,zI]))
       simp[execOp,ho,resolve,invoke,builtin,H,Builtin.clear_,run_underlying hu]
      |succ n=>
       have Z:∀ r∈List.replicate (n+1) zd,r.length=te.size:=λr hr=>by rw[(sp.1 hr).2];exact G
       obtain⟨cur,hh,Hb,A,B⟩:=Ua hm M hβ (l:=List.replicate (n+1) zd) (lo:=lo) (by simp;omega) Z (O.replicate (n+1))
       have F:∀ v∈(List.replicate (n+1) te.zero).flatten,v.oneCell'=true:=(O.replicate (n+1)).cB
       have J:=run_storeCells_at P b (lo*te.size) T (List.replicate (n+1) te.zero).flatten 0 cur w hh (by simpa using A) F
       simp only[rf] at J;have L:(cur.toList.take (lo*te.size)++(List.replicate (n+1) te.zero).flatten++cur.toList.drop (lo*te.size+(List.replicate (n+1) te.zero).flatten.length)).toArray=(aO cur.toList (lo*te.size) (List.replicate (n+1) te.zero).flatten).toArray:=rfl
       rw[L] at J;have C:(Builtin.zeroCells ze.cells (n+1)).toList=(List.replicate (n+1) te.zero).flatten:=by
        unfold Builtin.zeroCells;rw[Jt,S]
       refine br.x9 (v:=.tuple #[]) (w':=w.setRow b (aO cur.toList (lo*te.size) (List.replicate (n+1) te.zero).flatten).toArray) ?_ h (B.yH hd (by simp[ah.lo]) (by simp[Sm,R,zI]))
       simp[execOp,ho,resolve,invoke,builtin,H,Builtin.clear_,run_underlying hu,zeroValue,typeInfo,I,N,C,J]
     .exact h.elim
    .rename_i id sz lo n hds
     rw[hds] at H;simp only[Sm] at H;split at h
     .rename_i T sz' rows M
      obtain⟨rfl,rfl,V,h⟩:=h;obtain⟨b,c',hβ,H,h1,h2⟩:=H;have O:=Jw (E:=Ex X β st.own) (w:=w) Q W;have G:zd.length=te.size:=by rw[Jx Q];simpa using H0
      cases n with
      |zero=>
       have Y:aO rows lo (List.replicate 0 zd)=rows:=by simp[aO]
       rw[Y] at h;refine br.x9 (v:=.tuple #[]) (w':=w) ?_ h ((Jv hm M).yH hd (by simp[ah.lo]) (by simp[Sm,R,zI]))
       simp[execOp,ho,resolve,invoke,builtin,H,Builtin.clear_,run_underlying hu]
      |succ n=>
       have Z:∀ r∈List.replicate (n+1) zd,r.length=te.size:=λr hr=>by rw[(sp.1 hr).2];exact G
       obtain⟨cur,hh,Hb,A,B⟩:=Ua hm M hβ (l:=List.replicate (n+1) zd) (lo:=lo) (by simp;omega) Z (O.replicate (n+1))
       have F:∀ v∈(List.replicate (n+1) te.zero).flatten,v.oneCell'=true:=(O.replicate (n+1)).cB
       have J:=run_storeCells_at P b (lo*te.size) T (List.replicate (n+1) te.zero).flatten 0 cur w hh (by simpa using A) F
       simp only[rf] at J;have L:(cur.toList.take (lo*te.size)++(List.replicate (n+1) te.zero).flatten++cur.toList.drop (lo*te.size+(List.replicate (n+1) te.zero).flatten.length)).toArray=(aO cur.toList (lo*te.size) (List.replicate (n+1) te.zero).flatten).toArray:=rfl
       rw[L] at J;have C:(Builtin.zeroCells ze.cells (n+1)).toList=(List.replicate (n+1) te.zero).flatten:=by
        unfold Builtin.zeroCells;rw[Jt,S]
       refine br.x9 (v:=.tuple #[]) (w':=w.setRow b (aO cur.toList (lo*te.size) (List.replicate (n+1) te.zero).flatten).toArray) ?_ h (B.yH hd (by simp[ah.lo]) (by simp[Sm,R,zI]))
       simp[execOp,ho,resolve,invoke,builtin,H,Builtin.clear_,run_underlying hu,zeroValue,typeInfo,I,N,C,J]
     .exact h.elim
    .exact h.elim
   .exact h.elim
  .exact h.elim
 .exact h.elim
def cP:List (List D)->Option (List UInt8)
 | []=>some []
 | [.int .u8 n]::r=>match cP r with
  |some l=>some (UInt8.ofNat n.toNat::l)
  |none=>none
 |_::_=>none
def yJ(s:ByteArray):List (List D):=s.data.toList.map λb=>[.int .u8 (b.toNat:Int)]
def wC(P:Program)(st:St)(s t:Nat)(x:ah)(k:ah->Prop):Prop:=
 match TI.of P s,TI.of P t with
 |some ⟨.slice e,_,_,_,_⟩,some ⟨.str,_,_,_,_⟩=>match TI.of P e with
  |some ⟨.int .u8,_,_,_,_⟩=>match kQ st st.next x with
   |some rows=>match cP rows with
    |some bs=>k (.d (.str ⟨bs.toArray⟩))
    |none=>False
   |none=>False
  |_=>False
 |some ⟨.str,_,_,_,_⟩,some ⟨.slice e,_,_,_,_⟩=>match TI.of P e,x with
  |some ⟨.int .u8,_,_,_,_⟩,.d (.str b)=>b.size<=maxLen/\k (.d (.sl (yJ b)))
  |_,_=>False
 |_,_=>False
theorem S0:∀ {rows:List (List D)} {bs:List UInt8},cP rows=some bs->∃ ns:List Int,rows=ns.map (λn=>[.int .u8 n])/\bs=ns.map (λn=>UInt8.ofNat n.toNat)
 | [],bs,h=>by simp[cP] at h;subst h;exact⟨[],rfl,rfl⟩
 |row::r,bs,h=>by
  unfold cP at h;split at h
  .rename_i heq;cases heq
  .rename_i n r' heq
   cases heq;split at h
   .rename_i l H
    simp at h;subst h
    obtain⟨ns,rfl,rfl⟩:=S0 H;exact⟨n::ns,rfl,rfl⟩
   .cases h
  .cases h
theorem ia:∀ (ns:List Int) (s:ByteArray),ns.foldl (λr n=>r.push (UInt8.ofNat n.toNat)) s=⟨s.data++(ns.map (λn=>UInt8.ofNat n.toNat)).toArray⟩
 | [],s=>by simp
 |n::ns,s=>by
  rw[oK,ia ns];simp[ByteArray.push]
theorem Bm{w:World}{E:Nat->Prop}:∀ {ns:List Int} {news:List Value},zl w E (ns.map (λn=>[D.int .u8 n])).flatten news->news=ns.map (Value.int .u8)
 | [],news,h=>by simpa[zl] using h
 |n::ns,news,h=>by
  simp only[nK,oZ,sx,zl] at h;obtain⟨v,vs',rfl,_,G,H⟩:=h;simp only[R] at G;rw[G,Bm H];rfl
theorem zc2(hm:ax X w0 st β a w){o:Oper}{s t:Nat}{x:Operand}(ho:o.op = .convert s t x)(h:wC P st s t (st.val x) k):Yields P X st β a w o k:=by
 unfold wC at h
 split at h
 .rename_i e _ _ _ _ _ _ _ _ hs ht
  obtain⟨i,u,z,hi,hu,hz,O,_⟩:=y8 hs;have:=qK O.symm;subst this
  obtain⟨i2,u2,z2,B,T,C,H,_⟩:=y8 ht;have:=Z2 H.symm;subst this
  split at h
  .rename_i he
   obtain⟨i3,u3,z3,I,V,N,G,_⟩:=y8 he;have:=eQ G.symm;subst this
   split at h
   .rename_i rows Y
    split at h
    .rename_i bs S
     obtain⟨ns,rfl,rfl⟩:=S0 S;obtain⟨ad,c,W,F,E⟩:=QT (sz:=1) hm Y (hm.val x).2 (by intro r hr;obtain⟨n,_,rfl⟩:=nS.1 hr;rfl)
     have J:=run_convert_bytes_string (P:=P) w s t e ad (ns.map (λn=>[D.int .u8 n])).length c hu V T
     have H0:YV P w (Ex X β st.own) β st.next (convert s t (a.eval x)) k:=by
      refine YV.str h ?_
      rw[W,J];cases ad with
      |none=>
       obtain⟨hn,rfl⟩:=F rfl;have:ns=[]:=by simpa using hn
       subst this;simp[Conv.bytesToString];rfl
      |some a0=>
       obtain⟨news,H1,L⟩:=E a0 rfl;have hn:news=ns.map (Value.int .u8):=Bm H1
       subst hn;have hl:=run_loadCells_list (P:=P) w a0 _ L;rw[om] at hl;rw[om,run_bytesToString (P:=P) w a0 ns.length c ns hl,ia];rw[show(ByteArray.empty).data = #[] from rfl];simp
     exact .jy H0 (λv hv=>by simp[execOp,ho,hv])
    .exact h.elim
   .exact h.elim
  .exact h.elim
 .rename_i e _ _ _ _ hs ht
  obtain⟨i,u,z,hi,hu,hz,O,_⟩:=y8 hs;have:=Z2 O.symm;subst this
  obtain⟨i2,u2,z2,B,T,C,H,_⟩:=y8 ht;have:=qK H.symm;subst this
  split at h
  .rename_i b he hx
   obtain⟨i3,u3,z3,I,V,N,G,_⟩:=y8 he;have:=eQ G.symm;subst this
   obtain⟨hb,h⟩:=h;have hv:=(hm.val x).2;rw[hx] at hv;simp only[Sm,R] at hv;intro K Q hN;have Z:=Lib.run_convert_string_bytes (P:=P) w s t e b hu T V;have A:Below w.heap.size w (Lib.bytesWorld w e b):=
    ⟨⟨rfl,rfl,rfl,by rw[Lib.bytesWorld_size];omega,λk hk=>Lib.bytesWorld_at_old w e b k hk⟩,λ_=>rr _⟩
   unfold Oper.wp;have:(execOp a.eval o).run P w = .ok (.value (.slice (some ⟨w.heap.size,0,none⟩) b.size (grownCap w b.size 0 e))) (Lib.bytesWorld w e b):=by
    simp[execOp,ho,hv,Z]
   rw[this];refine hN _ _ _ h (by simp[ah.lo]) A ?_
   have M:(yJ b).length=b.size:=by unfold yJ;rw[om];rfl
   simp only[Sm,R];refine⟨_,_,by rw[M],by rw[M];exact grownCap_ge w _ _ _,grownCap_le_maxLen w _ _ _ hb,by simp,λhne=>⟨w.heap.size,0,rfl,λhex=>?_,by rw[Lib.bytesWorld_size];omega,?_⟩⟩
   .have:=hm.lt _ hex;omega
   .have H2:dh (yJ b)=1:=by
     cases hr:yJ b with
     |nil=>exact absurd hr hne
     |cons r rs=>
      have:r∈yJ b:=by rw[hr];simp
      simp only[yJ,nS] at this;obtain⟨_,_,rfl⟩:=this;rfl
    rw[H2];refine yj.fv (by intro r hr;simp only[yJ,nS] at hr;obtain⟨_,_,rfl⟩:=hr;rfl) ?_
    have Hb:(yJ b).flatten=b.data.toList.map (λc=>D.int .u8 (c.toNat:Int)):=by
     unfold yJ;induction b.data.toList with
     |nil=>rfl
     |cons c l ih=>simp[ih]
    rw[Hb];refine zZ.dZ (vs:=b.data.toList.map (λc=>Value.int .u8 (c.toNat:Int))) ?_ λj u hj=>?_
    .have:∀ l:List UInt8,zl (Lib.bytesWorld w e b) (Ex X β st.own) (l.map λc=>D.int .u8 (c.toNat:Int)) (l.map λc=>Value.int .u8 (c.toNat:Int)):=by
      intro l;induction l with
      |nil=>simp[zl]
      |cons c l ih=>simp only[nK,zl];exact⟨_,_,rfl,rfl,by simp[R],ih⟩
     exact this _
    .rw[pC] at hj
     cases hc:b.data.toList[j]? with
     |none=>rw[hc] at hj;simp at hj
     |some c=>
      rw[hc] at hj;simp at hj;have Hc:j<b.size:=by
       exact(nN.1 hc).1
      rw[pG,Lib.bytesWorld_cell w e b j Hc];simp[List.getD,hc,hj]
  .exact h.elim
 .exact h.elim
def Bn(st:St)(dst:Option Tmp)(t:Nat)(K:St->Prop):Prop:=K ((st.new (.map t [])).put dst (.mp st.next))
theorem zaw(G:ax X w0 st β a w){o:Oper}{t:Nat}(F:o.op = .makeMap t none)(E:∀ t,o.dst=some t->t<st.n){K:St->Prop}(h:Bn st o.dst t K):br P X w0 o a w K:=by
 have H:ax X w0 (st.new (.map t [])) (λi=>if i=st.next then .map (some w.heap.size) else β i) a (w.alloc (.map #[] 0)):=by
  refine G.new (kP w _) rfl trivial (λb hb=>by simp[bP] at hb;omega) ?_
  exact⟨w.heap.size,#[],0,by simp,.inl G.below.size,(MapKept.heap_alloc w _).1,by simp[yN]⟩
 refine br.x9 (v:=.map (some w.heap.size)) (w':=w.alloc (.map #[] 0)) ?_ h (H.yH E (by simp[ah.lo,St.new]) (by simp[Sm]))
 simp[execOp,F,Instr.makeMap]
def Uc(P:Program)(st:St)(t:Nat)(m x v:ah)(K:St->Prop):Prop:=
 match m,x,Qs v,TI.of P t with
 |.mp id,.d x,some v,some ⟨.map kt _,_,_,_,_⟩=>match st.ay id,TI.of P kt with
  |some (.map T rows),some tk=>jw tk.kind x=true/\(match uZ x v rows with
   |some rows'=>K {st with own:=zT id (.map T rows') st.own}
   |none=>False)
  |_,_=>False
 |_,_,_,_=>False
theorem S4{u:TypeDesc}{x d:D}{v t:Value}{w:World}{E:Nat->Prop}(M:jw (qd P u) x=true)(O:R w E x v)(Q:R w E d t):
  ∀ {rows rows':List (List D)} {es:List MapEntry} {i:Nat},yN w E rows es->uZ x d rows=some rows' ->
   (Instr.findNow u v es i=some none/\∀ c,yN w E rows' (es++[{key:=v,val:=t,born:=c}])) \/
   (∃ j e,Instr.findNow u v es i=some (some (i+j,e.val))/\es[j]?=some e/\e.key=v/\yN w E rows' (es.modify j λe=>{e with key:=v,val:=t}))
 | [],rows',es,i,T,h=>by
  simp only[yN] at T;subst T;simp[uZ] at h;subst h;exact .inl ⟨rfl,λc=>by simp only[oP,yN];exact⟨_,[],rfl,by simp only[zI];exact⟨_,_,rfl,O,_,_,rfl,Q,rfl⟩,rfl⟩⟩
 | []::_,rows',es,i,T,h=>by simp[uZ] at h
 | [_]::_,rows',es,i,T,h=>by simp[uZ] at h
 |(_::_::_::_)::_,rows',es,i,T,h=>by simp[uZ] at h
 | [k,y]::rs,rows',es,i,T,h=>by
  simp only[yN,zI] at T;obtain⟨e,es',rfl,⟨v1,l1,e1,H,v2,l2,rfl,F,rfl⟩,K⟩:=T;simp at e1
  obtain⟨rfl,rfl⟩:=e1;simp only[uZ] at h;split at h
  .rename_i V
   simp at h;subst h
   have X:=(QG M O H V).1;have G:MapKept.IsKey u v:=QF M O
   have J:e.key=v:=by
    obtain⟨r,q1,q2⟩:=MapKept.sameNow_of_keys G (QF (QG M O H V).2 H);rw[X] at q1;simp at q1;exact(q2.1 q1).symm
   refine .inr ⟨0,e,by simp[Instr.findNow,X],by simp,J,?_⟩
   simp only[tv,yN];exact⟨_,es',rfl,by simp only[zI];exact⟨_,_,rfl,O,_,_,rfl,Q,rfl⟩,K⟩
  .rename_i V
   have X:=(QG M O H V).1;split at h
   .rename_i r' L
    simp at h;subst h
    rcases S4 M O Q (i:=i+1) K L with⟨q1,q2⟩ | ⟨j,e',q1,q2,q3,q4⟩
    .refine .inl ⟨by simpa[Instr.findNow,X] using q1,λc=>?_⟩
     simp only[nV,yN];exact⟨e,_,rfl,by simp only[zI];exact⟨_,_,rfl,H,_,_,rfl,F,rfl⟩,q2 c⟩
    .refine .inr ⟨j+1,e',?_,by simpa using q2,q3,?_⟩
     .simp only[Instr.findNow,X];rw[q1];congr 3;omega
     .simp only[tw,yN]
      exact⟨e,_,rfl,by simp only[zI];exact⟨_,_,rfl,H,_,_,rfl,F,rfl⟩,q4⟩
   .cases h
  .cases h
theorem zah(hm:ax X w0 st β a w){o:Oper}{t:Nat}{m x v:Operand}(ho:o.op = .mapUpdate t m x v)(hd:o.dst=none){K:St->Prop}
  (h:Uc P st t (st.val m) (st.val x) (st.val v) K):br P X w0 o a w K:=by
 unfold Uc at h
 split at h
 .rename_i id y d kt _ _ _ _ _ B C I ht
  split at h
  .rename_i T rows tk O N
   obtain⟨H,h⟩:=h;split at h
   .rename_i rows' Q
    obtain⟨j,u,z,hi,hu,hz,S,_⟩:=y8 ht;have:=Rl S.symm;subst this
    obtain⟨ik,uk,zk,Hb,V,Hc,W,_⟩:=y8 N;rw[W] at H;obtain⟨_,_,r,es,clock,hb,hN,hh,E⟩:=hm.dm O;have L:=(hm.val m).2;rw[B] at L;simp only[Sm] at L;have M:=(hm.val x).2;rw[C] at M;simp only[Sm] at M;have H0:=CZ I (hm.val v).2;have Z:=QF H M;have A:=MapKept.run_checkKey (P:=P) (w:=w) V Z false 9999;have ck:∀ es' clock',(Instr.mapUpdate t (a.eval m) (a.eval x) (a.eval v)).run P w = .ok () {w with heap:=w.heap.setIfInBounds r (.map es' clock')}->yN w (Ex X β st.own) rows' es'.toList->br P X w0 o a w K:=by
     intro es' clock' Y G;have F:=MapKept.heap_set (o':=.map es' clock') hh;have H1:Ex X β st.own r:=.inr ⟨id,_,xm O,by rw[hb];rfl⟩
     have H2:=QK (w':={w with heap:=w.heap.setIfInBounds r (.map es' clock')}) H1 (λc hc=>F.2 c hc)
     refine br.U6 (β':=β) (w':={w with heap:=w.heap.setIfInBounds r (.map es' clock')}) ?_ h ?_
     .simp[execOp,ho,Y]
     .have J:(a.put o.dst undef)=a:=by rw[hd];rfl
      try rw[J]
      refine hm.db O (b:=r) (by rw[hb];rfl) hN (λc hc=>F.2 c hc) (by simp) rfl rfl rfl (λ_=>by simp) trivial ?_
      exact⟨r,es',clock',hb,hN,F.1,yN.over H2 _ _ G⟩
    rcases S4 (P:=P) H M H0 (i:=0) E Q with⟨q1,q2⟩ | ⟨j,e,q1,q2,q3,q4⟩
    .refine ck (es.push {key:=a.eval x,val:=a.eval v,born:=clock}) (clock+1) ?_ (by simpa using q2 clock)
     simp[Instr.mapUpdate,run_underlying hu,L,hb,MapKept.run_getObj_map hh,A,MapKept.run_findKey V q1,MapKept.run_setObj_map _ hh]
    .have hj:es[j]?=some e:=by simpa using q2
     refine ck (es.modify j λe=>{e with key:=a.eval x,val:=a.eval v}) clock ?_ (by simpa using q4)
     simp[Instr.mapUpdate,run_underlying hu,L,hb,MapKept.run_getObj_map hh,A,MapKept.run_findKey V q1,hj,q3,MapKept.run_keyThatStays Z,MapKept.run_setObj_map _ hh]
   .exact h.elim
  .exact h.elim
 .exact h.elim
def Ud(P:Program)(st:St)(dst:Option Tmp)(t:Nat)(l c:ah)(K:St->Prop):Prop:=
 match TI.of P t,l,c with
 |some ⟨.slice e,_,_,_,_⟩,.d (.int _ l),.d (.int _ c)=>match TI.of P e with
  |some te=>match vD (te.zero.map bY) with
   |some x=>0<te.size/\te.zero.length=te.size/\te.zero.all (·.oneCell')=true/\0<=l/\l<=c/\(te.bytes:Int)*c<=281474976710656/\c<=maxLen /\
     K ((st.new (.aQ e te.size (List.replicate l.toNat x))).put dst (.ar st.next))
   |none=>False
  |none=>False
 |_,_,_=>False
theorem S5(zs:List Value):∀ (l c:Nat),l<=c->(List.replicate c zs).flatten.take (l*zs.length)=(List.replicate l zs).flatten
 |0,c,_=>by simp
 |l+1,0,h=>by omega
 |l+1,c+1,h=>by
  simp only[sY,oZ];rw[oR,rF,tR,z_,oa (by omega)]
  rw[show zs.length+l*zs.length-zs.length=l*zs.length by omega,S5 zs l c (by omega)]
theorem zfe(hm:ax X w0 st β a w){o:Oper}{t:Nat}{l c:Operand}(ho:o.op = .makeSlice t l c)(hd:∀ t,o.dst=some t->t<st.n){K:St->Prop}
  (h:Ud P st o.dst t (st.val l) (st.val c) K):br P X w0 o a w K:=by
 unfold Ud at h
 split at h
 .rename_i e _ _ _ _ kl l' kc c' ht hl hc
  split at h
  .rename_i te T
   split at h
   .rename_i x hx
    obtain⟨h1,G,V,h2,h3,h4,h5,h⟩:=h;obtain⟨j,u,zz,hi,hu,H0,Y,_⟩:=y8 ht;have:=qK Y.symm;subst this
    obtain⟨ie,ue,ze,Z,H1,A,_,B,C,_,M⟩:=y8 T;have J:=(hm.val l).2;rw[hl] at J;simp only[Sm,R] at J;have L:=(hm.val c).2;rw[hc] at L;simp only[Sm,R] at L;have H:=run_make (P:=P) w t e ie ze hu Z A kl kc l' c' h2 h3 (by rw[<-C];exact h4) (by simp only[maxLen] at h5;omega)
    have I:ze.cells.size=ie.size:=by rw[<-B,<-G,M];simp
    have F:(madeCells ze.cells (c'.toNat*ie.size)).toList=(List.replicate c'.toNat te.zero).flatten:=by
     unfold madeCells;rw[<-I,Jt,M]
    obtain⟨cs,N⟩:∃ cs,madeCells ze.cells (c'.toNat*ie.size)=cs:=⟨_,rfl⟩;rw[N] at H F;have O:∀ E,zl (w.alloc (.cells cs e)) E x te.zero:=λE=>Jw hx V
    have S:x.length=te.size:=by rw[Jx hx];simpa using G
    have Q:∀ n,(List.replicate n te.zero).flatten.length=n*te.size:=by
     intro n;induction n with
     |zero=>simp
     |succ n ih=>rw[sY,oZ,nO,ih,G,oR];omega
    have W:ax X w0 (st.new (.aQ e te.size (List.replicate l'.toNat x))) (λi=>if i=st.next then .slice (some ⟨w.heap.size,0,none⟩) l'.toNat c'.toNat else β i) a (w.alloc (.cells cs e)):=by
     refine hm.new (kP w _) rfl trivial (λb hb=>by simp[bP] at hb;omega) ?_
     refine⟨(List.replicate l'.toNat te.zero).flatten,⟨⟨?_,.inr ⟨w.heap.size,c'.toNat,cs,by simp,nU _,Go.heap_alloc_new w _,by simp;omega,by simp only[maxLen] at h5 ⊢;omega,?_,?_⟩⟩,λb hb=>⟨.inl (by simp[bP] at hb;have:=hm.below.size;omega),by
      simp[bP] at hb;subst hb;exact xY.of (Go.heap_alloc_new w _) (λu hu=>by rw[F] at hu;exact((O (λ_=>False)).replicate _).cB u hu)⟩⟩,(O _).replicate _,by intro r hr;rw[(sp.1 hr).2];exact S⟩
     .rw[Q];simp
     .have:cs.size=cs.toList.length:=(oM).symm
      rw[this,F,Q]
     .rw[F]
      have:=S5 te.zero l'.toNat c'.toNat (by omega)
      rw[G] at this;simpa using this
    refine br.x9 (v:=.slice (some ⟨w.heap.size,0,none⟩) l'.toNat c'.toNat) (w':=w.alloc (.cells cs e)) ?_ h (W.yH hd (by simp[ah.lo,St.new]) (by simp[Sm]))
    simp[execOp,ho,J,L,H]
   .exact h.elim
  .exact h.elim
 .exact h.elim
theorem S7{α:Type}{t:Nat}{v:α}:∀ {l:List (Nat×α)},zc l t=some v->zT t v l=l
 | [],h=>by simp[zc] at h
 |(k,u)::r,h=>by
  simp only[zc] at h;simp only[zT];split at h
  .rename_i e;simp at h;subst h;simp[e]
  .rename_i e;rw[ge e,S7 h]
def Ue(P:Program)(st:St)(dst:Option Tmp)(t:Nat)(x:ah)(K:St->Prop):Prop:=
 match TI.of P t,x with
 |some ⟨.str,_,_,_,_⟩,.d (.str s)=>K ((st.new (.cN (.it s 0) [])).put dst (.bp st.next 0))
 |_,_=>False
def Bo(s:ByteArray)(pos:Nat):Nat×D:=
 if pos<s.size then (pos+(Utf8.decode s pos).2,.bE [.bool true,.int .i64 (pos:Int),.int .i32 ((Utf8.decode s pos).1:Int)])
 else (pos,.bE [.bool false])
def Uf(st:St)(dst:Option Tmp)(x:ah)(K:St->Prop):Prop:=
 match x with
 |.bp id 0=>match st.ay id with
  |some (.cN (.it s pos) [])=>K (({st with own:=zT id (.cN (.it s (Bo s pos).1) []) st.own}:St).put dst (.d (Bo s pos).2))
  |_=>False
 |_=>False
theorem zc3(F:ax X w0 st β a w){o:Oper}{t:Nat}{x:Operand}(E:o.op = .range t x)(J:∀ t,o.dst=some t->t<st.n){K:St->Prop}(h:Ue P st o.dst t (st.val x) K):br P X w0 o a w K:=by
 unfold Ue at h
 split at h
 .rename_i s L hx
  obtain⟨i,u,z,hi,M,O,H,_⟩:=y8 L;have:=Z2 H.symm;subst this
  have Q:=(F.val x).2;rw[hx] at Q;simp only[Sm,R] at Q;have G:ax X w0 (st.new (.cN (.it s 0) [])) (λi=>if i=st.next then .pointer (some ⟨w.heap.size,0,none⟩) else β i) a (w.alloc (.stringIter s 0)):=by
   refine F.new (kP w _) rfl trivial (λb hb=>by simp[bP] at hb;omega) ?_
   exact⟨w.heap.size,0,0,[],by simp[RK.ptr],.inl F.below.size,(MapKept.heap_alloc w _).1,by simp[zi]⟩
  refine br.x9 (v:=.pointer (some ⟨w.heap.size,0,none⟩)) (w':=w.alloc (.stringIter s 0)) ?_ h (G.yH J (by simp[ah.lo,St.new]) (by simp[Sm]))
  simp[execOp,E,Instr.range,run_underlying M,Q]
 .exact h.elim
theorem S8{w:World}{r:Nat}{s:ByteArray}{pos:Nat}(h:w.heap[r]?=some (.stringIter s pos)):(getObj r).run P w = .ok (.stringIter s pos) w:=by simp[getObj,Sem.run,h]
theorem zbs{w:World}{r:Nat}{s:ByteArray}{pos:Nat}(o:Obj)(h:w.heap[r]?=some (.stringIter s pos)):(setObj r o).run P w = .ok () (w.putObj r o):=by simp[setObj,Sem.run,h,World.putObj]
theorem zff(M:ax X w0 st β a w){o:Oper}{x:Operand}(O:o.op = .next x true)(Q:∀ t,o.dst=some t->t<st.n){K:St->Prop}(h:Uf st o.dst (st.val x) K):br P X w0 o a w K:=by
 unfold Uf at h
 split at h
 .rename_i id hx
  split at h
  .rename_i s pos G
   have T:=(M.val x).2;rw[hx] at T;simp only[Sm] at T;obtain⟨b0,F,E⟩:=T;obtain⟨_,_,b,fn,D,vs,V,Y,Z,hs⟩:=M.dm G;simp only[RK.ptr] at V;rw[V] at F;obtain rfl:b=b0:=by simpa using F
   simp only[RK.at] at Z;have L:vs=[]:=by simpa[zi] using hs
   unfold Bo at h;by_cases A:pos<s.size
   .rw[gt A] at h
    simp only at h
    have J:=(oD.1 Z).1;refine br.x9 (β':=β) (v:=.tuple #[.bool true,.int .i64 (pos:Int),.int .i32 ((Utf8.decode s pos).1:Int)]) (w':=w.putObj b (.stringIter s (pos+(Utf8.decode s pos).2))) ?_ h ?_
    .simp[execOp,O,E,Instr.next,S8 Z,zbs _ Z,A,goInt]
    .refine(M.db (w':=w.putObj b (.stringIter s (pos+(Utf8.decode s pos).2))) G (b:=b) (by rw[V];rfl) Y (λc B=>World.putObj_heap_other B) (by simp) rfl rfl rfl (λ_=>nJ _) (by simp[am.lo,ah.a_]) ?_).yH Q (by simp[ah.lo]) (by simp[Sm,R,zI])
     exact⟨b,fn,D,[],V,Y,by simp only[RK.at];exact World.putObj_heap_same J,by simp[zi]⟩
   .rw[ge A] at h
    simp only at h
    have H:({st with own:=zT id (.cN (.it s pos) []) st.own}:St)=st:=by
     have:zT id (am.cN (.it s pos) []) st.own=st.own:=S7 (by simpa[St.ay] using G)
     rw[this]
    rw[H] at h;refine br.x9 (v:=.tuple #[.bool false]) (w':=w) ?_ h (M.yH Q (by simp[ah.lo]) (by simp[Sm,R,zI]))
    simp[execOp,O,E,Instr.next,S8 Z,A]
  .exact h.elim
 .exact h.elim
end
end Go.V
namespace Go.V
variable [Dr] [Ov]
open Go.RowKit
mutual
def cg(ρ:Nat->Nat):ah->ah
 |.bp i o=>.bp (ρ i) o
 |.ar i=>.ar (ρ i)
 |.ap i s j o=>.ap (ρ i) s j o
 |.a_s i s j o=>.a_s (ρ i) s j o
 |.av i s j o=>.av (ρ i) s j o
 |.yd i=>.yd (ρ i)
 |.mp i=>.mp (ρ i)
 |.bE l=>.bE (yf ρ l)
 |.agg l=>.agg (yf ρ l)
 |.fn f l=>.fn f (yf ρ l)
 |.d x=>.d x
 |.aW=>.aW
 |.junk=>.junk
def yf(ρ:Nat->Nat):List ah->List ah
 | []=>[]
 |s::r=>cg ρ s::yf ρ r
end
def vE(ρ:Nat->Nat):am->am
 |.box T cells=>.box T (yf ρ cells)
 |.aQ T sz rows=>.aQ T sz rows
 |.map T rows=>.map T rows
 |.cN k cells=>.cN k (yf ρ cells)
section
variable {ρ:Nat->Nat} {β β':Nat->Value} {w w':World} {E E':Nat->Prop} {m m':Nat}
mutual
theorem S9(hβ:∀ i,i<m->β' (ρ i)=β i):∀ {s:ah} {v:Value},ah.lo m s->Sm w E β s v->Sm w E β' (cg ρ s) v
 |.bp i o,v,H,h=>by simp only[cg,Sm,ah.lo] at H h ⊢;rw[hβ i H];exact h
 |.ar i,v,H,h=>by simp only[cg,Sm,ah.lo] at H h ⊢;rw[hβ i H];exact h
 |.ap i s j o,v,H,h=>by simp only[cg,Sm,ah.lo] at H h ⊢;rw[hβ i H];exact h
 |.a_s i s j o,v,H,h=>by simp only[cg,Sm,ah.lo] at H h ⊢;rw[hβ i H];exact h
 |.av i s j o,v,H,h=>by simp only[cg,Sm,ah.lo] at H h ⊢;rw[hβ i H];exact h
 |.yd i,v,H,h=>by simp only[cg,Sm,ah.lo] at H h ⊢;rw[hβ i H];exact h
 |.mp i,v,H,h=>by simp only[cg,Sm,ah.lo] at H h ⊢;rw[hβ i H];exact h
 |.bE l,v,H,h=>by
  simp only[cg,Sm,ah.lo] at H h ⊢;obtain⟨vs,G,F⟩:=h;exact⟨vs,G,QU hβ H F⟩
 |.agg l,v,H,h=>by
  simp only[cg,Sm,ah.lo] at H h ⊢;obtain⟨vs,G,F,K⟩:=h;exact⟨vs,G,QU hβ H F,K⟩
 |.fn f l,v,H,h=>by
  simp only[cg,Sm,ah.lo] at H h ⊢;obtain⟨vs,G,F⟩:=h;exact⟨vs,G,QU hβ H F⟩
 |.d x,v,H,h=>by simpa[cg,Sm] using h
 |.aW,v,H,h=>by simpa[cg,Sm] using h
 |.junk,v,H,h=>by simp[cg,Sm]
theorem QU(hβ:∀ i,i<m->β' (ρ i)=β i):∀ {l:List ah} {vs:List Value},ah.a_ m l->zi w E β l vs->zi w E β' (yf ρ l) vs
 | [],vs,H,h=>by simpa[yf,zi] using h
 |s::r,vs,H,h=>by
  simp only[yf,zi,ah.a_] at H h ⊢;obtain⟨v,vs',rfl,G,F⟩:=h;exact⟨v,vs',rfl,S9 hβ H.1 G,QU hβ H.2 F⟩
end
mutual
theorem ztv(hβ:∀ i,i<m->β' (ρ i)=β i):∀ {s:ah} {v:Value},ah.lo m s->Sm w E β' (cg ρ s) v->Sm w E β s v
 |.bp i o,v,H,h=>by simp only[cg,Sm,ah.lo] at H h ⊢;rw[<-hβ i H];exact h
 |.ar i,v,H,h=>by simp only[cg,Sm,ah.lo] at H h ⊢;rw[<-hβ i H];exact h
 |.ap i s j o,v,H,h=>by simp only[cg,Sm,ah.lo] at H h ⊢;rw[<-hβ i H];exact h
 |.a_s i s j o,v,H,h=>by simp only[cg,Sm,ah.lo] at H h ⊢;rw[<-hβ i H];exact h
 |.av i s j o,v,H,h=>by simp only[cg,Sm,ah.lo] at H h ⊢;rw[<-hβ i H];exact h
 |.yd i,v,H,h=>by simp only[cg,Sm,ah.lo] at H h ⊢;rw[<-hβ i H];exact h
 |.mp i,v,H,h=>by simp only[cg,Sm,ah.lo] at H h ⊢;rw[<-hβ i H];exact h
 |.bE l,v,H,h=>by
  simp only[cg,Sm,ah.lo] at H h ⊢;obtain⟨vs,G,F⟩:=h;exact⟨vs,G,Z5 hβ H F⟩
 |.agg l,v,H,h=>by
  simp only[cg,Sm,ah.lo] at H h ⊢;obtain⟨vs,G,F,K⟩:=h;exact⟨vs,G,Z5 hβ H F,K⟩
 |.fn f l,v,H,h=>by
  simp only[cg,Sm,ah.lo] at H h ⊢;obtain⟨vs,G,F⟩:=h;exact⟨vs,G,Z5 hβ H F⟩
 |.d x,v,H,h=>by simpa[cg,Sm] using h
 |.aW,v,H,h=>by simpa[cg,Sm] using h
 |.junk,v,H,h=>by simp[Sm]
theorem Z5(hβ:∀ i,i<m->β' (ρ i)=β i):∀ {l:List ah} {vs:List Value},ah.a_ m l->zi w E β' (yf ρ l) vs->zi w E β l vs
 | [],vs,H,h=>by simpa[yf,zi] using h
 |s::r,vs,H,h=>by
  simp only[yf,zi,ah.a_] at H h ⊢;obtain⟨v,vs',rfl,G,F⟩:=h;exact⟨v,vs',rfl,ztv hβ H.1 G,Z5 hβ H.2 F⟩
end
mutual
theorem Si(hρ:∀ i,i<m->ρ i<m'):∀ {s:ah},ah.lo m s->ah.lo m' (cg ρ s)
 |.bp i o,H=>by simp only[cg,ah.lo] at H ⊢;exact hρ i H
 |.ar i,H=>by simp only[cg,ah.lo] at H ⊢;exact hρ i H
 |.ap i s j o,H=>by simp only[cg,ah.lo] at H ⊢;exact hρ i H
 |.a_s i s j o,H=>by simp only[cg,ah.lo] at H ⊢;exact hρ i H
 |.av i s j o,H=>by simp only[cg,ah.lo] at H ⊢;exact hρ i H
 |.yd i,H=>by simp only[cg,ah.lo] at H ⊢;exact hρ i H
 |.mp i,H=>by simp only[cg,ah.lo] at H ⊢;exact hρ i H
 |.bE l,H=>by simp only[cg,ah.lo] at H ⊢;exact QV hρ H
 |.agg l,H=>by simp only[cg,ah.lo] at H ⊢;exact QV hρ H
 |.fn f l,H=>by simp only[cg,ah.lo] at H ⊢;exact QV hρ H
 |.d x,H=>by simp[cg,ah.lo]
 |.aW,H=>by simp[cg,ah.lo]
 |.junk,H=>by simp[cg,ah.lo]
theorem QV(hρ:∀ i,i<m->ρ i<m'):∀ {l:List ah},ah.a_ m l->ah.a_ m' (yf ρ l)
 | [],H=>by simp[yf,ah.a_]
 |s::r,H=>by simp only[yf,ah.a_] at H ⊢;exact⟨Si hρ H.1,QV hρ H.2⟩
end
theorem zl6(hρ:∀ i,i<m->ρ i<m'){o:am}(h:o.lo m):(vE ρ o).lo m':=by
 cases o with
 |box T cells=>exact QV hρ h
 |aQ=>trivial
 |map=>trivial
 |cN k cells=>exact QV hρ h
theorem zl7{N N':Nat->Prop}(hβ:∀ i,i<m->β' (ρ i)=β i)(H:∀ b,N b->N' b){i:Nat}(hi:i<m){o:am}(G:o.lo m)(h:yV w N E β i o):yV w N' E β' (ρ i) (vE ρ o):=by
 cases o with
 |box T cells=>
  obtain⟨b,vs,F,K,J,L,M⟩:=h;exact⟨b,vs,by rw[hβ i hi];exact F,H b K,J,QU hβ G L,M⟩
 |aQ T sz rows=>
  obtain⟨xs,F,K,J⟩:=h;exact⟨xs,by rw[hβ i hi];exact⟨F.1,λb O=>⟨H b (F.2 b O).1,(F.2 b O).2⟩⟩,K,J⟩
 |map T rows=>
  obtain⟨r,es,clock,F,K,J,L⟩:=h;exact⟨r,es,clock,by rw[hβ i hi];exact F,H r K,J,L⟩
 |cN k cells=>
  obtain⟨b,fn,D,vs,F,K,J,L⟩:=h;exact⟨b,fn,D,vs,by rw[hβ i hi];exact F,H b K,J,QU hβ G L⟩
theorem zl8{N N':Nat->Prop}(hβ:∀ i,i<m->β' (ρ i)=β i){i:Nat}(hi:i<m)(H:∀ b,bP (β i)=some b->N' b){o:am}(G:o.lo m)(h:yV w N E β' (ρ i) (vE ρ o)):yV w N' E β i o:=by
 cases o with
 |box T cells=>
  obtain⟨b,vs,F,K,J,L,M⟩:=h;rw[hβ i hi] at F;exact⟨b,vs,F,H b (by rw[F];rfl),J,Z5 hβ G L,M⟩
 |aQ T sz rows=>
  obtain⟨xs,F,K,J⟩:=h;rw[hβ i hi] at F;exact⟨xs,⟨F.1,λb O=>⟨H b O,(F.2 b O).2⟩⟩,K,J⟩
 |map T rows=>
  obtain⟨r,es,clock,F,K,J,L⟩:=h;rw[hβ i hi] at F;exact⟨r,es,clock,F,H r (by rw[F];rfl),J,L⟩
 |cN k cells=>
  obtain⟨b,fn,D,vs,F,K,J,L⟩:=h;rw[hβ i hi] at F;exact⟨b,fn,D,vs,F,H b (by rw[F];exact k.Ym b),J,Z5 hβ G L⟩
end
mutual
def zQ(M:List Nat):ah->ah
 |.ar i=>if i∈M then .junk else .ar i
 |.ap i s j o=>if i∈M then .junk else .ap i s j o
 |.a_s i s j o=>if i∈M then .junk else .a_s i s j o
 |.av i s j o=>if i∈M then .junk else .av i s j o
 |.yd i=>if i∈M then .junk else .yd i
 |.bp i o=>if i∈M then .junk else .bp i o
 |.mp i=>if i∈M then .junk else .mp i
 |.agg l=>.agg (qX M l)
 |.bE l=>.bE (qX M l)
 |.fn f l=>.fn f (qX M l)
 |.d x=>.d x
 |.aW=>.aW
 |.junk=>.junk
def qX(M:List Nat):List ah->List ah
 | []=>[]
 |s::r=>zQ M s::qX M r
end
def wE(M:List Nat):am->am
 |.box T cells=>.box T (qX M cells)
 |.aQ T sz rs=>.aQ T sz rs
 |.map T rs=>.map T rs
 |.cN k cells=>.cN k (qX M cells)
def kR(M:List Nat):List (Nat×ah)->List (Nat×ah)
 | []=>[]
 |(t,s)::r=>(t,zQ M s)::kR M r
section
variable {M:List Nat} {β β':Nat->Value} {w w':World} {E E':Nat->Prop} {m:Nat}
mutual
theorem Sj:∀ {s:ah},ah.lo m s->ah.lo m (zQ M s)
 |.ar i,h=>by simp only[zQ];split <;> simp_all[ah.lo]
 |.ap i s j o,h=>by simp only[zQ];split <;> simp_all[ah.lo]
 |.a_s i s j o,h=>by simp only[zQ];split <;> simp_all[ah.lo]
 |.av i s j o,h=>by simp only[zQ];split <;> simp_all[ah.lo]
 |.yd i,h=>by simp only[zQ];split <;> simp_all[ah.lo]
 |.bp i o,h=>by simp only[zQ];split <;> simp_all[ah.lo]
 |.mp i,h=>by simp only[zQ];split <;> simp_all[ah.lo]
 |.agg l,h=>by simp only[zQ,ah.lo] at h ⊢;exact QW h
 |.bE l,h=>by simp only[zQ,ah.lo] at h ⊢;exact QW h
 |.fn f l,h=>by simp only[zQ,ah.lo] at h ⊢;exact QW h
 |.d x,h=>by simpa[zQ] using h
 |.aW,h=>by simpa[zQ] using h
 |.junk,h=>by simpa[zQ] using h
theorem QW:∀ {l:List ah},ah.a_ m l->ah.a_ m (qX M l)
 | [],h=>by simpa[qX] using h
 |s::r,h=>by simp only[qX,ah.a_] at h ⊢;exact⟨Sj h.1,QW h.2⟩
end
mutual
theorem Sl(hβ:∀ i,i<m->i∉M->β' i=β i)(H:bh w E w' E'):∀ {s:ah} {v:Value},ah.lo m s->Sm w E β s v->Sm w' E' β' (zQ M s) v
 |.ar i,v,G,h=>by
  simp only[zQ];split
  .simp[Sm]
  .rename_i hi;simp only[Sm,ah.lo] at G h ⊢;rw[hβ i G hi];exact h
 |.ap i s j o,v,G,h=>by
  simp only[zQ];split
  .simp[Sm]
  .rename_i hi;simp only[Sm,ah.lo] at G h ⊢;rw[hβ i G hi];exact h
 |.a_s i s j o,v,G,h=>by
  simp only[zQ];split
  .simp[Sm]
  .rename_i hi;simp only[Sm,ah.lo] at G h ⊢;rw[hβ i G hi];exact h
 |.av i s j o,v,G,h=>by
  simp only[zQ];split
  .simp[Sm]
  .rename_i hi;simp only[Sm,ah.lo] at G h ⊢;rw[hβ i G hi];exact h
 |.yd i,v,G,h=>by
  simp only[zQ];split
  .simp[Sm]
  .rename_i hi;simp only[Sm,ah.lo] at G h ⊢;rw[hβ i G hi];exact h
 |.bp i o,v,G,h=>by
  simp only[zQ];split
  .simp[Sm]
  .rename_i hi;simp only[Sm,ah.lo] at G h ⊢;rw[hβ i G hi];exact h
 |.mp i,v,G,h=>by
  simp only[zQ];split
  .simp[Sm]
  .rename_i hi;simp only[Sm,ah.lo] at G h ⊢;rw[hβ i G hi];exact h
 |.agg l,v,G,h=>by
  simp only[zQ,Sm,ah.lo] at G h ⊢;obtain⟨vs,rfl,F,K⟩:=h;exact⟨vs,rfl,QX hβ H G F,K⟩
 |.bE l,v,G,h=>by
  simp only[zQ,Sm,ah.lo] at G h ⊢;obtain⟨vs,rfl,F⟩:=h;exact⟨vs,rfl,QX hβ H G F⟩
 |.fn f l,v,G,h=>by
  simp only[zQ,Sm,ah.lo] at G h ⊢;obtain⟨vs,rfl,F⟩:=h;exact⟨vs,rfl,QX hβ H G F⟩
 |.d x,v,G,h=>by simp only[zQ,Sm] at h ⊢;exact R.over H _ _ h
 |.aW,v,G,h=>by simpa[zQ,Sm] using h
 |.junk,v,G,h=>by simp[zQ,Sm]
theorem QX(hβ:∀ i,i<m->i∉M->β' i=β i)(H:bh w E w' E'):∀ {l:List ah} {vs:List Value},ah.a_ m l->zi w E β l vs->zi w' E' β' (qX M l) vs
 | [],vs,G,h=>by simpa[qX,zi] using h
 |s::r,vs,G,h=>by
  simp only[qX,zi,ah.a_] at G h ⊢;obtain⟨v,vs',rfl,F,K⟩:=h;exact⟨v,vs',rfl,Sl hβ H G.1 F,QX hβ H G.2 K⟩
end
theorem Sr:∀ {l:List (Nat×ah)} {t:Nat} {s:ah},zc (kR M l) t=some s->∃ s',zc l t=some s'/\s=zQ M s'
 | [],t,s,h=>by simp[kR,zc] at h
 |(k,u)::r,t,s,h=>by
  simp only[kR,zc] at h ⊢;split at h
  .rename_i e;simp at h;exact⟨u,by simp[e],h.symm⟩
  .rename_i e;simp only[e,oU];exact Sr h
theorem zc4{o:am}(h:o.lo m):(wE M o).lo m:=by
 cases o with
 |box T cells=>exact QW h
 |aQ=>trivial
 |map=>trivial
 |cN k cells=>exact QW h
theorem zc5{N:Nat->Prop}(hβ:∀ i,i<m->i∉M->β' i=β i)(H:bh w E w' E'){id:Nat}(cq:β' id=β id){o:am}(G:o.lo m)
  (F:∀ b,bP (β id)=some b->w'.heap[b]?=w.heap[b]?) (h:yV w N E β id o):yV w' N E' β' id (wE M o):=by
 cases o with
 |box T cells=>
  obtain⟨b,vs,K,J,L,O,Q⟩:=h;exact⟨b,vs,by rw[cq];exact K,J,by rw[F b (by rw[K];rfl)];exact L,QX hβ H G O,Q⟩
 |aQ T sz rows=>
  obtain⟨xs,K,J,L⟩:=h;exact⟨xs,by rw[cq];exact ja.same K F,zl.over H _ _ J,L⟩
 |map T rows=>
  obtain⟨r,es,clock,K,J,L,O⟩:=h;exact⟨r,es,clock,by rw[cq];exact K,J,by rw[F r (by rw[K];rfl)];exact L,yN.over H _ _ O⟩
 |cN k cells=>
  obtain⟨b,fn,D,vs,K,J,L,O⟩:=h;exact⟨b,fn,D,vs,by rw[cq];exact K,J,by rw[F b (by rw[K];exact k.Ym b)];exact L,QX hβ H G O⟩
end
end Go.V
namespace Go.V
variable [Dr] [Ov]
open Go.RowKit
def vv:Act:={tmps:=#[],defers:=[]}
def yW(own:List (Nat×am))(n nx:Nat)(mv:List Nat):St:={n:=0,next:=nx,af:=[],own:=own,ai:=n,aA:=mv}
def aU(P:Program)(f:Nat)(args:List ah)(own:List (Nat×am))(n:Nat)(s:ah)(nx:Nat)(own':List (Nat×am))(mv:List Nat):Prop:=
 aN P f=true/\∀ (X:Nat->Prop) (w0:bz) (β:Nat->Value) (w:World) (vs:List Value),w0.β0=β->ax X w0 (yW own n n []) β vv w->zi w (Ex X β own) β args vs ->
  Calls P f vs.toArray w λe w'=>∃ β' v,e = .returned v/\ax X w0 (yW own' n nx mv) β' vv w'/\ah.lo nx s/\Sm w' (Ex X β' own') β' s v
def ce(aD:List Nat)(i:Nat):Nat:=aD.getD i 0
def yE(aD:List Nat)(nx i:Nat):Nat:=if i<aD.length then aD.getD i 0 else nx+(i-aD.length)
def kS(ρ:Nat->Nat):List (Nat×am)->List (Nat×am)
 | []=>[]
 |(i,o)::r=>(ρ i,vE ρ o)::kS ρ r
def jB(aD M:List Nat):List (Nat×am)->List (Nat×am)
 | []=>[]
 |(i,o)::r=>if i∈aD then jB aD M r else (i,wE M o)::jB aD M r
def jC(st:St)(aD:List Nat):List (Nat×am)->Prop
 | []=>True
 |(i,o)::r=>(match st.ay (ce aD i) with |some o'=>o'=vE (ce aD) o |none=>False)/\o.lo aD.length/\jC st aD r
def cV(st:St)(aD:List Nat)(own:List (Nat×am)):Prop:=aD.Nodup/\(∀ id∈aD,id<st.next)/\own.map (·.1)=List.range aD.length/\jC st aD own
def St.after(st:St)(aD:List Nat)(nx:Nat)(own':List (Nat×am))(mv:List Nat):St:=
 {st with next:=st.next+(nx-aD.length),af:=kR (mv.map (yE aD st.next)) st.af,own:=kS (yE aD st.next) own'++jB aD (mv.map (yE aD st.next)) st.own,aA:=mv.map (yE aD st.next)++st.aA}
theorem Xq{ρ:Nat->Nat}:∀ {l:List (Nat×am)} {i:Nat} {o:am},(i,o)∈kS ρ l->∃ j o',(j,o')∈l/\i=ρ j/\o=vE ρ o'
 | [],i,o,h=>by cases h
 |(j,o')::r,i,o,h=>by
  simp only[kS] at h;rcases nE.1 h with e | h
  .cases e;exact⟨j,o',by simp,rfl,rfl⟩
  .obtain⟨k,x,H,G⟩:=Xq h;exact⟨k,x,nG _ H,G⟩
theorem Bq{ρ:Nat->Nat}:∀ (l:List (Nat×am)),(kS ρ l).map (·.1)=(l.map (·.1)).map ρ
 | []=>rfl
 |(j,o')::r=>by simp only[kS,nK,Bq r]
theorem Ss{ρ:Nat->Nat}:∀ {l:List (Nat×am)} {i:Nat} {o:am},(i,o)∈l->(ρ i,vE ρ o)∈kS ρ l
 |(j,o')::r,i,o,h=>by
  simp only[kS];rcases nE.1 h with e | h
  .cases e;simp
  .exact nG _ (Ss h)
theorem Z6{aD M:List Nat}:∀ {l:List (Nat×am)} {i:Nat} {o:am},(i,o)∈jB aD M l->i∉aD/\∃ o',(i,o')∈l/\o=wE M o'
 | [],i,o,h=>by cases h
 |(j,o')::r,i,o,h=>by
  simp only[jB] at h;split at h
  .obtain⟨H,x,G,F⟩:=Z6 h;exact⟨H,x,nG _ G,F⟩
  .rename_i hj
   rcases nE.1 h with e | h
   .cases e;exact⟨hj,o',by simp,rfl⟩
   .obtain⟨H,x,G,F⟩:=Z6 h;exact⟨H,x,nG _ G,F⟩
theorem Br{aD M:List Nat}:∀ {l:List (Nat×am)} {i:Nat} {o:am},i∉aD->(i,o)∈l->(i,wE M o)∈jB aD M l
 |(j,o')::r,i,o,hi,h=>by
  simp only[jB];rcases nE.1 h with e | h
  .cases e;rw[ge hi];simp
  .split
   .exact Br hi h
   .exact nG _ (Br hi h)
theorem Bt{aD M:List Nat}:∀ {l:List (Nat×am)},(l.map (·.1)).Nodup->((jB aD M l).map (·.1)).Nodup
 | [],_=>by simp[jB]
 |(j,o')::r,hn=>by
  simp only[nK,oE] at hn;simp only[jB];split
  .exact Bt hn.2
  .simp only[nK,oE]
   refine⟨λh=>hn.1 ?_,Bt hn.2⟩
   obtain⟨⟨i,o⟩,H,e⟩:=nS.1 h;obtain⟨_,x,G,_⟩:=Z6 H;exact nS.2 ⟨(i,x),G,e⟩
section
variable {P:Program} {X:Nat->Prop} {w0:bz} {st:St} {β:Nat->Value} {a:Act} {w w':World} {aD:List Nat} {aR:List (Nat×am)}
theorem QY:∀ {l:List (Nat×am)} {i:Nat} {o:am},jC st aD l->(i,o)∈l->st.ay (ce aD i)=some (vE (ce aD) o)/\o.lo aD.length
 |(j,o')::r,i,o,H,h=>by
  simp only[jC] at H;rcases nE.1 h with e | h
  .cases e
   refine⟨?_,H.2.1⟩
   have:=H.1
   split at this
   .rename_i x hx;rw[hx,this]
   .exact this.elim
  .exact QY H.2.2 h
theorem cV.lt(H:cV st aD aR){i:Nat}{o:am}(h:(i,o)∈aR):i<aD.length:=by
 have:i∈aR.map (·.1):=nS.2 ⟨(i,o),h,rfl⟩
 rw[H.2.2.1] at this
 exact oc.1 this
theorem QZ{i:Nat}(h:i<aD.length):ce aD i∈aD:=by
 unfold ce;rw[ot,ac h];exact nF h
theorem Jy(H:aD.Nodup){i:Nat}(h:i<aD.length):aD.idxOf (ce aD i)=i:=by
 unfold ce;rw[ot,ac h]
 exact H.idxOf_getElem i h
theorem Bv{id:Nat}(h:id∈aD):ce aD (aD.idxOf id)=id/\aD.idxOf id<aD.length:=by
 have H:aD.idxOf id<aD.length:=List.idxOf_lt_length_of_mem h
 refine⟨?_,H⟩
 unfold ce;rw[ot,ac H]
 simp
theorem ax.dS(H:ax X w0 st β a w){id:Nat}{o:am}(h:(id,o)∈st.own){b:Nat}(G:bP (β id)=some b):w0.dS b:=by
 obtain⟨_,_,F⟩:=H.own id o h
 cases o with
 |box T cells=>
  obtain⟨b',vs,E,K,_⟩:=F;rw[E] at G;simp[bP] at G;subst G;exact K
 |aQ T sz rows=>
  obtain⟨xs,E,_⟩:=F;exact(E.2 b G).1
 |map T rows=>
  obtain⟨r,es,clock,E,K,_⟩:=F;rw[E] at G;simp[bP] at G;subst G;exact K
 |cN k cells=>
  obtain⟨b',fn,D,vs,E,K,_⟩:=F;rw[E,RK.Ym] at G;cases G;exact K
def Sv(β:Nat->Value)(aD:List Nat)(b:Nat):Prop:=∃ id,id∈aD/\bP (β id)=some b
def cZ(X:Nat->Prop)(β:Nat->Value)(aD:List Nat)(own:List (Nat×am))(b:Nat):Prop:=X b\/∃ id o,(id,o)∈own/\id∉aD/\bP (β id)=some b
theorem cV.has(H:cV st aD aR){i:Nat}(h:i<aD.length):∃ o,(i,o)∈aR:=by
 have:i∈aR.map (·.1):=by rw[H.2.2.1];exact oc.2 h
 obtain⟨⟨j,o⟩,G,rfl⟩:=nS.1 this
 exact⟨o,G⟩
theorem cV.ex(F:cV st aD aR)(b:Nat):Ex (cZ X β aD st.own) (λi=>β (ce aD i)) aR b↔Ex X β st.own b:=by
 constructor
 .rintro((h | ⟨id,o,E,K,J⟩) | ⟨i,o,E,K⟩)
  .exact .inl h
  .exact .inr ⟨id,o,E,J⟩
  .have:=(QY F.2.2.2 E).1
   exact .inr ⟨_,_,xm this,K⟩
 .rintro(h | ⟨id,o,E,K⟩)
  .exact .inl (.inl h)
  .by_cases cq:id∈aD
   .obtain⟨e,H⟩:=Bv cq
    obtain⟨o',G⟩:=F.has H;exact .inr ⟨_,o',G,by show bP (β (ce aD _))=some b;rw[e];exact K⟩
   .exact .inl (.inr ⟨id,o,E,cq,K⟩)
theorem cV.inv(G:cV st aD aR){id:Nat}(h:id∈aD):∃ o,(id,o)∈st.own:=by
 obtain⟨e,H⟩:=Bv h
 obtain⟨o,F⟩:=G.has H
 have:=(QY G.2.2.2 F).1
 rw[e] at this
 exact⟨_,xm this⟩
def eE(β:Nat->Value)(aD:List Nat)(w:World):bz:=⟨w,Sv β aD,λi=>β (ce aD i),[]⟩
theorem ax.Ug(E:ax X w0 st β a w)(K:cV st aD aR):
  ax (cZ X β aD st.own) (eE β aD w) (yW aR aD.length aD.length []) (λi=>β (ce aD i)) vv w:=by
 have J:Ex (cZ X β aD st.own) (λi=>β (ce aD i)) aR=Ex X β st.own:=funext λb=>propext (K.ex b)
 refine⟨⟨?_,?_⟩,⟨nJ _,λi _ _=>rfl⟩,λi=>E.cB _,rfl,rfl,cR.refl _,?_,?_,?_,?_⟩
 .intro b L G
  have H:b<w.heap.size:=by
   rcases L with h | ⟨id,o,M,_,O⟩
   .exact E.lt b (.inl h)
   .exact E.lt b (.inr ⟨id,o,M,O⟩)
  rcases G with h | ⟨id,M,Q⟩
  .have:w.heap.size<=b:=h;omega
  .obtain⟨o,T⟩:=K.inv M
   rcases L with h | ⟨id',o',O,V,Y⟩
   .exact E.bU.1 b h (E.dS T Q)
   .have:=E.apart id o id' o' b T O Q Y
    subst this;exact V M
 .refine E.lw.over (bh.dy λb L=>?_)
  rcases L with(h | ⟨id,o,M,_,O⟩) | ⟨id,M,Q⟩
  .exact .inl h
  .exact .inr ⟨id,o,M,O⟩
  .obtain⟨o,T⟩:=K.inv M
   exact .inr ⟨_,o,T,Q⟩
 .show(aR.map (·.1)).Nodup
  rw[K.2.2.1];exact sU
 .intro i o F
  have H:=K.lt F;obtain⟨M,Q⟩:=QY K.2.2.2 F;refine⟨H,Q,?_⟩
  show yV w (eE β aD w).dS (Ex (cZ X β aD st.own) (λi=>β (ce aD i)) aR) _ i o
  rw[J];exact zl8 (m:=aD.length) (λ_ _=>rfl) H (λb L=>.inr ⟨_,QZ H,L⟩) Q (E.dm M).2.2
 .intro i o j o' b M Q e1 e2
  have g1:=xm (QY K.2.2.2 M).1;have g2:=xm (QY K.2.2.2 Q).1;have:=E.apart _ _ _ _ b g1 g2 e1 e2
  rw[<-Jy K.1 (K.lt M),<-Jy K.1 (K.lt Q),this]
 .intro t s ht;simp[yW,zc] at ht
def wF(β β1:Nat->Value)(aD:List Nat)(nx:Nat)(id:Nat):Value:=
 if id∈aD then β1 (aD.idxOf id) else if id<nx then β id else β1 (aD.length+(id-nx))
theorem Sz{β1:Nat->Value}(H:cV st aD aR)(i:Nat):wF β β1 aD st.next (yE aD st.next i)=β1 i:=by
 unfold wF yE
 by_cases h:i<aD.length
 .rw[gt h]
  have:=QZ h
  unfold ce at this;rw[gt this];have:=Jy H.1 h
  unfold ce at this;rw[this]
 .rw[ge h]
  have G:st.next+(i-aD.length)∉aD:=λhi=>by have:=H.2.1 _ hi;omega
  rw[ge G,ge (by omega)]
  congr 1;omega
theorem zp0(H:cV st aD aR){i j:Nat}(h:yE aD st.next i=yE aD st.next j):i=j:=by
 unfold yE at h
 by_cases hi:i<aD.length <;> by_cases hj:j<aD.length
 .rw[gt hi,gt hj] at h
  rw[<-Jy H.1 hi,<-Jy H.1 hj];unfold ce;rw[h]
 .rw[gt hi,ge hj] at h
  have:=H.2.1 _ (QZ hi)
  unfold ce at this;omega
 .rw[ge hi,gt hj] at h
  have:=H.2.1 _ (QZ hj)
  unfold ce at this;omega
 .rw[ge hi,ge hj] at h;omega
theorem ax.Uh(I:ax X w0 st β a w)(N:cV st aD aR){nx:Nat}{own':List (Nat×am)}{mv:List Nat}{β1:Nat->Value}
  (P:ax (cZ X β aD st.own) (eE β aD w) (yW own' aD.length nx mv) β1 vv w') :
  ax X w0 (st.after aD nx own' mv) (wF β β1 aD st.next) a w' /\
  (∀ s v,ah.lo nx s->Sm w' (Ex (cZ X β aD st.own) β1 own') β1 s v->ah.lo (st.after aD nx own' mv).next (cg (yE aD st.next) s)/\Sm w' (Ex X (wF β β1 aD st.next) (st.after aD nx own' mv).own) (wF β β1 aD st.next) (cg (yE aD st.next) s) v):=by
 have H:=λi=>Sz (β:=β) (β1:=β1) N i
 have C:aD.length<=nx:=P.bI.1
 -- what has not aA
 have hβ:∀ id,id<st.next->id∉mv.map (yE aD st.next)->wF β β1 aD st.next id=β id:=by
  intro id K Y;unfold wF;by_cases h:id∈aD
  .rw[gt h]
   obtain⟨e,S⟩:=Bv h;have:=P.bI.2 (aD.idxOf id) S (λZ=>Y (nS.2 ⟨_,Z,by unfold yE;rw[gt S];exact e⟩))
   rw[this];show β (ce aD (aD.idxOf id))=β id
   rw[e]
  .rw[ge h,gt K]
 have G:∀ id,id<st.next->id∉aD->wF β β1 aD st.next id=β id:=by
  intro id K h;unfold wF;rw[ge h,gt K]
 have F:∀ b,(∃ i o,(i,o)∈own'/\bP (β1 i)=some b)->(eE β aD w).dS b:=by
  rintro b ⟨i,o,W,h2⟩
  exact P.dS (st:=yW own' aD.length nx mv) W h2
 have A:∀ b,Ex X (wF β β1 aD st.next) (st.after aD nx own' mv).own b↔Ex (cZ X β aD st.own) β1 own' b:=by
  intro b;constructor
  .rintro(h | ⟨id,o,W,h2⟩)
   .exact .inl (.inl h)
   .rcases nM.1 W with W | W
    .obtain⟨i,o',h3,rfl,rfl⟩:=Xq W
     rw[H] at h2;exact .inr ⟨i,o',h3,h2⟩
    .obtain⟨h3,o',h4,rfl⟩:=Z6 W
     rw[G id (I.own id o' h4).1 h3] at h2;exact .inl (.inr ⟨id,o',h4,h3,h2⟩)
  .rintro((h | ⟨id,o,W,h2,h3⟩) | ⟨i,o,W,h2⟩)
   .exact .inl h
   .exact .inr ⟨id,_,nM.2 (.inr (Br h2 W)),by rw[G id (I.own id o W).1 h2];exact h3⟩
   .exact .inr ⟨_,_,nM.2 (.inl (Ss W)),by rw[H];exact h2⟩
 have hE:Ex X (wF β β1 aD st.next) (st.after aD nx own' mv).own=Ex (cZ X β aD st.own) β1 own':=funext λb=>propext (A b)
 have E:∀ b,Sv β aD b->Ex X β st.own b/\w0.dS b:=by
  rintro b ⟨id,W,h2⟩
  obtain⟨o,ho⟩:=N.inv W;exact⟨.inr ⟨id,o,ho,h2⟩,I.dS ho h2⟩
 have Q:bh w (Ex X β st.own) w' (Ex (cZ X β aD st.own) β1 own'):=by
  intro b K he;have T:¬(eE β aD w).dS b:=by
   rintro(h | h)
   .have:w.heap.size<=b:=h;omega
   .exact he (E b h).1
  refine⟨?_,P.below.block b T⟩
  rintro((h | ⟨id,o,W,h2,h3⟩) | h)
  .exact he (.inl h)
  .exact he (.inr ⟨id,o,W,h3⟩)
  .exact T (F b h)
 have L:∀ i,i<nx->yE aD st.next i<st.next+(nx-aD.length):=by
  intro i hi;unfold yE;by_cases h:i<aD.length
  .rw[gt h]
   have:=N.2.1 _ (QZ h)
   unfold ce at this;omega
  .rw[ge h];omega
 have M:∀ id,(wF β β1 aD st.next id).oneCell'=true:=by
  intro id;unfold wF;split
  .exact P.cB _
  .split
   .exact I.cB _
   .exact P.cB _
 have J:st.next<=st.next+(nx-aD.length):=sV _ _
 have restSame:∀ id o,(id,o)∈st.own->id∉aD->∀ b,bP (β id)=some b->w'.heap[b]?=w.heap[b]?:=by
  intro id o W h2 b hb;exact P.below.block b (P.bU.1 b (.inr ⟨id,o,W,h2,hb⟩))
 refine⟨⟨I.bU,⟨oC I.bI.1 J,?_⟩,M,I.defers,I.size,?_,?_,?_,?_,?_⟩,?_⟩
 .intro id W h2
  have V:id∉mv.map (yE aD st.next)/\id∉st.aA:=by
   constructor
   .exact λh=>h2 (nM.2 (.inl h))
   .exact λh=>h2 (nM.2 (.inr h))
  exact(hβ id (pg W I.bI.1) V.1).trans (I.bI.2 id W V.2)
 .refine I.below.k_ P.below.os P.below.tape P.below.output P.below.size (λk hk hn=>P.below.block k ?_) P.below.drawn
  rintro(h | h)
  .have:w.heap.size<=k:=h;omega
  .exact hn (E k h).2
 .show((kS (yE aD st.next) own'++jB aD _ st.own).map (·.1)).Nodup
  rw[oF,rX];refine⟨?_,Bt I.bB,?_⟩
  .rw[Bq]
   have:(own'.map (·.1)).Nodup:=P.bB
   exact List.Pairwise.map _ (λp q B e=>B (zp0 N e)) this
  .intro p hp q hq e
   subst e;rw[Bq] at hp;obtain⟨i,_,rfl⟩:=nS.1 hp;obtain⟨⟨id,o⟩,W,h2⟩:=nS.1 hq;obtain⟨h3,o',h4,_⟩:=Z6 W;have K:=(I.own id o' h4).1;have e:id=yE aD st.next i:=h2
   unfold yE at e;by_cases h:i<aD.length
   .rw[gt h] at e
    have:=QZ h
    unfold ce at this;rw[<-e] at this;exact h3 this
   .rw[ge h] at e;omega
 .intro id o O
  rw[hE];rcases nM.1 O with W | W
  .obtain⟨i,o',h3,rfl,rfl⟩:=Xq W
   obtain⟨q1,q2,q3⟩:=P.own i o' h3;refine⟨L i q1,zl6 L q2,zl7 (m:=nx) (λi _=>H i) ?_ q1 q2 q3⟩
   rintro b (h | h)
   .exact .inl (oC I.below.size h)
   .exact(E b h).2
  .obtain⟨h3,o',h4,rfl⟩:=Z6 W
   obtain⟨q1,q2,q3⟩:=I.own id o' h4;exact⟨pg q1 J,am.jA J (zc4 q2),zc5 hβ Q (G id q1 h3) q2 (restSame id o' h4 h3) q3⟩
 .intro i o j o2 b W h2 e1 e2
  rcases nM.1 W with W | W <;> rcases nM.1 h2 with h2 | h2
  .obtain⟨i',o',h3,rfl,rfl⟩:=Xq W
   obtain⟨j',o'',h4,rfl,rfl⟩:=Xq h2;rw[H] at e1 e2;rw[P.apart i' o' j' o'' b h3 h4 e1 e2]
  .obtain⟨i',o',h3,rfl,rfl⟩:=Xq W
   obtain⟨h5,o'',h4,rfl⟩:=Z6 h2;rw[H] at e1;rw[G j (I.own j o'' h4).1 h5] at e2;exact absurd (F b ⟨i',o',h3,e1⟩) (P.bU.1 b (.inr ⟨j,o'',h4,h5,e2⟩))
  .obtain⟨i',o',h3,rfl,rfl⟩:=Xq h2
   obtain⟨h5,o'',h4,rfl⟩:=Z6 W;rw[H] at e2;rw[G i (I.own i o'' h4).1 h5] at e1;exact absurd (F b ⟨i',o',h3,e2⟩) (P.bU.1 b (.inr ⟨i,o'',h4,h5,e1⟩))
  .obtain⟨h5,o'',h4,rfl⟩:=Z6 W
   obtain⟨h6,o3,h7,rfl⟩:=Z6 h2;rw[G i (I.own i o'' h4).1 h5] at e1;rw[G j (I.own j o3 h7).1 h6] at e2;exact I.apart i o'' j o3 b h4 h7 e1 e2
 .intro t s ht
  rw[hE];obtain⟨s',W,rfl⟩:=Sr ht;obtain⟨q1,q2⟩:=I.af t s' W;exact⟨ah.jA J (Sj q1),Sl hβ Q q1 q2⟩
 .intro s v S hs
  rw[hE];exact⟨Si L S,S9 (m:=nx) (λi _=>H i) S hs⟩
def Bw(P:Program)(st:St)(f:Operand)(xs:List Operand)(dst:Option Tmp)(K:St->Prop):Prop:=
 ∃ (g:Nat) (aJ:List ah) (aD:List Nat) (args0:List ah) (aR:List (Nat×am)) (s:ah) (nx:Nat) (own':List (Nat×am)) (mv:List Nat),
  xF (st.val f)=some (g,aJ)/\yf (ce aD) args0=xs.map st.val++aJ/\ah.a_ aD.length args0/\cV st aD aR /\
  aU P g args0 aR aD.length s nx own' mv/\K ((st.after aD nx own' mv).put dst (cg (yE aD st.next) s))
theorem SA(C:ax X w0 st β a w){o:Oper}{f:Operand}{args:Array Operand}{ts:Array TypeId}(I:o.op = .call {callee:=.value f,args,argTypes:=ts})
  (S:∀ t,o.dst=some t->t<st.n) {K:St->Prop} (h:Bw P st f args.toList o.dst K):br P X w0 o a w K:=by
 obtain⟨g,aJ,aD,args0,aR,s,nx,own',mv,W,H,O,hf,F,hk⟩:=h
 intro N Q hN
 obtain⟨G,hp⟩:=F
 have hv:=(C.val f).2
 obtain⟨cs,T,V⟩:∃ cs:List Value,a.eval f = .func (.func g) #[] cs.toArray/\zi w (Ex X β st.own) β aJ cs:=by
  cases hf:st.val f <;> rw[hf] at W hv <;> simp only[xF] at W
  case d x=>
   cases x <;> simp only[xF] at W
   case fn f' l=>
    simp at W;obtain⟨rfl,rfl⟩:=W
    simp only[Sm,R] at hv;obtain⟨vs,h1,h2⟩:=hv;exact⟨vs,h1,zi.Z3 h2⟩
   all_goals cases W
  case fn f' l=>
   simp at W;obtain⟨rfl,rfl⟩:=W
   simp only[Sm] at hv;exact hv
  all_goals cases W
 have E:=(zi.Z4 C args.toList).1
 have J:=zi.append E V
 rw[<-H] at J
 have hE:Ex (cZ X β aD st.own) (λi=>β (ce aD i)) aR=Ex X β st.own:=funext λb=>propext (hf.ex b)
 have Y:=Z5 (ρ:=ce aD) (β:=λi=>β (ce aD i)) (β':=β) (m:=aD.length) (λ_ _=>rfl) O J
 unfold aN at G
 cases L:P.funcs[g]? with
 |none=>simp[L] at G
 |some fn=>
  simp[L] at G;have M:(execOp a.eval o).run P w = .ok (.enter g (args.toList.map a.eval++cs).toArray) w:=by
   have e1:¬fn.body=none:=by intro e;rw[e] at G;simp at G
   have e3:Array.map a.eval args++cs.toArray=(List.map a.eval args.toList++cs).toArray:=by simp
   rw[<-e3];simp[execOp,I,resolve,T,Deferred.ofValue,invoke,callFunc,L,e1,G.1]
  unfold Oper.wp;rw[M];simp only[Oper.upon];refine(hp (cZ X β aD st.own) (eE β aD w) (λi=>β (ce aD i)) w _ rfl (C.Ug hf) (by rw[hE];exact Y)).mono λe w' he=>?_
  obtain⟨β1,v,rfl,Z,A,B⟩:=he;obtain⟨h1,h2⟩:=C.Uh hf Z;obtain⟨q1,q2⟩:=h2 s v A B;exact hN _ _ _ _ hk (h1.yH S q1 q2)
end
end Go.V
namespace Go.V
variable [Dr] [Ov]
open Go.RowKit
def Ui(id sz n:Nat):ah->ah
 |.ar i=>if i=id then .av id sz 0 n else .ar i
 |s=>zA id s
def V0(id sz n:Nat):List (Nat×ah)->List (Nat×ah)
 | []=>[]
 |(t,s)::r=>(t,Ui id sz n s)::V0 id sz n r
def St.iW(st:St)(id sz n:Nat)(o:am):St:={st with aA:=id::st.aA,af:=V0 id sz n st.af,own:=qf id o st.own}
def Uj(P:Program)(st:St)(dst:Option Tmp)(t:Nat)(x:ah)(K:St->Prop):Prop:=
 match TI.of P t,x with
 |some ⟨.slice e,_,_,_,_⟩,.ar id=>match st.ay id with
  |some (.aQ T sz rows)=>0<rows.length/\∀ junk:List (List D),(∀ r∈junk,r.length=sz)->rows.length+junk.length<=maxLen ->
    K ((st.iW id sz rows.length (.aQ T sz (rows++junk))).put dst (.d (.int .i64 ((rows.length+junk.length:Nat):Int))))
  |_=>False
 |_,_=>False
def dI{α:Type}(sz:Nat):Nat->List α->List (List α)
 |0,_=>[]
 |k+1,l=>l.take sz::dI sz k (l.drop sz)
theorem SB{α:Type}{sz:Nat}:∀ {k:Nat} {l:List α},(dI sz k l).length=k
 |0,_=>rfl
 |k+1,l=>by simp[dI,SB]
theorem SC{α:Type}{sz:Nat}:∀ {k:Nat} {l:List α},l.length=k*sz->(dI sz k l).flatten=l
 |0,l,h=>by simp at h;subst h;rfl
 |k+1,l,h=>by
  simp only[dI,oZ];rw[SC (k:=k) (by rw[oO,h,oR];omega),oT]
theorem SD{α:Type}{sz:Nat}:∀ {k:Nat} {l:List α},l.length=k*sz->∀ r∈dI sz k l,r.length=sz
 |0,_,_,r,H=>by simp[dI] at H
 |k+1,l,h,r,H=>by
  simp only[dI] at H;have G:l.length=k*sz+sz:=by rw[h,oR];omega
  rcases nE.1 H with e | H
  .subst e;simp;omega
  .exact SD (k:=k) (by rw[oO];omega) r H
theorem SE{w:World}{E:Nat->Prop}:∀ {l:List Value},(∀ v∈l,v.oneCell'=true)->zl w E (l.map D.val) l
 | [],_=>by simp[zl]
 |v::r,h=>by
  simp only[nK,zl];exact⟨v,r,rfl,h v (by simp),by simp[R],SE λu hu=>h u (by simp[hu])⟩
section
variable {P:Program} {X:Nat->Prop} {w0:bz} {st:St} {β:Nat->Value} {a:Act} {w w':World} {E:Nat->Prop} {m:Nat} {k:ah->Prop}
theorem SG(G:ax X w0 st β a w)(H:Below w.heap.size w w'){n c:Nat}:bh w (Ex X β st.own) w' (λb=>Ex X β st.own b\/bP (.slice (some ⟨w.heap.size,0,none⟩) n c)=some b):=by
 intro b F E
 refine⟨λh=>h.elim E (λh=>by simp[bP] at h;omega),H.block b F⟩
theorem Bz(Y:ax X w0 st β a w){id T sz:Nat}{rows:List (List D)}(F:st.ay id=some (.aQ T sz rows))(O:0<rows.length):∃ (b cap:Nat) (cur:Array Value) (xs:List Value),
  β id = .slice (some ⟨b,0,none⟩) rows.length cap/\w.heap[b]?=some (.cells cur T (0,0))/\rows.length<=cap/\cap<=maxLen/\cur.size=cap*sz/\(∀ u∈cur.toList,u.oneCell'=true) /\
  xs=cur.toList.take (rows.length*sz)/\zl w (Ex X β st.own) rows.flatten xs/\(∀ r∈rows,r.length=sz)/\w0.dS b/\w.ownsRow 0 T sz (β id) rows.length xs:=by
 obtain⟨cq,Q,xs,Z,E,K⟩:=Y.dm F
 have J:=Z.1
 rcases Z.1.2 with⟨A,B⟩ | ⟨g,cap,cur,C,V,I,H,L,M,G⟩
 .omega
 .have N:=Z.2 g (by rw[C];rfl)
  exact⟨g,cap,cur,xs,C,I,H,L,M,N.2 _ _ _ I,G.symm,E,K,N.1,J⟩
theorem SH{id sz n:Nat}:∀ {l:List (Nat×ah)} {t:Nat} {s:ah},zc (V0 id sz n l) t=some s->∃ s',zc l t=some s'/\s=Ui id sz n s'
 | [],t,s,h=>by simp[V0,zc] at h
 |(k,u)::r,t,s,h=>by
  simp only[V0,zc] at h ⊢;split at h
  .rename_i e;simp at h;exact⟨u,by simp[e],h.symm⟩
  .rename_i e;simp only[e,oU];exact SH h
theorem SI{id:Nat}:∀ {l:List (Nat×ah)} {t:Nat} {s:ah},zc l t=some s->zc (xu id l) t=some (zA id s)
 | [],t,s,h=>by simp[zc] at h
 |(k,u)::r,t,s,h=>by
  simp only[xu,zc] at h ⊢;split at h
  .rename_i e;simp at h;subst h;simp[e]
  .rename_i e;simp only[e,oU];exact SI h
theorem zh8(hm:ax X w0 st β a w){o:Oper}{t:Nat}{x:Operand}(ho:o.op = .call {callee:=.builtin .cap,args:=#[x],argTypes:=#[t]})(hd:∀ t,o.dst=some t->t<st.n){K:St->Prop}
  (h:Uj P st o.dst t (st.val x) K):br P X w0 o a w K:=by
 unfold Uj at h
 split at h
 .rename_i e _ _ _ _ id ht hxs
  obtain⟨i,u,z,hi,hu,hz,H0,_⟩:=y8 ht;have:=qK H0.symm;subst this
  split at h
  .rename_i T sz rows C
   obtain⟨V,h⟩:=h;have Y:=(hm.val x).2;rw[hxs] at Y;simp only[Sm] at Y;obtain⟨b,cap,cur,xs,hβ,hh,O,I,N,J,Z,H1,H2,A,Hd⟩:=Bz hm C V;have L:cur.toList.length=cap*sz:=by simpa using N
   obtain⟨aC,H⟩:∃ aC,aC=cur.toList.drop (rows.length*sz):=⟨_,rfl⟩;have Hi:rows.length*sz<=cap*sz:=oY _ O
   have S:(aC.map D.val).length=(cap-rows.length)*sz:=by rw[H,om,oO,L,Nat.sub_mul]
   have W:=SD (sz:=sz) (k:=cap-rows.length) S;have Hb:=SC (sz:=sz) (k:=cap-rows.length) S;have M:=SB (sz:=sz) (k:=cap-rows.length) (l:=aC.map D.val);have hK:=h (dI sz (cap-rows.length) (aC.map D.val)) W (by rw[M];omega)
   rw[M] at hK;have F:rows.length+(cap-rows.length)=cap:=by omega
   rw[F] at hK;have Hp:bh w (Ex X β st.own) w (Ex X β st.own):=bh.refl _ _
   have G:=hm.aV (w':=w) (o':=.aQ T sz (rows++dI sz (cap-rows.length) (aC.map D.val))) C (v:=.slice (some ⟨b,0,none⟩) cap cap) rfl hm.below (λ_ _ _=>rfl)
    (λb' Q=>.inl (by rw[hβ];simpa[bP] using Q)) trivial (λE B hbE=>by
     refine⟨cur.toList,?_,?_,?_⟩
     .simp only[oV]
      refine⟨⟨by simp only[nO,M];rw[F];exact L,.inr ⟨b,cap,cur,by simp only[nO,M];rw[F],nU _,hh,by simp only[nO,M];omega,I,N,by
       rw[oa];simp only[nO,M];rw[F];omega⟩⟩,λb' Q=>?_⟩
      simp[bP] at Q;subst Q;exact⟨A,xY.of hh J⟩
     .rw[q_,Hb]
      have h1:=zl.append (zl.over B _ _ H1) (SE (w:=w) (E:=E) (l:=aC) (λv hv=>J v (by rw[H] at hv;exact oH hv)))
      rw[Z,H,oT,<-H] at h1;exact h1
     .intro r hr
      exact(nM.1 hr).elim (H2 r) (W r))
   have Hc:ax X w0 (st.iW id sz rows.length (.aQ T sz (rows++dI sz (cap-rows.length) (aC.map D.val)))) (λi=>if i=id then .slice (some ⟨b,0,none⟩) cap cap else β i) a w:=by
    refine⟨G.bU,G.bI,G.cB,G.defers,G.size,G.below,G.bB,G.own,G.apart,?_⟩
    intro t' s hs;obtain⟨s',h1,rfl⟩:=SH hs;have hp:=G.af t' _ (SI h1);have iJ:=hm.af t' s' h1;cases s' <;> try exact hp
    rename_i i';simp only[Ui];split
    .rename_i e;subst e
     simp only[Sm,ah.lo] at iJ ⊢;refine⟨iJ.1,b,cap,by simp,?_,by omega,I⟩
     rw[iJ.2,hβ];simp
    .rename_i e
     simp only[zA,ge e] at hp;exact hp
   refine br.x9 (v:=.int .i64 cap) (w':=w) ?_ hK (Hc.yH hd (by simp[ah.lo]) (by simp[Sm,R]))
   simp[execOp,ho,resolve,invoke,builtin,Y,hβ,Builtin.cap_,goInt,run_underlying hu]
  .exact h.elim
 .exact h.elim
def Uk(P:Program)(st:St)(dst:Option Tmp)(t t':Nat)(s x:ah)(K:St->Prop):Prop:=
 match s,x with
 |.av id sz lo n,.d (.int _ m)=>match TI.of P t,TI.of P t' with
  |some ⟨.slice e,_,_,_,_⟩,some ⟨.int _,_,_,_,_⟩=>match TI.of P e with
   |some te=>match vD (te.zero.map bY),st.ay id with
    |some z,some (.aQ T sz' rows)=>sz=te.size/\sz'=te.size/\0<te.size/\te.zero.length=te.size/\te.zero.all (·.oneCell')=true/\lo+n<=rows.length/\0<m/\(rows.length:Int)<lo+n+m /\
      ((n:Int)+m)*te.bytes<=140737488355328/\(n:Int)+m<=maxLen/\K ((st.new (.aQ e te.size ((rows.drop lo).take n++List.replicate m.toNat z))).put dst (.ar st.next))
    |_,_=>False
   |none=>False
  |_,_=>False
 |_,_=>False
theorem zl9{u:TypeDesc}{k:IntKind}(h:qd P u = .int k):u = .int k:=by
 unfold qd at h
 split at h <;> first | (cases h;rfl) | cases h | (split at h <;> cases h)
theorem zax(hm:ax X w0 st β a w){o:Oper}{t t':Nat}{s x:Operand}(ho:o.op = .call {callee:=.builtin .append,args:=#[s,x],argTypes:=#[t,t']})(hd:∀ t,o.dst=some t->t<st.n){K:St->Prop}
  (h:Uk P st o.dst t t' (st.val s) (st.val x) K):br P X w0 o a w K:=by
 unfold Uk at h
 split at h
 .rename_i id sz lo n kx m hs hx
  split at h
  .rename_i e _ _ _ _ kk _ _ _ _ ht Hs
   obtain⟨i,u,z,hi,hu,hz,Hx,_⟩:=y8 ht;have:=qK Hx.symm;subst this
   obtain⟨i',u',z',Fu,G2,Fx,I,_⟩:=y8 Hs;have:=zl9 I.symm;subst this
   split at h
   .rename_i te Ga
    obtain⟨ie,ue,ze,Gb,Fy,Gc,_,Gd,Gr,_,F0⟩:=y8 Ga;split at h
    .rename_i zd T sz' rows H2 Hb
     obtain⟨rfl,rfl,F1,Hc,Fc,N,El,Hd,L,Eq,h⟩:=h;have Q:=(hm.val s).2;rw[hs] at Q;simp only[Sm] at Q;obtain⟨b,c,hβ,Q,Er,Ev⟩:=Q;have S:=(hm.val x).2;rw[hx] at S;simp only[Sm,R] at S;obtain⟨q,rfl⟩:∃ q:Nat,m=q:=⟨m.toNat,by omega⟩
     have D0:rows.length=c/\(0<rows.length->True):=by
      obtain⟨cq,_,xs,A,_,_⟩:=hm.dm Hb;rcases A.1.2 with⟨hn,h0⟩ | ⟨g,cap,cur,hg,_⟩
      .rw[hn] at hβ;cases hβ
      .rw[hg] at hβ;simp at hβ;exact⟨hβ.2.1,λ_=>trivial⟩
     obtain⟨cq,_,xs,A,Hi,W⟩:=hm.dm Hb;have D4:xs.length=rows.length*te.size:=A.1.1
     have V:∀ j v,((xs.drop (lo*te.size)).take (n*te.size))[j]?=some v->w.cell? ((⟨b,lo*te.size,none⟩:Addr).add j)=some v:=by
      intro j v hj;rw[og] at hj;split at hj
      .rw[oQ] at hj
       have J:=A.1.cells (g:=b) (by rw[hβ];rfl) (lo*te.size+j) v hj
       rw[add_lit] at J ⊢;simpa using J
      .cases hj
     have Fd:(lo+n)*te.size<=rows.length*te.size:=oY _ N
     rw[oR] at Fd;have Y:((xs.drop (lo*te.size)).take (n*te.size)).length=n*te.size:=by simp;omega
     have iJ:(Builtin.firstCells ie.size n (.slice (some ⟨b,lo*te.size,none⟩) n (c-lo))).run P w.drew = .ok ((xs.drop (lo*te.size)).take (n*te.size)).toArray w.drew:=by
      rw[<-Gd];exact run_firstCells_some w.drew te.size n ⟨b,lo*te.size,none⟩ n (c-lo) _ Y (λj v hj=>V j v hj)
     have Fi:(n+q)*ie.bytes<=140737488355328:=by
      rw[<-Gr];have h9:(((n+q)*te.bytes:Nat):Int)<=((140737488355328:Nat):Int):=by rw[Int.natCast_mul,Int.natCast_add];exact L
      exact Int.ofNat_le.1 h9
     have Fk:q*ie.bytes<=281474976710656:=by
      have:q*ie.bytes<=(n+q)*ie.bytes:=oY _ (by omega)
      omega
     have Hp:n+q<=maxLen:=by omega
     have M:=Lib.run_append_grow_zeros (P:=P) w t t' o.type e ie ze kx kk hu G2 Gb Gc (some ⟨b,lo*te.size,none⟩) n (c-lo) _ iJ q (by omega) (by omega) (by omega) (by simp only[maxLen] at Hp;omega) Fk (growslice_fits (by omega) Fi)
     obtain⟨G,hG⟩:∃ G,G=grownCap w (n+q) (c-lo) e:=⟨_,rfl⟩;rw[<-hG] at M;obtain⟨row,Z⟩:∃ row,row=(((xs.drop (lo*te.size)).take (n*te.size)).toArray++Builtin.zeroCells ze.cells q++Builtin.zeroCells ze.cells (G-(n+q))):=⟨_,rfl⟩;rw[<-Z] at M;have H0:=Jw (E:=Ex X β st.own) (w:=w) H2 Fc;have H1:zd.length=te.size:=by rw[Jx H2];simpa using Hc
     have Fl:∀ k,(Builtin.zeroCells ze.cells k).toList=(List.replicate k te.zero).flatten:=by
      intro k;unfold Builtin.zeroCells;rw[Jt,F0]
     have B:∀ k,(List.replicate k te.zero).flatten.length=k*te.size:=by
      intro k;induction k with
      |zero=>simp
      |succ k ih=>rw[sY,oZ,nO,ih,Hc,oR];omega
     have Fm:n+q<=G:=by rw[hG];exact grownCap_ge w _ _ _
     have Fn:G<=maxLen:=by rw[hG];exact grownCap_le_maxLen w _ _ _ Hp
     have H:row.toList=(xs.drop (lo*te.size)).take (n*te.size)++(List.replicate q te.zero).flatten++(List.replicate (G-(n+q)) te.zero).flatten:=by
      rw[Z];simp[Fl]
     have O:row.size=G*te.size:=by
      have:row.size=row.toList.length:=(oM).symm
      rw[this,H];simp only[nO,Y,B];rw[<-oR,<-oR];congr 1;omega
     have F:Below w.heap.size w (w.drew.alloc (.cells row e)):=by
      have h1:Below w.heap.size w w.drew:=⟨⟨rfl,rfl,rfl,nJ _,λ_ _=>rfl⟩,λ_=>rr _⟩
      exact h1.trans (kP w.drew _)
     have Dd:∀ (E:Nat->Prop),bh w E (w.drew.alloc (.cells row e)) E:=λE=>bh.dC F E
     have Fr:ax X w0 (st.new (.aQ e te.size ((rows.drop lo).take n++List.replicate q zd))) (λi=>if i=st.next then .slice (some ⟨w.heap.size,0,none⟩) (n+q) G else β i) a (w.drew.alloc (.cells row e)):=by
      refine hm.new F rfl trivial (λb hb=>by simp[bP] at hb;omega) ?_
      have C:((rows.drop lo).take n).length=n:=by simp;omega
      refine⟨(xs.drop (lo*te.size)).take (n*te.size)++(List.replicate q te.zero).flatten,⟨⟨?_,.inr ⟨w.heap.size,G,row,by simp only[oV,nO,C,sC],nU _,Go.heap_alloc_new w.drew _,by simp only[nO,C,sC];exact Fm,Fn,O,?_⟩⟩,λb hb=>⟨.inl (by simp[bP] at hb;have:=hm.below.size;omega),?_⟩⟩,?_,?_⟩
      .simp only[nO,Y,B,C,sC];rw[oR]
      .simp only[nO,C,sC]
       rw[H,o_ (by simp only[nO,Y,B];rw[<-oR];exact nJ _),oa (by simp only[nO,Y,B];rw[<-oR];exact nJ _)]
      .simp[bP] at hb;subst hb
       refine xY.of (Go.heap_alloc_new w.drew (.cells row e)) ?_
       intro u hu;rw[H] at hu;rcases nM.1 hu with hu | hu
       .rcases nM.1 hu with hu | hu
        .exact Hi.cB u (oH (oh hu))
        .exact(H0.replicate q).cB u hu
       .exact(H0.replicate _).cB u hu
      .rw[q_]
       refine zl.append ?_ ?_
       .have h1:zl w (Ex X β st.own) ((rows.drop lo).take n).flatten ((xs.drop (lo*te.size)).take (n*te.size)):=by
         rw[QS (λr hr=>W r (oH hr)),Ju W]
         exact zl.take _ (zl.drop _ Hi)
        exact zl.over (SG hm F) _ _ h1
       .exact zl.over (SG hm F) _ _ (H0.replicate q)
      .intro r hr
       rcases nM.1 hr with hr | hr
       .exact W r (oH (oh hr))
       .rw[(sp.1 hr).2];exact H1
     have Fs:(q:Int).toNat=q:=by omega
     rw[Fs] at h;refine br.x9 (v:=.slice (some ⟨w.heap.size,0,none⟩) (n+q) G) (w':=w.drew.alloc (.cells row e)) ?_ h (Fr.yH hd (by simp[ah.lo,St.new]) (by simp[Sm]))
     simp[execOp,ho,resolve,invoke,builtin,Q,S,M]
    .exact h.elim
   .exact h.elim
  .exact h.elim
 .exact h.elim
theorem zbt(w:World)(t ty e:TypeId)(i:TypeInfo)(L:P.underlying t=some (.slice e))(hi:P.info? e=some i)(g o n cap:Nat)(cur:Array Value)(T:TypeId)(M:w.heap[g]?=some (.cells cur T (0,0)))
  (a:Addr) (m c:Nat) (news:List Value) (O:news.length=m*i.size) (H:∀ j u,news[j]?=some u->w.cell? (a.add j)=some u) (Q:∀ u∈news,u.oneCell'=true)
  (G:n+m<=cap) (F:o+n*i.size+news.length<=cur.size) :
  (Builtin.append_ #[t,t] ty #[.slice (some ⟨g,o,none⟩) n cap,.slice (some a) m c]).run P w = .ok (.slice (some ⟨g,o,none⟩) (n+m) cap) (w.setRow g (aO cur.toList (o+n*i.size) news).toArray):=by
 have J:=run_firstCells_some (P:=P) w i.size m a m c news O H
 have E:=run_storeCells_at P g (o+n*i.size) T news 0 cur w M (by simpa using F) Q
 simp only[rf] at E
 have K:(cur.toList.take (o+n*i.size)++news++cur.toList.drop (o+n*i.size+news.length)).toArray=(aO cur.toList (o+n*i.size) news).toArray:=rfl
 rw[K] at E
 simp[Builtin.append_,run_underlying L,sizeOf,typeInfo,hi,Builtin.lenOf,G,J,Addr.add_lit,E]
def Ul(P:Program)(st:St)(dst:Option Tmp)(t t':Nat)(s x:ah)(K:St->Prop):Prop:=
 match s with
 |.av id sz lo n=>match TI.of P t with
  |some ⟨.slice e,_,_,_,_⟩=>match TI.of P e with
   |some te=>match kQ st st.next x,st.ay id with
    |some l,some (.aQ T sz' rows)=>t'=t/\sz=te.size/\sz'=te.size/\(∀ r∈l,r.length=te.size)/\lo+n+l.length<=rows.length/\K ((st.set id (.aQ T sz' (aO rows (lo+n) l))).put dst (.av id sz lo (n+l.length)))
    |_,_=>False
   |none=>False
  |_=>False
 |_=>False
theorem zay(hm:ax X w0 st β a w){o:Oper}{t t':Nat}{s x:Operand}(ho:o.op = .call {callee:=.builtin .append,args:=#[s,x],argTypes:=#[t,t']})(hd:∀ t,o.dst=some t->t<st.n){K:St->Prop}
  (h:Ul P st o.dst t t' (st.val s) (st.val x) K):br P X w0 o a w K:=by
 unfold Ul at h
 split at h
 case h_2=>exact h.elim
 rename_i id sz lo n hs
 split at h
 case h_2=>exact h.elim
 rename_i e _ _ _ _ ht
 obtain⟨i,u,z,hi,hu,hz,N,_⟩:=y8 ht
 have:=qK N.symm;subst this
 split at h
 case h_2=>exact h.elim
 rename_i te S
 obtain⟨ie,ue,ze,B,Hd,Hi,_,M,Hp,_,Hs⟩:=y8 S
 split at h
 case h_2=>exact h.elim
 rename_i l T sz' rows O Q
 obtain⟨rfl,rfl,rfl,V,Y,h⟩:=h
 have H:=(hm.val s).2
 rw[hs] at H;simp only[Sm] at H
 obtain⟨b,c,hβ,H,Hx,W⟩:=H
 have Z:=(hm.val s).1
 rw[hs] at Z
 obtain⟨ad,c1,C,G,F⟩:=QT hm O (hm.val x).2 V
 have G2:rows.length=c:=by
  obtain⟨cq,_,xs,H0,_,_⟩:=hm.dm Q;rcases H0.1.2 with⟨hn,h0⟩ | ⟨g,cap,cur,hg,_⟩
  .rw[hn] at hβ;cases hβ
  .rw[hg] at hβ;simp at hβ;exact hβ.2.1
 have I:∀ (w':World) (E:Nat->Prop),Sm w' E β (.av id te.size lo (n+l.length)) (.slice (some ⟨b,lo*te.size,none⟩) (n+l.length) (c-lo)):=λw' E=>by
  simp only[Sm];exact⟨b,c,hβ,rfl,by omega,W⟩
 cases ad with
 |none=>
  obtain⟨rfl,rfl⟩:=G rfl;have H1:aO rows (lo+n) ([]:List (List D))=rows:=by simp[aO]
  rw[H1] at h;refine br.x9 (v:=.slice (some ⟨b,lo*te.size,none⟩) n (c-lo)) (w':=w) ?_ h ((Jv hm Q).yH hd (by simpa[ah.lo,St.set] using Z) (by simpa using I w _))
  simp[execOp,ho,resolve,invoke,builtin,H,C,Builtin.append_,run_underlying hu,sizeOf,typeInfo,B,Builtin.lenOf,Builtin.firstCells,storeCells];omega
 |some a0=>
  obtain⟨news,A,J⟩:=F a0 rfl;have H2:news.length=l.length*te.size:=by rw[A.length,cx V]
  obtain⟨cur,hh,Ga,Hb,Hc⟩:=Ua hm Q hβ (l:=l) (lo:=lo+n) Y V A;have L:=zbt (P:=P) w _ o.type e ie hu B b (lo*te.size) n (c-lo) cur T hh a0 l.length c1 news (by rw[H2,<-M]) J A.cB (by omega) (by rw[<-M,<-oR];exact Hb)
  rw[<-M,<-oR] at L;refine br.x9 (v:=.slice (some ⟨b,lo*te.size,none⟩) (n+l.length) (c-lo)) (w':=w.setRow b (aO cur.toList ((lo+n)*te.size) news).toArray) ?_ h (Hc.yH hd (by simpa[ah.lo,St.set] using Z) (I _ _))
  simp[execOp,ho,resolve,invoke,builtin,H,C,L]
def ztw (P : Program) (g t : Nat) : Prop := ∃ (fn : Func) (tr e : Nat), P.funcs[g]? = some fn ∧ (fn.name == "runtime.NumGoroutine") = false ∧ fn.body.isNone = true ∧ Extern.findNext fn = none ∧
 Extern.find fn=some (Extern.SlicesOverlaps.overlaps #[t,t] #[tr])/\P.underlying t=some (.slice e)/\(P.info? e).isSome=true
def BA(P:Program)(st:St)(f:Operand)(xs:List Operand)(dst:Option Tmp)(K:St->Prop):Prop:=
 match xF (st.val f),xs.map st.val with
 |some (g,[]),[.ar i,.av j _ _ _]=>i≠j/\(∃ t,ztw P g t)/\(match st.ay i,st.ay j with
  |some (.aQ _ _ (_::_)),some (.aQ _ sz (_::_))=>sz≠0/\K (st.put dst (.d (.bool false)))
  |_,_=>False)
 |_,_=>False
theorem zfg(hm:ax X w0 st β a w){o:Oper}{f:Operand}{args:Array Operand}{ts:Array TypeId}(ho:o.op = .call {callee:=.value f,args,argTypes:=ts})
  (hd:∀ t,o.dst=some t->t<st.n) {K:St->Prop} (h:BA P st f args.toList o.dst K):br P X w0 o a w K:=by
 unfold BA at h
 split at h
 .rename_i g i j sz1 lo n hc Q
  obtain⟨S,⟨t,fn,tr,e,hf,E,hb,W,J,hu,L⟩,h⟩:=h;split at h
  .rename_i T1 s1 r1 rs1 T2 sz r2 rs2 Z A
   obtain⟨H0,hK⟩:=h;obtain⟨x,y,B⟩:∃ x y,args.toList=[x,y]:=by
    have hl:=congrArg List.length Q;simp at hl
    match hh:args.toList with
    | [x,y]=>exact⟨x,y,rfl⟩
    | []=>rw[<-oM,hh] at hl;simp at hl
    | [_]=>rw[<-oM,hh] at hl;simp at hl
    |_::_::_::_=>rw[<-oM,hh] at hl;simp at hl
   rw[B] at Q;simp only[nK,tj,sr,tW] at Q;obtain⟨hx,hy⟩:=Q;have T:=(hm.val x).2;rw[hx] at T;simp only[Sm] at T;have M:=(hm.val y).2;rw[hy] at M;simp only[Sm] at M;obtain⟨b2,c2,hβ2,M,H1,_⟩:=M;obtain⟨b,cap,cur,xs,hβ,hh,C,Gb,Gc,I,_,_,_,H2,_⟩:=Bz hm Z (by simp)
   obtain⟨b',cap',cur',xs',hβ',Hb,G,Hc,V,Y,_,_,_,N,_⟩:=Bz hm A (by simp)
   have Hd:b2=b':=by rw[hβ'] at hβ2;simp at hβ2;exact hβ2.1.symm
   subst Hd;have Hi:b≠b2:=by
    intro e;exact S (hm.apart i _ j _ b (xm Z) (xm A) (by rw[hβ];rfl) (by rw[hβ',e];rfl))
   have O:=(hm.val f).2;have Hp:a.eval f = .func (.func g) #[] #[]:=by
    cases Hs:st.val f <;> rw[Hs] at hc O <;> simp only[xF] at hc
    case d x=>
     cases x <;> simp only[xF] at hc
     case fn f' l=>
      simp at hc;obtain⟨rfl,h0⟩:=hc
      simp only[Sm,R] at O;obtain⟨vs,h1,h2⟩:=O;subst h0;simp only[zI] at h2;subst h2;simpa using h1
     all_goals cases hc
    case fn f' l=>
     simp at hc;obtain⟨rfl,h0⟩:=hc
     simp only[Sm] at O;obtain⟨vs,h1,h2⟩:=O;subst h0;simp only[zi] at h2;subst h2;simpa using h1
    all_goals cases hc
   obtain⟨ie,Hx⟩:=rC.1 L;have G2:cur'.size≠0:=by
    rw[V];simp only[nP] at G;exact A9 (by omega) H0
   have Ga:=Lib.run_overlaps_apart (P:=P) w t tr e hu ie.size (bQ Hx) ⟨b,0,none⟩ ⟨b2,lo*sz1,none⟩ (r1::rs1).length cap n (c2-lo) Hi T1 T2 cur.size cur'.size
    (by simp[World.shape?,hh]) (by simp[World.shape?,Hb]) G2 (by simp[World.frozen?,hh]) (by simp[World.frozen?,hh])
   have F:=run_callFunc_extern (P:=P) hf E hb W J #[.slice (some ⟨b,0,none⟩) (r1::rs1).length cap,.slice (some ⟨b2,lo*sz1,none⟩) n (c2-lo)] w;rw[Ga] at F;have H:args.map a.eval = #[.slice (some ⟨b,0,none⟩) (r1::rs1).length cap,.slice (some ⟨b2,lo*sz1,none⟩) n (c2-lo)]:=by
    have:args = #[x,y]:=by rw[<-Array.toArray_toList (xs:=args),B]
    rw[this];simp only[List.map_toArray,nK,tj];rw[T,hβ,M]
   refine br.x9 (v:=.bool false) (w':=w) ?_ hK (hm.yH hd (by simp[ah.lo]) (by simp[Sm,R]))
   simp only[Result.andThen,nP] at F H;simp[execOp,ho,resolve,Hp,Deferred.ofValue,invoke,H,F]
  .exact h.elim
 .exact h.elim
end
end Go.V
namespace Go.V
variable [Dr] [Ov]
open Go.RowKit
section
variable {P:Program} {w:World}
theorem SJ(ai e:Nat)(xs news:List Value)(n m old:Nat)(z:Value)(G:xs.length=n)(F:news.length=m)(J:z.cells.size=1)(E:n+m<=maxLen)(H:ai<=w.heap.size):
  (w.drew.alloc (.cells (xs.toArray++news.toArray++Builtin.zeroCells z.cells (grownCap w (n+m) old e-(n+m))) e)).ownsRow ai e 1 (.slice (some ⟨w.heap.size,0,none⟩) (n+m) (grownCap w (n+m) old e)) (n+m) (xs++news):=by
 have K:=grownCap_ge w (n+m) old e
 refine⟨by simp[G,F],.inr ⟨w.heap.size,_,_,rfl,H,Go.heap_alloc_new w.drew _,K,grownCap_le_maxLen w (n+m) old e E,?_,?_⟩⟩
 .simp only[Cw,sK,size_zeroCells,J,G,F]
  omega
 .simp only[sf]
  rw[o_ (by simp[G,F]),oa (by simp[G,F])]
theorem zal(ai:Nat)(t u ty e:TypeId)(i:TypeInfo)(z:Value)(ht:P.underlying t=some (.slice e))(hu:P.underlying u=some .string)(hi:P.info? e=some i)(hz:i.zero=some z)
  (H:i.size=1) (V:i.bytes=1) (X:z.cells.size=1)
  (v:Value) (n:Nat) (xs:List Value) (E:w.ownsRow ai e 1 v n xs) (s:ByteArray)
  (Y:n+s.size<=maxLen) (Q:n+s.size<=140737488355328) (G:ai<=w.heap.size)
  (L:∀ b,bP v=some b->xY w b) (A:∀ u∈xs,u.oneCell'=true) (B:∀ u∈z.cells.toList,u.oneCell'=true) :
  ∃ v' w',(Builtin.append_ #[t,u] ty #[v,.string s]).run P w = .ok v' w'/\w'.ownsRow ai e 1 v' (n+s.size) (xs++Lib.strCells s)/\w.grownBy w' v.ownBlock /\
   (v'.ownBlock=v.ownBlock\/∃ g,v'.ownBlock=some g/\w.heap.size<=g)/\∀ b,bP v'=some b->xY w' b:=by
 have T:n+s.size<=9223372036854775807:=by simp only[maxLen] at Y;omega
 have J:xs.length=n:=by simpa using E.1
 have K:=Lib.strCells_length s
 have M:∀ (olds:List Value) (k:Nat),(∀ u∈olds,u.oneCell'=true)->xY (w.drew.alloc (.cells (olds.toArray++(Lib.strCells s).toArray++Builtin.zeroCells z.cells k) e)) w.heap.size:=by
  intro olds k ho;refine xY.of (Go.heap_alloc_new w.drew _) λu hu=>?_
  simp only[sf,nM] at hu;rcases hu with(hu | hu) | hu
  .exact ho u hu
  .exact Lib.strCells_oneCell s u hu
  .exact RY B k u hu
 have Z:∀ (cs:Array Value) (row:Option Nat),w.grownBy (w.drew.alloc (.cells cs e)) row:=λcs row=>⟨rfl,rfl,rfl,by simp,λk hk _=>Go.heap_alloc_old w.drew _ hk⟩
 rcases E.2 with⟨rfl,rfl⟩ | ⟨g,cap,cur,rfl,C,hg,H0,I,N,O⟩
 .have hx:xs=[]:=nZ J
  subst hx;by_cases hm:s.size=0
  .have hn:Lib.strCells s=[]:=nZ (by rw[K];exact hm)
   have hf:=Lib.run_firstCells_string (P:=P) w 1 s;rw[hm] at hf;refine⟨.slice none 0 0,w,?_,by rw[hm,hn];exact World.ownsRow_nil w ai e 1,⟨rfl,rfl,rfl,nJ _,λ_ _ _=>rfl⟩,.inl rfl,λb hb=>by simp[bP] at hb⟩
   simp[Builtin.append_,run_underlying ht,run_underlying hu,sizeOf,typeInfo,hi,H,Builtin.lenOf,hm,hf]
  .have hr:=run_append_nil_string (P:=P) w t u ty e i z ht hu hi hz s (by omega) (by omega) (by rw[V];omega)
   have e1:(s.data.map λb=>Value.int .u8 b.toNat)=(Lib.strCells s).toArray:=by apply tb;simp[Lib.strCells]
   rw[e1] at hr;have hO:=SJ (w:=w) ai e [] (Lib.strCells s) 0 s.size 0 z rfl K X (by omega) G
   have hN:=M [] (grownCap w s.size 0 e-s.size) (λ_ h=>by cases h)
   simp only[pG,oP,Array.empty_append] at hO hN;refine⟨_,_,hr,by simpa using hO,Z _ _,.inr ⟨_,rfl,nJ _⟩,λb hb=>?_⟩
   simp[bP] at hb;subst hb;exact hN
 .by_cases F:n+s.size<=cap
  .have S:cur.size=cap:=by simpa using N
   have hr:=Lib.run_append_room_string (P:=P) w t u ty e i ht hu hi H g n cap cur hg s F (by omega)
   refine⟨_,_,hr,⟨by simp[J,K],.inr ⟨g,cap,_,rfl,C,setRow_heap w g cur _ e _ hg,F,I,?_,?_⟩⟩,⟨rfl,rfl,rfl,by simp,λk _ hk=>setRow_other w g k _ (λe=>hk (by simp[Value.ownBlock,e]))⟩,.inl rfl,λb hb=>?_⟩
   .simp only[sK,nO,nR,oO,oM,K]
    omega
   .have W:cur.toList.take n=xs:=by simpa using O
    show(List.take _ (_++_++_))=_
    rw[W,o_ (by simp[J,K]),oa (by simp[J,K])]
   .simp[bP] at hb;subst hb
    refine xY.of (setRow_heap w g cur _ e (0,0) hg) λu hu=>?_
    have h0:=L g (by rfl) _ _ _ hg
    simp only[nM] at hu;rcases hu with(hu | hu) | hu
    .exact h0 u (oh hu)
    .exact Lib.strCells_oneCell s u hu
    .exact h0 u (oH hu)
  .have holds:∀ j u,xs[j]?=some u->w.cell? ((⟨g,0,none⟩:Addr).add j)=some u:=E.cells (g:=g) rfl
   have hr:=Lib.run_append_grow_string (P:=P) w t u ty e i z ht hu hi hz ⟨g,0,none⟩ n cap xs (by rw[H];simpa using J) holds s (by omega) (by omega) (by rw[V];exact growslice_fits (by omega) (by omega))
   refine⟨_,_,hr,SJ ai e xs (Lib.strCells s) n s.size cap z J K X Y G,Z _ _,.inr ⟨_,rfl,nJ _⟩,λb hb=>?_⟩
   simp[bP] at hb;subst hb;exact M xs _ A
end
def Um(P:Program)(st:St)(dst:Option Tmp)(t t':Nat)(s x:ah)(K:St->Prop):Prop:=
 match x with
 |.d (.str b)=>match TI.of P t,TI.of P t' with
  |some ⟨.slice e,_,_,_,_⟩,some ⟨.str,_,_,_,_⟩=>match TI.of P e with
   |some te=>te.size=1/\te.bytes=1/\te.zero.length=1/\te.zero.all (·.oneCell')=true/\match s with
    |.ar id=>match st.ay id with
     |some (.aQ T sz rows)=>T=e/\sz=1/\rows.length+b.size<=140737488355328/\rows.length+b.size<=maxLen/\K ((st.aV id (.aQ e 1 (rows++yJ b))).put dst (.ar id))
     |_=>False
    |.aW=>b.size<=140737488355328/\b.size<=maxLen/\K (((st.new (.aQ e 1 [])).aV st.next (.aQ e 1 (yJ b))).put dst (.ar st.next))
    |_=>False
   |none=>False
  |_,_=>False
 |_=>False
section
variable {P:Program} {X:Nat->Prop} {w0:bz} {st:St} {β:Nat->Value} {a:Act} {w w':World} {E:Nat->Prop} {m:Nat} {k:ah->Prop}
theorem zbu(w:World)(E:Nat->Prop)(b:ByteArray):zl w E (yJ b).flatten (Lib.strCells b):=by
 unfold yJ Lib.strCells
 induction b.data.toList with
 |nil=>simp[zl]
 |cons y r ih=>
  simp only[nK,oZ,sx,zl];exact⟨_,_,rfl,rfl,by simp[R],ih⟩
theorem Un(b:ByteArray):(yJ b).length=b.size:=by unfold yJ;rw[om];rfl
theorem zfh(b:ByteArray):∀ r∈yJ b,r.length=1:=by
 intro r H
 simp only[yJ,nS] at H
 obtain⟨_,_,rfl⟩:=H
 rfl
theorem SK(hm:ax X w0 st β a w){o:Oper}{t t':Nat}{s x:Operand}(ho:o.op = .call {callee:=.builtin .append,args:=#[s,x],argTypes:=#[t,t']})(hd:∀ t,o.dst=some t->t<st.n){K:St->Prop}
  {e:Nat} {te:TI} (hu:P.underlying t=some (.slice e)) (Z:P.underlying t'=some .string) (A:TI.of P e=some te) (B:te.size=1) (C:te.bytes=1) (I:te.zero.length=1) (N:te.zero.all (·.oneCell')=true) {id:Nat} (S:a.eval s=β id) {rows:List (List D)} {b:ByteArray} (hx:a.eval x = .string b)
  (T:st.ay id=some (.aQ e 1 rows)) (hb:rows.length+b.size<=140737488355328) (W:rows.length+b.size<=maxLen)
  (h:K ((st.aV id (.aQ e 1 (rows++yJ b))).put o.dst (.ar id))):br P X w0 o a w K:=by
 obtain⟨ie,ue,ze,H0,G2,H1,_,H2,Hb,_,V⟩:=y8 A
 obtain⟨cq,Ga,xs,G,Y,Hc⟩:=hm.dm T
 have J:∀ r∈rows++yJ b,r.length=1:=λr hr=>(nM.1 hr).elim (Hc r) (zfh b r)
 have Hd:ze.cells.size=1:=by rw[<-I,V];simp
 obtain⟨v',w',hr,L,hg,M,F⟩:=zal (P:=P) (w:=w) 0 t t' o.type e ie ze hu Z H0 H1 (by rw[<-H2,B]) (by rw[<-Hb,C]) Hd (β id) rows.length xs G.1 b W hb (nU _) (λb hb=>(G.2 b hb).2) Y.cB (by rw[<-V];exact oo.1 N)
 have H:∀ b,bP v'=some b->bP (β id)=some b\/w.heap.size<=b:=by
  intro b hb;rw[<-ZA L] at hb;rcases M with e | ⟨g,e,Hi⟩
  .left;rw[e,ZA G.1] at hb;exact hb
  .right;rw[e] at hb;cases hb;exact Hi
 have O:∀ b,bP v'=some b->w0.dS b:=λb hb=>(H b hb).elim (λe=>(G.2 b e).1) (λh=>.inl (oC hm.below.size h))
 have Q:(rows++yJ b).length=rows.length+b.size:=by rw[nO,Un]
 have Hp:=hm.aV (o':=.aQ e 1 (rows++yJ b)) T (Bi L)
  (hm.below.k_ hg.os hg.tape hg.output hg.size (λk hk hn=>hg.block k hk (λe=>hn (G.2 k (by rw[<-ZA G.1];exact e.symm)).1)) (λ_=>ju P _ _ _ _ hr))
  (λc hc Hs=>hg.block c hc (by rw[ZA G.1];exact Hs)) H trivial
  (λE Hx hbE=>⟨xs++Lib.strCells b,⟨by rw[Q];simpa using L,λb hb=>⟨O b (by simpa using hb),F b (by simpa using hb)⟩⟩,by rw[q_];exact zl.append (zl.over Hx _ _ Y) (zbu _ _ b),J⟩)
 refine br.x9 (v:=v') (w':=w') ?_ h (Hp.yH hd (by simpa[ah.lo,St.aV] using cq) (by simp[Sm]))
 simp[execOp,ho,resolve,invoke,builtin,S,hx,hr]
theorem zaz(S:ax X w0 st β a w){o:Oper}{t t':Nat}{s x:Operand}(W:o.op = .call {callee:=.builtin .append,args:=#[s,x],argTypes:=#[t,t']})(hd:∀ t,o.dst=some t->t<st.n){K:St->Prop}
  (h:Um P st o.dst t t' (st.val s) (st.val x) K):br P X w0 o a w K:=by
 unfold Um at h
 split at h
 case h_2=>exact h.elim
 rename_i b Y
 have G:=(S.val x).2
 rw[Y] at G
 simp only[Sm,R] at G
 split at h
 case h_2=>exact h.elim
 rename_i e _ _ _ _ _ _ _ _ ht Z
 obtain⟨i,u,z,hi,hu,hz,A,_⟩:=y8 ht
 have:=qK A.symm;subst this
 obtain⟨i',u',z',I,J,N,F,_⟩:=y8 Z
 have:=Z2 F.symm;subst this
 split at h
 case h_2=>exact h.elim
 rename_i te L
 obtain⟨M,O,Q,V,h⟩:=h
 have H:=(S.val s).2
 split at h
 .rename_i id hs
  rw[hs] at H;simp only[Sm] at H;split at h
  .rename_i T sz rows B
   obtain⟨rfl,rfl,hb,E,h⟩:=h;exact SK S W hd hu J L M O Q V H G B hb E h
  .exact h.elim
 .rename_i hs
  obtain⟨hb,E,h⟩:=h;rw[hs] at H;simp only[Sm] at H;have C:=S.Xn e 1;refine SK C W hd hu J L M O Q V (id:=st.next) (rows:=[]) ?_ G ?_ (by simpa using hb) (by simpa using E) (by simpa using h)
  .simp[H]
  .simp[St.ay,St.new,zc]
 .exact h.elim
end
end Go.V

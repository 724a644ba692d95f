/- A program logic of my own over the kit: part W3. It needs no conditions. -/
import Derived.Test.YtknekjalbninmaaGreatW2
set_option linter.all false
namespace Go.V
variable [Dr] [Ov]
open Go.RowKit
def kV:List Int->List ah->Int->Option ah
 |k::ks,c::cs,n=>if k=n then some c else kV ks cs n
 |_,_,_=>none
def vw:List Int->List ah->Int->ah->List Int×List ah
 |k::ks,c::cs,n,s=>if k=n then (k::ks,s::cs) else (k::(vw ks cs n s).1,c::(vw ks cs n s).2)
 |_,_,n,s=>([n],[s])
section
variable {P:Program} {X:Nat->Prop} {w0:bz} {st:St} {β:Nat->Value} {a:Act} {w w':World} {E:Nat->Prop}
theorem Ac{u:TypeDesc}{n:Int}(w:World)(H:jw (qd P u) (.int .i64 n)=true)(k:Int):Instr.sameNow u (.int .i64 n) (.int .i64 k)=some (decide (n=k)):=
 (QG (P:=P) (w:=w) (E:=λ_=>False) H (by simp[R]) (y:=.int .i64 k) (by simp[R]) (by simp[Z1])).1
theorem Ad{u:TypeDesc}{n:Int}(H:jw (qd P u) (.int .i64 n)=true):∀ {bB:List Int} {cells:List ah} {es:List MapEntry} {i:Nat},es.map (·.key)=bB.map (λk=>Value.int .i64 k)->zi w E β cells (es.map (·.val)) ->
  match kV bB cells n with
  |none=>Instr.findNow u (.int .i64 n) es i=some none
  |some c=>∃ j t,Instr.findNow u (.int .i64 n) es i=some (some (j,t))/\Sm w E β c t
 | [],cells,es,i,G,F=>by
  have:es=[]:=by simpa using G
  subst this;simp only[kV];rfl
 |k::ks,cells,es,i,G,F=>by
  cases es with
  |nil=>simp at G
  |cons e es=>
   simp only[nK,sr] at G;simp only[nK] at F;cases cells with
   |nil=>simp[zi] at F
   |cons c cs=>
    simp only[zi] at F;obtain⟨v,vs',K,J,L⟩:=F;obtain⟨rfl,rfl⟩:=rJ K;have hs:=Ac (P:=P) w H k;rw[<-G.1] at hs;simp only[kV];by_cases M:k=n
    .rw[gt M]
     rw[pI M.symm] at hs;exact⟨i,e.val,by simp[Instr.findNow,hs],J⟩
    .rw[ge M]
     rw[pH (se M)] at hs;have ih:=Ad H (i:=i+1) G.2 L;cases O:kV ks cs n with
     |none=>rw[O] at ih;simpa[Instr.findNow,hs] using ih
     |some d=>rw[O] at ih;simpa[Instr.findNow,hs] using ih
theorem Ae{m:Nat}{n:Int}{c:ah}:∀ {bB:List Int} {cells:List ah},ah.a_ m cells->kV bB cells n=some c->ah.lo m c
 | [],cells,_,h=>by simp[kV] at h
 |k::ks,[],_,h=>by simp[kV] at h
 |k::ks,x::cs,H,h=>by
  simp only[ah.a_] at H;simp only[kV] at h;split at h
  .cases h;exact H.1
  .exact Ae H.2 h
theorem Af{m:Nat}{n:Int}{s:ah}(hs:ah.lo m s):∀ {bB:List Int} {cells:List ah},ah.a_ m cells->ah.a_ m (vw bB cells n s).2
 | [],cells,_=>by simp[vw,ah.a_,hs]
 |k::ks,[],_=>by simp[vw,ah.a_,hs]
 |k::ks,x::cs,hl=>by
  simp only[ah.a_] at hl;simp only[vw];split
  .simp only[ah.a_];exact⟨hs,hl.2⟩
  .simp only[ah.a_];exact⟨hl.1,Af hs hl.2⟩
theorem Ah{u:TypeDesc}{n:Int}{s:ah}{t:Value}(H:jw (qd P u) (.int .i64 n)=true)(hs:Sm w E β s t):∀ {bB:List Int} {cells:List ah} {es:List MapEntry} {i:Nat},es.map (·.key)=bB.map (λk=>Value.int .i64 k)->zi w E β cells (es.map (·.val)) ->
  (Instr.findNow u (.int .i64 n) es i=some none/\∀ c,(es++[({key:=.int .i64 n,val:=t,born:=c}:MapEntry)]).map (·.key)=(vw bB cells n s).1.map (λk=>Value.int .i64 k)/\zi w E β (vw bB cells n s).2 ((es++[({key:=.int .i64 n,val:=t,born:=c}:MapEntry)]).map (·.val))) \/
  (∃ j e,Instr.findNow u (.int .i64 n) es i=some (some (i+j,e.val))/\es[j]?=some e/\e.key = .int .i64 n/\(es.modify j λe:MapEntry=>{e with key:=.int .i64 n,val:=t}).map (·.key)=(vw bB cells n s).1.map (λk=>Value.int .i64 k) /\
   zi w E β (vw bB cells n s).2 ((es.modify j λe:MapEntry=>{e with key:=.int .i64 n,val:=t}).map (·.val)))
 | [],cells,es,i,G,F=>by
  have:es=[]:=by simpa using G
  subst this;refine .inl ⟨rfl,λc=>?_⟩
  simp only[vw,oP,nK,tj,tT];simp only[zi];exact⟨t,[],rfl,hs,rfl⟩
 |k::ks,cells,es,i,G,F=>by
  cases es with
  |nil=>simp at G
  |cons e es=>
   simp only[nK,sr] at G;simp only[nK] at F;cases cells with
   |nil=>simp[zi] at F
   |cons c cs=>
    simp only[zi] at F;obtain⟨v,vs',K,J,L⟩:=F;obtain⟨rfl,rfl⟩:=rJ K;have aI:=Ac (P:=P) w H k;rw[<-G.1] at aI;simp only[vw];by_cases M:k=n
    .rw[gt M]
     rw[pI M.symm] at aI;subst M;refine .inr ⟨0,e,by simp[Instr.findNow,aI],by simp,G.1,?_,?_⟩
     .simp only[tv,nK,G.2]
     .simp only[tv,nK,zi]
      exact⟨t,_,rfl,hs,L⟩
    .rw[ge M]
     rw[pH (se M)] at aI;rcases Ah H hs (i:=i+1) G.2 L with⟨q1,q2⟩ | ⟨j,e',q1,q2,q3,q4,q5⟩
     .refine .inl ⟨by simpa[Instr.findNow,aI] using q1,λb=>?_⟩
      obtain⟨p1,p2⟩:=q2 b;refine⟨by simp only[nV,nK,p1,G.1],?_⟩
      simp only[nV,nK,zi];exact⟨_,_,rfl,J,p2⟩
     .refine .inr ⟨j+1,e',?_,by simpa using q2,q3,?_,?_⟩
      .simp only[Instr.findNow,aI];rw[q1];congr 3;omega
      .simp only[tw,nK,q4,G.1]
      .simp only[tw,nK,zi]
       exact⟨_,_,rfl,J,q5⟩
theorem ax.mq0(G:ax X w0 st β a w){id T:Nat}(h:st.ay id=some (.map T [])):ax X w0 {st with own:=zT id (.cN (.mq []) []) st.own} β a w:=by
 obtain⟨_,_,r,es,clock,F,E,K,H⟩:=G.dm h
 refine G.db h (b:=r) (by rw[F];rfl) E (λ_ _=>rfl) rfl rfl rfl rfl (jv.refl _) (by simp[am.lo,ah.a_]) ?_
 simp only[yN] at H
 exact⟨r,0,0,[],F,E,⟨es,clock,K,by rw[H];rfl,by rw[H];rfl⟩,by simp[zi]⟩
theorem Ai{w:World}{E:Nat->Prop}{β:Nat->Value}:∀ {bB:List Int} {ds:List D} {es:List MapEntry},es.map (·.key)=bB.map (λk=>Value.int .i64 k)->zi w E β (ds.map .d) (es.map (·.val))->yN w E ((bB.zip ds).map λp=>[D.int .i64 p.1,p.2]) es
 | [],ds,es,H,G=>by
  have:es=[]:=by simpa using H
  subst this;simp[yN]
 |k::ks,ds,es,H,G=>by
  cases es with
  |nil=>simp at H
  |cons e es=>
   simp only[nK,sr] at H;simp only[nK] at G;cases ds with
   |nil=>simp[zi] at G
   |cons d ds=>
    simp only[nK,zi] at G;obtain⟨v,vs',F,K,J⟩:=G;obtain⟨rfl,rfl⟩:=rJ F;simp only[Co,nK,yN,zI];simp only[Sm] at K;exact⟨e,es,rfl,⟨_,_,rfl,by rw[H.1];simp[R],_,_,rfl,K,rfl⟩,Ai H.2 J⟩
theorem ax.mqD(H:ax X w0 st β a w){id T:Nat}{bB:List Int}{ds:List D}(h:st.ay id=some (.cN (.mq bB) (ds.map .d))):
  ax X w0 {st with own:=zT id (.map T ((bB.zip ds).map λp=>[D.int .i64 p.1,p.2])) st.own} β a w:=by
 obtain⟨_,_,r,fn,D',vs,G,F,⟨es,clock,E,K,J⟩,hs⟩:=H.dm h
 subst J
 exact H.db h (b:=r) (by rw[G];rfl) F (λ_ _=>rfl) rfl rfl rfl rfl (jv.refl _) trivial ⟨r,es,clock,G,F,E,Ai K hs⟩
theorem Aj(hm:ax X w0 st β a w){o:Oper}{t:Nat}{m x:Operand}(ho:o.op = .lookup t m x false)(hd:∀ t,o.dst=some t->t<st.n){id:Nat}{bB:List Int}{cells:List ah}{n:Int}
  (Z:st.val m = .mp id) (A:st.ay id=some (.cN (.mq bB) cells)) (hx:st.val x = .d (.int .i64 n)) {kt et:Nat} {tk te:TI} (hu:P.underlying t=some (.map kt et)) (hk:TI.of P kt=some tk) (he:TI.of P et=some te)
  (H:jw tk.kind (.int .i64 n)=true) (hz:te.zero=[.slice none 0 0]) (B:te.agg=false) (C:Jd P et=true) {K:St->Prop} (hK:K (st.put o.dst ((kV bB cells n).getD .aW))):br P X w0 o a w K:=by
 obtain⟨ik,uk,zk,H1,M,H2,I,_⟩:=y8 hk
 obtain⟨ie,ue,ze,T,Hb,V,_⟩:=y8 he
 rw[I] at H
 obtain⟨_,N,r,fn,D',vs,h1,hN,⟨es,clock,hh,S,W⟩,hs⟩:=hm.dm A
 subst W
 have O:=(hm.val m).2
 rw[Z] at O;simp only[Sm] at O
 have J:=(hm.val x).2
 rw[hx] at J;simp only[Sm,R] at J
 have F:a.eval m = .map (some r):=by rw[O,h1];rfl
 have H0:MapKept.IsKey uk (a.eval x):=QF (w:=w) (E:=λ_=>False) H (by simp only[R];exact J)
 have Y:=λe=>MapKept.run_checkKey (P:=P) (w:=w) M H0 e 9999
 have hg:=Ad (P:=P) H (i:=0) S hs
 rw[<-J] at hg
 cases Q:kV bB cells n with
 |none=>
  rw[Q] at hg hK;have G:(Instr.lookup t (a.eval m) (a.eval x) false).run P w = .ok ze w:=by
   simp[Instr.lookup,run_underlying hu,F,MapKept.run_getObj_map hh,Y,MapKept.run_findKey M hg,zeroValue,typeInfo,T,V]
  have L:=Ry he T V C;rw[ge (by rw[B];decide)] at L
  have L:=L _ hz;subst L;exact br.x9 (v:=.slice none 0 0) (w':=w) (by simp[execOp,ho,G]) hK (hm.yH hd (by simp[ah.lo]) (by simp[Sm]))
 |some c=>
  rw[Q] at hg hK;obtain⟨j,t',hf,hc⟩:=hg;have G:(Instr.lookup t (a.eval m) (a.eval x) false).run P w = .ok t' w:=by
   simp[Instr.lookup,run_underlying hu,F,MapKept.run_getObj_map hh,Y,MapKept.run_findKey M hf]
  exact br.x9 (v:=t') (w':=w) (by simp[execOp,ho,G]) hK (hm.yH hd (Ae N Q) hc)
theorem Ak(hm:ax X w0 st β a w){o:Oper}{t:Nat}{m x v:Operand}(ho:o.op = .mapUpdate t m x v)(hd:o.dst=none){id:Nat}{bB:List Int}{cells:List ah}{n:Int}
  (B:st.val m = .mp id) (O:st.ay id=some (.cN (.mq bB) cells)) (hx:st.val x = .d (.int .i64 n)) {kt et:Nat} {tk:TI} (hu:P.underlying t=some (.map kt et)) (hk:TI.of P kt=some tk)
  (G:jw tk.kind (.int .i64 n)=true) {K:St->Prop} (hK:K {st with own:=zT id (.cN (.mq (vw bB cells n (st.val v)).1) (vw bB cells n (st.val v)).2) st.own}):br P X w0 o a w K:=by
 obtain⟨ik,uk,zk,Hc,Q,Hd,C,_⟩:=y8 hk
 rw[C] at G
 obtain⟨_,I,r,fn,D',vs,h1,hN,⟨es,clock,hh,N,S⟩,hs⟩:=hm.dm O
 subst S
 have T:=(hm.val m).2
 rw[B] at T;simp only[Sm] at T
 have H:=(hm.val x).2
 rw[hx] at H;simp only[Sm,R] at H
 obtain⟨W,H0⟩:=hm.val v
 have J:a.eval m = .map (some r):=by rw[T,h1];rfl
 have Z:MapKept.IsKey uk (a.eval x):=QF (w:=w) (E:=λ_=>False) G (by simp only[R];exact H)
 have A:=MapKept.run_checkKey (P:=P) (w:=w) Q Z false 9999
 have L:=Af (n:=n) (bB:=bB) W I
 have ck:∀ es' clock',(Instr.mapUpdate t (a.eval m) (a.eval x) (a.eval v)).run P w = .ok () {w with heap:=w.heap.setIfInBounds r (.map es' clock')} ->
   es'.toList.map (·.key)=(vw bB cells n (st.val v)).1.map (λk=>Value.int .i64 k)->zi w (Ex X β st.own) β (vw bB cells n (st.val v)).2 (es'.toList.map (·.val))->br P X w0 o a w K:=by
  intro es' clock' V Y H1;have F:=MapKept.heap_set (o':=.map es' clock') hh;have H2:Ex X β st.own r:=.inr ⟨id,_,xm O,by rw[h1];rfl⟩
  have Hb:=QK (w':={w with heap:=w.heap.setIfInBounds r (.map es' clock')}) H2 (λc hc=>F.2 c hc)
  refine br.U6 (β':=β) (w':={w with heap:=w.heap.setIfInBounds r (.map es' clock')}) ?_ hK ?_
  .simp[execOp,ho,V]
  .have M:(a.put o.dst undef)=a:=by rw[hd];rfl
   rw[M];refine hm.db O (b:=r) (by rw[h1];rfl) hN (λc hc=>F.2 c hc) (by simp) rfl rfl rfl (λ_=>by simp) L ?_
   exact⟨r,0,0,_,h1,hN,⟨es',clock',F.1,Y,rfl⟩,zi.over (m:=st.next) (λ_ _=>rfl) Hb L H1⟩
 rcases Ah (P:=P) G H0 (i:=0) N hs with⟨q1,q2⟩ | ⟨j,e,q1,q2,q3,q4,q5⟩
 .rw[<-H] at q1
  have q2c:=q2 clock;refine ck (es.push {key:=a.eval x,val:=a.eval v,born:=clock}) (clock+1) ?_ (by rw[H];simpa using q2c.1) (by rw[H];simpa using q2c.2)
  simp[Instr.mapUpdate,run_underlying hu,J,MapKept.run_getObj_map hh,A,MapKept.run_findKey Q q1,MapKept.run_setObj_map _ hh]
 .rw[<-H] at q1 q3
  have hj:es[j]?=some e:=by simpa using q2
  refine ck (es.modify j λe=>{e with key:=a.eval x,val:=a.eval v}) clock ?_ (by rw[H];simpa using q4) (by rw[H];simpa using q5)
  simp[Instr.mapUpdate,run_underlying hu,J,MapKept.run_getObj_map hh,A,MapKept.run_findKey Q q1,hj,q3,MapKept.run_keyThatStays Z,MapKept.run_setObj_map _ hh]
end
end Go.V
namespace Go.V
variable [Dr] [Ov]
open Go.RowKit
structure fD(all:List Oper)(m:Nat)(S:St)(L:Nat->Prop)(st:St):Prop where
 n:st.n=S.n
 ai:st.ai=S.ai
 next:st.next=S.next
 aA:st.aA=S.aA
 own:st.own=S.own
 lQ:∀ t s,zc S.af t=some s->s≠.junk->(∀ i o,i<m->all[i]?=some o->o.dst=some t->L i)->zc st.af t=some s
def UQ(P:Program)(S:St)(o:Oper)(s:ah):Prop:=Yr S.val o.op=true/\vQ P S.ay S.val o.op (λs'=>s'=s)
def UR(P:Program)(all:List Oper)(S:St)(o:Oper)(s:ah):Prop:=∀ (X:Nat->Prop) (w0:bz) (st:St) (β:Nat->Value) (a:Act) (w:World),st.n=S.n->st.next=S.next->st.own=S.own ->
 (∀ t∈aX all o,∀ s,zc S.af t=some s->s≠.junk->zc st.af t=some s)->ax X w0 st β a w->br P X w0 o a w (λst'=>st'=st.put o.dst s)
def Vb(all:List Oper)(m:Nat):Bool:=(List.range m).all λi=>(List.range m).all λj=>Nat.blt j i || (match all[i]?,(all[j]?).bind (·.dst) with
 |some o,some t=>!(aX all o).contains t
 |_,_=>true)
section
variable {P:Program} {X:Nat->Prop} {w0:bz} {st S S1:St} {β:Nat->Value} {a:Act} {w w':World} {all:List Oper} {Lb:Array Bool} {m:Nat}
theorem fD.fA{L:Nat->Prop}(h:fD all m S L st)(H:∀ i,i<m->L i)(G:ax X w0 st β a w):ax X w0 S β a w:=by
 obtain⟨F,E,K,J,M,O⟩:=h
 obtain⟨q1,q2,q3,q4,q5,q6,q7,q8,q9,q10⟩:=G
 rw[E,K,J] at q2
 rw[F] at q5
 rw[M] at q7 q8 q9 q10
 rw[K] at q8 q10
 refine⟨q1,q2,q3,q4,q5,q6,q7,q8,q9,λt s hs=>?_⟩
 by_cases hj:s = .junk
 .subst hj;exact⟨by simp[ah.lo],by simp[Sm]⟩
 .exact q10 t s (O t s hs hj λi _ hi _ _=>H i hi)
theorem zsv(h:Vb all m=true){i j t:Nat}{o y:Oper}(hi:i<m)(hj:j<m)(H:all[i]?=some o)(G:all[j]?=some y)(F:y.dst=some t)(E:t∈aX all o):j<i:=by
 unfold Vb at h
 have:=oo.1 (oo.1 h i (oc.2 hi)) j (oc.2 hj)
 rw[H,G] at this
 simp only[Option.bind_some,F,oS] at this
 rcases this with e | e
 .simpa using e
 .simp[E] at e
theorem fD.Xx{L:Nat->Prop}(G:yO all=true)(F:Vb all m=true)(M:L=cj Lb)(h:fD all m S L st){i:Nat}{o:Oper}(hi:i<m)(O:all[i]?=some o)(H:∀ e∈o.after.toList,Region.binds .any e=true->Lb.getD e.on false=true){t:Nat}(Q:t∈aX all o)
  {s:ah} (hs:zc S.af t=some s) (hj:s≠.junk):zc st.af t=some s:=by
 refine h.lQ t s hs hj λj y E T V=>?_
 have K:=zsv F hi E O T V Q
 obtain⟨e,X,Y,J⟩:=Yt (((uC G T O K).1 t V).1 Q)
 have:=H e X Y
 rw[J] at this
 rw[M];exact ZG this
theorem UQ.step{o:Oper}{s:ah}(Y:∀ t,o.dst=some t->t<S.n)(J:ah.lo S.next s)(Z:UQ P S o s):UR P all S o s:=by
 intro X w0 st β a w A B F H C
 let fO:St:={st with af:=seen all o S}
 have L:ax X w0 fO β a w:=by
  refine⟨C.bU,C.bI,C.cB,C.defers,C.size,C.below,C.bB,C.own,C.apart,?_⟩
  intro t s' I;obtain⟨q1,q2⟩:=Ys I;by_cases hj:s' = .junk
  .subst hj;exact⟨by simp[ah.lo],by simp[Sm]⟩
  .exact C.af t s' (H t q1 s' q2 hj)
 have E:∀ x∈o.op.operands,S.val x=fO.val x:=by
  intro x M;cases x with
  |tmp t=>
   simp only[St.val];have K:t∈aX all o:=V4 M
   cases W:zc S.af t with
   |some s'=>rw[show zc fO.af t=some s' from JD K W]
   |none=>
    cases O:zc fO.af t with
    |none=>rfl
    |some s'=>have:=(Ys O).2;rw[W] at this;cases this
  |_=>rfl
 have G:S.ay=fO.ay:=by funext id;simp only[St.ay,fO,F]
 have h3:=BG E Z.2
 rw[G] at h3
 intro N Q T
 refine Jq L o h3 N Q λs' v w' e W hb V=>?_
 subst e
 exact T _ _ (st.put o.dst s') β rfl (C.put hb (λu hu=>by rw[A];exact Y u hu) (by rw[B];exact J) V)
theorem Am(K:yO all=true)(J:Vb all m=true)(L:dX all Lb)(V:ax X w0 st β a w)(Y:fD all m S (cj Lb) st){i:Nat}{o:Oper}{t:Nat}{s:ah}(hi:i<m)(Z:all[i]?=some o)(M:¬cj Lb i)
  (G:∀ e∈o.after.toList,Region.binds .any e=true->Lb.getD e.on false=true) (A:o.dst=some t) (hs:∀ s',zc S.af t=some s'->s'≠.junk->s'=s) (B:UR P all S o s) :
  br P X w0 o a w (λst'=>fD all m S (cj (Lb.setIfInBounds i true)) st'):=by
 have F:i<Lb.size:=by rw[L.size];exact(nN.1 Z).1
 intro N Q O
 refine B X w0 st β a w Y.n Y.next Y.own (λt C s hs hj=>Y.Xx K J rfl hi Z G C hs hj) V N Q λa' w' st' β' e hm'=>?_
 subst e
 refine O _ _ (st.put o.dst s) β' ?_ hm'
 have H:=Uz st o.dst s
 refine⟨H.2.2.1.trans Y.n,H.2.2.2.1.trans Y.ai,H.2.1.trans Y.next,H.2.2.2.2.trans Y.aA,H.1.trans Y.own,λu s2 I hj W=>?_⟩
 rw[gi]
 by_cases e:o.dst=some u
 .rw[gt e]
  rw[A] at e;cases e;rw[hs s2 I hj]
 .rw[ge e]
  refine Y.lQ u s2 I hj λj y T hy E=>?_
  rcases(wm F).1 (W j y T hy E) with e2 | e2
  .subst e2;rw[Z] at hy;cases hy;exact absurd E e
  .exact e2
structure lj(S S1:St)(d:Nat)(sd:ah)(f:ah->ah)(F:St->St):Prop where
 junk:f .junk = .junk
 iO:zc S1.af d=some sd
 ay:∀ t s,t≠d->zc S1.af t=some s->∃ s0,zc S.af t=some s0/\f s0=s
 go:∀ st,st.n=S.n->st.ai=S.ai->st.next=S.next->st.aA=S.aA->st.own=S.own ->
  (F st).n=S1.n/\(F st).ai=S1.ai/\(F st).next=S1.next/\(F st).aA=S1.aA/\(F st).own=S1.own/\∀ t,zc (F st).af t=if t=d then some sd else (zc st.af t).map f
theorem lj.near{d:Nat}{sd:ah}{f:ah->ah}{F:St->St}{L L':Nat->Prop}{e:Nat}{oe:Oper}(h:lj S S1 d sd f F)(J:fD all m S L st)(M:∀ j,L' j->j=e\/L j)(G:all[e]?=some oe)(O:oe.dst=some d):fD all m S1 L' (F st):=by
 obtain⟨g1,g2,g3,g4,g5,g6⟩:=h.go st J.n J.ai J.next J.aA J.own
 refine⟨g1,g2,g3,g4,g5,λt s hs hj E=>?_⟩
 rw[g6]
 by_cases e1:t=d
 .subst e1;rw[gt rfl,<-h.iO,hs]
 .rw[ge e1]
  obtain⟨s0,Q,T⟩:=h.ay t s e1 hs;have K:s0≠.junk:=λe2=>hj (by rw[<-T,e2,h.junk])
  have:=J.lQ t s0 Q K λi y hi V H=>by
   rcases M i (E i y hi V H) with e2 | e2
   .subst e2;rw[G] at V;cases V;rw[O] at H;cases H;exact absurd rfl e1
   .exact e2
  rw[this,oL,T]
def E6(P:Program)(all:List Oper)(S S1:St)(oe:Oper)(e i:Nat)(o:Oper):Prop:=
 o.guard=none/\∃ t s,o.dst=some t/\((∃ f,ZF all f e i=true)\/(UR P all S1 o s/\∀ s',zc S1.af t=some s'->s'≠.junk->s'=s))/\UR P all S o s/\∀ s',zc S.af t=some s'->s'≠.junk->s'=s
theorem qY{oe o:Oper}{e i t:Nat}{s:ah}(G:o.guard=none)(F:o.dst=some t)(E:t<S.n)(H:ah.lo S.next s)(K:UQ P S o s)(hs:zc S.af t=some s)
  (late:(∃ f,ZF all f e i=true)\/(t<S1.n/\ah.lo S1.next s/\UQ P S1 o s/\zc S1.af t=some s)):E6 P all S S1 oe e i o:=by
 have cB:∀ s',some s=some s'->s'≠.junk->s'=s:=λs' h _=>by cases h;rfl
 refine⟨G,t,s,F,?_,K.step (λu hu=>by rw[F] at hu;cases hu;exact E) H,by rw[hs];exact cB⟩
 rcases late with h | ⟨J,L,M,O⟩
 .exact .inl h
 .exact .inr ⟨M.step (λu hu=>by rw[F] at hu;cases hu;exact J) L,by rw[O];exact cB⟩
theorem US(V:yO all=true)(A:Vb all m=true)(M:vF all m=true\/m=all.length)(H1:m<=all.length){e d:Nat}{sd:ah}{f:ah->ah}{F:St->St}{oe:Oper}(he:e<m)(Y:all[e]?=some oe)(N:oe.guard=none)(W:oe.dst=some d)
  (hT:lj S S1 d sd f F)
  (G:∀ i o,i<m->i≠e->all[i]?=some o->E6 P all S S1 oe e i o)
  (O:∀ L st,fD all m S L st->(∀ t∈aX all oe,∀ s,zc S.af t=some s->s≠.junk->zc st.af t=some s)->∀ β a w,ax X w0 st β a w->br P X w0 oe a w (λst'=>st'=F st))
  {Q:Exit->Act->World->Prop}
  (T:∀ β a w Lb',ax X w0 S1 β a w->dX all Lb'->(∀ j,j<all.length->(cj Lb' j↔j<m))->∀ fuel,left Lb'<=fuel->wpAny P .any all.toArray Q fuel Lb' a w) :
  ∀ (fuel:Nat) (Lb:Array Bool) (st:St) (β:Nat->_) (a:Act) (w:World),ax X w0 st β a w->((¬cj Lb e/\fD all m S (cj Lb) st)\/(cj Lb e/\fD all m S1 (cj Lb) st))->dX all Lb->(∀ j,m<=j->j<all.length->¬cj Lb j)->left Lb<=fuel ->
   wpAny P .any all.toArray Q fuel Lb a w
 |fuel,Lb,st,β,a,w,hm,hD,E,H2,hf=>by
  by_cases hd:∀ j,j<m->cj Lb j
  .rcases hD with⟨Hi,_⟩ | ⟨_,hN⟩
   .exact absurd (hd e he) Hi
   .exact T β a w Lb (hN.fA hd hm) E (λj hj=>⟨λhl=>by
     rcases pe j m with h | h
     .exact h
     .exact absurd hl (H2 j h hj),hd j⟩) fuel hf
  .have hx:∃ j,j<m/\¬cj Lb j:=oJ λhn=>hd λj h2=>oJ λh3=>hn ⟨j,h2,h3⟩
   obtain⟨j,Hp,Hb⟩:=hx;cases fuel with
   |zero=>have:=JJ (Lb:=Lb) (by rw[E.size];omega) Hb;omega
   |succ fuel=>
    refine⟨λhr=>absurd (Uw V E.size hr j (by omega)) Hb,λi hi=>?_⟩
    obtain⟨o,ho,Hs,J,H⟩:=UB E hi;have H0:i<m:=by
     rcases pe i m with h | h
     .exact h
     .rcases M with hc | hc
      .exact absurd (BO V hc E.size E.down H2 ho h H j Hp) Hb
      .omega
    have K:i<Lb.size:=by rw[E.size];exact Hs
    have Hx:all.toArray[i]?=some o:=by simpa using ho
    have Z:∀ j,m<=j->j<all.length->¬cj (Lb.setIfInBounds i true) j:=λj h1 h2 hl=>by
     rcases(wm K).1 hl with e | hl
     .omega
     .exact H2 j h1 h2 hl
    have Gb:=Xy K J;unfold wpOp;rw[Hx];simp only
    by_cases Hc:i=e
    .subst Hc
     rw[Y] at ho;cases ho;simp only[Region.wanted,N,oV];rcases hD with⟨_,hN⟩ | ⟨h1,_⟩
     .refine .inl (O (cj Lb) st hN (λt ht s hs hj=>hN.Xx V A rfl H0 Y H ht hs hj) β a w hm _ Q λa' w' st' β' e1 B=>?_)
      subst e1;exact US V A M H1 he Y N W hT G O T fuel _ _ β' a' w' B (.inr ⟨(wm K).2 (.inl rfl),hT.near hN (λj hj=>(wm K).1 hj) Y W⟩) (E.set Y H) Z (by omega)
     .exact absurd h1 J
    .obtain⟨hg,t,s,C,I,hp,hs⟩:=G i o H0 Hc ho
     simp only[Region.wanted,hg,oV];rcases hD with⟨h1,hN⟩ | ⟨h1,hN⟩
     .refine .inl (Am V A E hm hN H0 ho J H C hs hp _ Q λa' w' st' β' Hd B=>?_)
      refine US V A M H1 he Y N W hT G O T fuel _ _ β' a' w' B (.inl ⟨λhl=>?_,Hd⟩) (E.set ho H) Z (by omega)
      rcases(wm K).1 hl with e1 | e1
      .exact Hc e1.symm
      .exact h1 e1
     .rcases I with⟨f',hw⟩ | ⟨G2,Ga⟩
      .exact absurd (BM E.down f' h1 hw) J
      .refine .inl (Am V A E hm hN H0 ho J H C Ga G2 _ Q λa' w' st' β' Hd B=>?_)
       exact US V A M H1 he Y N W hT G O T fuel _ _ β' a' w' B (.inr ⟨(wm K).2 (.inr h1),Hd⟩) (E.set ho H) Z (by omega)
theorem An(S:St)(id d:Nat)(ob:am):lj S ((S.aV id ob).put (some d) (.ar id)) d (.ar id) (zA id) (λst=>(st.aV id ob).put (some d) (.ar id)) where
 junk:=rfl
 iO:=by simp[St.put,zc]
 ay:=λt s G hs=>by
  have H:¬d=t:=λe=>G e.symm
  simp only[St.put,St.aV,zc,ge H,Xv] at hs;cases F:zc S.af t with
  |none=>rw[F] at hs;cases hs
  |some s0=>rw[F] at hs;simp only[oL,pB] at hs;exact⟨s0,rfl,hs⟩
 go:=λst E K J L h5=>by
  refine⟨E,K,J,by simp[St.put,St.aV,L],by simp[St.put,St.aV,h5],λt=>?_⟩
  by_cases e:t=d
  .subst e;simp[St.put,zc]
  .have e':¬d=t:=λe2=>e e2.symm
   simp[St.put,St.aV,zc,e,e',Xv]
theorem zqp(S:St)(d:Nat)(o0 ob:am):lj S (((S.new o0).aV S.next ob).put (some d) (.ar S.next)) d (.ar S.next) (zA S.next) (λst=>((st.new o0).aV st.next ob).put (some d) (.ar st.next)) where
 junk:=rfl
 iO:=by simp[St.put,zc]
 ay:=λt s G hs=>by
  have H:¬d=t:=λe=>G e.symm
  simp only[St.put,St.aV,St.new,zc,ge H,Xv] at hs;cases F:zc S.af t with
  |none=>rw[F] at hs;cases hs
  |some s0=>rw[F] at hs;simp only[oL,pB] at hs;exact⟨s0,rfl,hs⟩
 go:=λst E K J L M=>by
  refine⟨E,K,by simp[St.put,St.aV,St.new,J],by simp[St.put,St.aV,St.new,L,J],by simp[St.put,St.aV,St.new,M,J],λt=>?_⟩
  by_cases e:t=d
  .subst e;simp[St.put,zc,J]
  .have e':¬d=t:=λe2=>e e2.symm
   simp[St.put,St.aV,St.new,zc,e,e',Xv,J]
theorem Ao{K:St->Prop}{o:Oper}(H:all.length=m+1)(G:all[m]?=some o)(F:o.guard=none)(h:∀ X w0 β a w,ax X w0 S1 β a w->br P X w0 o a w K):eR P all K m S1:=by
 refine .mG K (by omega) (.inr H.symm) ?_ λst' hk=>?_
 .intro X w0 β a w E N Q J
  unfold wpOp;have:all.toArray[m]?=some o:=by simpa using G
  rw[this];simp only[Region.wanted,F,oV];exact .inl (h X w0 β a w E N Q J)
 .rw[<-H];exact .done hk
theorem E7(M:P.follows .mixedOrders=true)(m e:Nat)(S S1:St)(d:Nat)(sd:ah)(f:ah->ah)(F:St->St)(oe:Oper){id:Nat}{ops:List Oper}{st:St}{Q:DE->St->Prop}(Y:yO ops=true)(A:Vb ops m=true)(G:(Nat.beq m ops.length || vF ops m)=true)(Z:Nat.ble m ops.length=true)
  (he:Nat.blt e m=true) (B:ops[e]?=some oe) (C:oe.guard=none) (I:oe.dst=some d) (h0:∀ X w0 β a w,ax X w0 st β a w->fD ops m S (λ_=>False) st) (hT:lj S S1 d sd f F)
  (J:∀ i o,i<m->i≠e->ops[i]?=some o->E6 P ops S S1 oe e i o)
  (O:∀ X w0 L st,fD ops m S L st->(∀ t∈aX ops oe,∀ s,zc S.af t=some s->s≠.junk->zc st.af t=some s)->∀ β a w,ax X w0 st β a w->br P X w0 oe a w (λst'=>st'=F st))
  (h:eR P ops (Q .normal) m S1):aT P (.region id ops.toArray true) Q st:=by
 intro X w0 β a w hm
 rw[so] at Z
 have he:e<m:=by simpa using he
 have G:vF ops m=true\/m=ops.length:=by
  rw[oS,bm] at G;exact G.elim .inr .inl
 refine wp_region_any M ?_
 have N:ax X w0 st β a {w with drawn:=w.drawn+1}:=by
  have hb:Below w.heap.size w {w with drawn:=w.drawn+1}:=⟨⟨rfl,rfl,rfl,nJ _,λ_ _=>rfl⟩,λ_=>rr _⟩
  have:=hm.put hb (dst:=none) (s:=.junk) (v:=undef) (by simp) (by simp[ah.lo]) (by simp[Sm])
  simpa[St.put,Act.put] using this
 have H:∀ j,j<ops.length->¬cj (Array.replicate ops.toArray.size false) j:=by
  intro j hj h;unfold cj at h;simp[Array.getD,hj] at h
 have E:=h0 X w0 β a w hm
 refine US (P:=P) (X:=X) (w0:=w0) Y A G Z he B C I hT J (O X w0) ?_ _ _ st β a _ N (.inl ⟨H e (by omega),?_⟩) ⟨by simp,?_⟩ (λj _ hj=>H j hj) ?_
 .intro β a w Lb' T V W fuel hf
  exact BP (P:=P) (X:=X) (w0:=w0) Y (K:=Q .normal) (λa w st' β hk T=>⟨.normal,st',β,trivial,hk,T⟩) h β a w Lb' T V W fuel hf
 .exact⟨E.n,E.ai,E.next,E.aA,E.own,λt s hs hj hL=>E.lQ t s hs hj λi o hi ho hd=>absurd (hL i o hi ho hd) (H i (by omega))⟩
 .intro j y hj hl
  exact absurd hl (H j (nN.1 hj).1)
 .simp[left]
end
end Go.V
namespace Go.V
variable [Dr] [Ov]
open Go.RowKit
def mW(aD:List Nat)(st:St):St:={st with own:=st.own.filter λx=>!aD.contains x.1}
def Ap(P:Program)(all:List Oper)(n0:Nat)(aD:List Nat):List Oper->St->List ah->(St->List ah->Prop)->Prop
 | [],st,ss,K=>K st ss
 |o::r,st,ss,K=>yp o.dst st.n=true/\wj P all o (mW aD st) (λs=>ah.lo n0 s/\Ap P all n0 aD r (st.put o.dst s) (s::ss) K)
section
variable {P:Program} {all:List Oper} {st:St} {Q:DE->St->Prop}
theorem Aq{f:Nat}{fn:Func}{c:Code}(J:P.funcs[f]?=some fn)(L:fn.body=some c)(H:aN P f=true){args:List ah}{own:List (Nat×am)}{n:Nat}{s:ah}{nx:Nat}{own':List (Nat×am)}{mv:List Nat}(M:ah.a_ n args)
  (h:ZL P c (cJ (fF P fn.results.toList n s nx own' mv)) (cz fn.ntmps args own n)):aU P f args own n s nx own' mv:=by
 refine⟨H,λX w0 β w vs hβ O hs=>?_⟩
 have E:w0.dF=[]:=O.defers.symm
 refine(callsIn_wide (n:=0)).1 (callsIn_of_wp_marks (F:=Fence.wide) (n:=0) J L trivial ?_)
 refine wpIn_mono (h X w0 _ _ w 0 (O.cz hs M)) ?_
 have ck:∀ {st' β' ms' a' w'},fF P fn.results.toList n s nx own' mv st'->MX X w0 ms' st' β' a' w'->LeavesInM Fence.wide 0 P fn a'.tmps (λe w'=>∃ β' v,e = .returned v/\ax X w0 (yW own' n nx mv) β' vv w'/\ah.lo nx s/\Sm w' (Ex X β' own') β' s v) a'.defers .returning w':=by
  intro bv β' ms' a' w' Q G;rw[G.defers,E,oq];refine E9 E G λa2 w2 ea K=>?_
  obtain⟨v,T,V,Y,Z⟩:=uD O.defers K Q;rw[<-ea];exact⟨v,T,β',v,rfl,V,Y,Z⟩
 rintro e a' w' ⟨de,st',β',ms',A,Q,G⟩
 cases e <;> cases de <;> simp only[yq] at A
 .exact ck Q G
 .exact Q.elim
 .exact ck Q G
attribute [simp] Ap mW
end
end Go.V
namespace Go.V
variable [Dr] [Ov]
open Go.RowKit
def Ar(P:Program)(f:Nat)(args:List D)(v:Value):Prop:=
 aN P f=true/\∀ (w:World) (E:Nat->Prop) (vs:List Value),fp w E->zI w E args vs->Calls P f vs.toArray w λe w'=>e = .panicked [{v,recovered:=false}]/\Below w.heap.size w w'
def Vd(P:Program):List Oper->St->(Value->St->Prop)->Prop
 | [],_,_=>False
 |o::r,st,K=>o.guard=none/\match r with
  | []=>∃ f xs ts g ds lent v,o.op = .call {callee:=.value f,args:=xs,argTypes:=ts}/\k7 st f xs.toList=some (g,ds,lent)/\Ar P g ds v/\K v st
  |_::_=>yz P o st (λst'=>Vd P r st' K)
section
variable {P:Program} {X:Nat->Prop} {w0:bz} {st:St} {β:Nat->Value} {a:Act} {w w':World} {Q:DE->St->Prop} {Qp:Value->St->Prop}
theorem As{all:List Oper}{N:Exit->Act->World->Prop}:∀ {l:List Oper} {st:St} {β:Nat->Value} {a:Act} {w:World} {K:Value->St->Prop},ax X w0 st β a w->Vd P l st K ->
  (∀ a' w' st' β' v,K v st'->ax X w0 st' β' a' w'->N (.panic [{v,recovered:=false}]) a' w')->wpList P all.toArray N l a w
 | [],st,β,a,w,K,Q,h,T=>h.elim
 |o::r,st,β,a,w,K,Q,h,T=>by
  unfold Vd at h;obtain⟨V,h⟩:=h;cases r with
  |nil=>
   obtain⟨f,xs,ts,g,ds,lent,v,Y,G,⟨H,Z⟩,A⟩:=h;unfold k7 at G;split at G
   .rename_i g' aJ B
    split at G
    .rename_i ds' b C
     simp at G
     obtain⟨rfl,rfl,rfl⟩:=G;obtain⟨cs,L,M⟩:=A6 Q B;have F:=zi.append (zi.Z4 Q xs.toList).1 M;obtain⟨I,hex⟩:=Xk Q C F;have E:(execOp a.eval o).run P w = .ok (.enter g' (xs.toList.map a.eval++cs).toArray) w:=by
      unfold aN at H;cases J:P.funcs[g']? with
      |none=>simp[J] at H
      |some fn=>
       simp[J] at H;have e1:¬fn.body=none:=by intro e;rw[e] at H;simp at H
       have e3:Array.map a.eval xs++cs.toArray=(List.map a.eval xs.toList++cs).toArray:=by simp
       rw[<-e3];simp[execOp,Y,resolve,L,Deferred.ofValue,invoke,callFunc,J,e1,H.1]
     refine wpList_step λN' hN'=>?_
     simp only[Region.wanted,V,oV];unfold Oper.wp;rw[E];simp only[Oper.upon];refine(Z w X _ Q.Ji I).mono λe w' S=>?_
     obtain⟨rfl,W⟩:=S;exact T _ _ st β v A (Q.grow (P:=P) W)
    .cases G
   .cases G
  |cons o2 r2=>
   refine wpList_step λN' hN'=>?_
   simp only[Region.wanted,V,oV];exact wi Q h N' _ λa' w' st' β' hk O=>hN' a' w' (As O hk T)
theorem Au{id:Nat}{ops:List Oper}(h:Vd P ops st Qp):k9 P (.region id ops.toArray false) Q Qp st:=λX w0 β a w G=>
 wp_region_list (As (all:=ops) G h λa' w' st' β' v F H=>.inr ⟨v,st',β',rfl,F,H⟩)
end
attribute [simp] Vd
end Go.V
namespace Go.V
variable [Dr] [Ov]
open Go.RowKit
section
variable {P:Program} {X:Nat->Prop} {w0:bz} {st:St} {β:Nat->Value} {a:Act} {w w':World} {Q:Exit->Act->List Frame->World->Prop} {ops:Array Oper} {cs cs':List Frame} {i:Nat} {aC:List Nat} {o:Oper}
theorem ziq{v:Value}(H:ops[i]?=some o)(G:o.guard=none)(F:(execOp a.eval o).run P w = .ok (.value v) w')(h:wpOpsS P ops Q aC (a.put o.dst v) cs w'):wpOpsS P ops Q (i::aC) a cs w:=by
 unfold wpOpsS
 rw[H]
 simp only[Region.wanted,G,oV]
 rw[F]
 exact h
theorem zdf{v:Value}(H:ops[i]?=some o)(G:o.guard=none)(F:(execOp a.eval o).run P w = .ok .recover w)(E:recoverD cs=some (v,cs'))(h:wpOpsS P ops Q aC (a.put o.dst v) cs' w):wpOpsS P ops Q (i::aC) a cs w:=by
 unfold wpOpsS
 rw[H]
 simp only[Region.wanted,G,oV]
 rw[F]
 simp only[E]
 exact h
theorem zsw(H:ops[i]?=some o)(G:o.guard=none)(h:Oper.wp P o a w (λa' w'=>wpOpsS P ops Q aC a' cs w') (λe a' w'=>Q e a' cs w')):wpOpsS P ops Q (i::aC) a cs w:=by
 unfold wpOpsS
 rw[H]
 simp only[Region.wanted,G,oV]
 unfold Oper.wp at h
 split
 .rename_i hr;rw[hr] at h;exact h.elim
 .exact h
def UT(P:Program):List Oper->St->(St->Prop)->Prop
 | [],st,K=>K st
 |o::r,st,K=>o.guard=none/\yz P o st (λst'=>UT P r st' K)
theorem Av{K:St->Prop}:∀ {l:List Oper} {k:Nat} {st:St} {β:Nat->Value} {a:Act} {w:World},ops.toList.drop k=l->ax X w0 st β a w->UT P l st K ->
  (∀ a' w' st' β',K st'->ax X w0 st' β' a' w'->Q .normal a' cs w')->wpOpsS P ops Q (List.range' k l.length) a cs w
 | [],k,st,β,a,w,G,F,h,hQ=>hQ a w st β h F
 |o::r,k,st,β,a,w,G,F,h,hQ=>by
  obtain⟨E,h⟩:=h;have J:ops[k]?=some o:=by
   have:=congrArg (λl:List Oper=>l[0]?) G
   simpa using this
  have L:ops.toList.drop (k+1)=r:=by
   have:=congrArg List.tail G
   simpa using this
  rw[nP,sS];refine zsw J E (wi F h _ _ λa' w' st' β' M H=>?_)
  exact Av L H M hQ
theorem zqq(G:P.follows .mixedOrders=true){g:Nat}{fn:Func}{id:Nat}{o0 o1:Oper}{r:List Oper}{c2:Code}(C:P.funcs[g]?=some fn)(I:fn.body=some (.seq (.region id (o0::o1::r).toArray false) c2))(H:aN P g=true){v:Value}{aJ:List ah}{own own':List (Nat×am)}{n t0 t1:Nat}{s:ah}{y:Value}
  (N:ah.a_ n aJ) (g0:o0.guard=none) (g1:o1.guard=none) (d0:o0.dst=some t0) (d1:o1.dst=some t1) (Z:t0<fn.ntmps) (B:t1<fn.ntmps)
  (J:∀ (a:Act) (w:World),(execOp a.eval o0).run P w = .ok .recover w) (L:∀ (a:Act) (w:World),a.eval (.tmp t0)=v->(execOp a.eval o1).run P w = .ok (.value y) w)
  (hs:ah.lo n s) (S:∀ w E β,Sm w E β s y) (M:fn.results = #[])
  (h:UT P r {(cz fn.ntmps aJ own n) with af:=(t1,s)::(t0,.junk)::(cz fn.ntmps aJ own n).af} (λst=>ev P c2 (cJ (fF P [] n (.bE []) n own' [])) st)):E5 P g v aJ own own' n:=by
 refine⟨H,λX w0 β w vs hβ W O=>?_⟩
 refine callsD_of_wpS C I λc₀ cs hu=>?_
 have Q:=W.cz (ntmps:=fn.ntmps) O N
 apply wpS_seq
 apply wpS_region
 have T:(o0::o1::r).toArray.size=r.length+2:=by simp
 rw[T,tJ,sS,sS]
 refine zdf (v:=v) (cs':={c₀ with mode:=.panicking [{v,recovered:=true}]}::cs) (by simp) g0 (J _ _) (by simp[recoverD,hu]) ?_
 have m1:=Q.yH (dst:=some t0) (s:=.junk) (v:=v) (λt e=>by cases e;show t0<aJ.length+(fn.ntmps-aJ.length);omega) (by simp[ah.lo]) (by simp[Sm])
 have V:fn.ntmps<=(vs.toArray++Array.replicate (fn.ntmps-vs.toArray.size) undef).size:=by simp;omega
 rw[d0]
 refine ziq (v:=y) (by simp) g1 (L _ _ ?_) ?_
 .have F:t0<(vs.toArray++Array.replicate (fn.ntmps-vs.toArray.size) undef).size:=by omega
  generalize (vs.toArray++Array.replicate (fn.ntmps-vs.toArray.size) undef)=A at F ⊢;simp[Act.put,Act.eval,F]
 have m2:=m1.yH (dst:=some t1) (s:=s) (v:=y) (λt e=>by cases e;show t1<aJ.length+(fn.ntmps-aJ.length);omega) hs (S _ _ _)
 rw[d1]
 refine Av (k:=2) (by simp) m2 h λa' w' st' β' hk Y=>?_
 refine wpS_of_wp (wp_mono (bF G hk _ _ _ _ _ Y) ?_)
 rintro e a2 w2 ⟨de,fK,β2,he,hq,K⟩
 have ck:fF P [] n (.bE []) n own' [] fK->bodyPostS P fn c₀ cs (λe u' w'=>e = .returned (.tuple #[])/\u' = .panicking [{v,recovered:=true}]/\∃ β',ax X w0 (yW own' n n []) β' vv w') .ret a2 ({c₀ with mode:=.panicking [{v,recovered:=true}]}::cs) w2:=by
  intro hq;obtain⟨u,h1,h2,h3,h4⟩:=uD (fn:=fn) W.defers K (by rw[M];exact hq)
  simp only[Sm,zi] at h4;obtain⟨us,rfl,rfl⟩:=h4;exact⟨K.defers.trans W.defers.symm,_,rfl,_,h1,rfl,rfl,β2,h2⟩
 cases e <;> cases de <;> simp only[yq] at he
 .exact ck hq
 .exact hq.elim
 .exact ck hq
end
attribute [simp] UT
end Go.V

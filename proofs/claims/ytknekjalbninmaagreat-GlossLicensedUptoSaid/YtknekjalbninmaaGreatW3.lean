/- A program logic of my own over the kit: part W3. It needs no conditions. -/
import Derived.Test.YtknekjalbninmaaGreatW2
set_option linter.unusedVariables false
set_option linter.unusedSimpArgs false
set_option linter.unusedSectionVars false
namespace Go.V
variable [Dr] [Ov]
open Go.RowKit
def wP:List Int->List Sym->Int->Option Sym
 |k::ks,c::cs,n=>if k=n then some c else wP ks cs n
 |_,_,_=>none
def qX:List Int->List Sym->Int->Sym->List Int×List Sym
 |k::ks,c::cs,n,s=>if k=n then (k::ks,s::cs) else (k::(qX ks cs n s).1,c::(qX ks cs n s).2)
 |_,_,n,s=>([n],[s])
section
variable {P:Program} {X:Nat->Prop} {w0:Base} {st:St} {β:Nat->Value} {a:Act} {w w':World} {E:Nat->Prop}
theorem NI{u:TypeDesc}{n:Int}(w:World)(H:vP (xG P u) (.int .i64 n)=true)(k:Int):Instr.sameNow u (.int .i64 n) (.int .i64 k)=some (decide (n=k)):=
 (Xq (P:=P) (w:=w) (E:=λ_=>False) H (by simp[R]) (y:=.int .i64 k) (by simp[R]) (by simp[uu])).1
theorem NJ{u:TypeDesc}{n:Int}(H:vP (xG P u) (.int .i64 n)=true):∀ {keys:List Int} {cells:List Sym} {es:List MapEntry} {i:Nat},es.map (·.key)=keys.map (λk=>Value.int .i64 k)->zh w E β cells (es.map (·.val)) ->
  match wP keys cells n with
  |none=>Instr.findNow u (.int .i64 n) es i=some none
  |some c=>∃ j t,Instr.findNow u (.int .i64 n) es i=some (some (j,t))/\Sm w E β c t
 | [],cells,es,i,G,F=>by
  have:es=[]:=by simpa using G
  subst this;simp only[wP];rfl
 |k::ks,cells,es,i,G,F=>by
  cases es with
  |nil=>simp at G
  |cons e es=>
   simp only[List.map_cons,List.cons.injEq] at G;simp only[List.map_cons] at F;cases cells with
   |nil=>simp[zh] at F
   |cons c cs=>
    simp only[zh] at F;obtain⟨v,vs',K,J,L⟩:=F;obtain⟨rfl,rfl⟩:=List.cons.inj K;have hs:=NI (P:=P) w H k;rw[<-G.1] at hs;simp only[wP];by_cases M:k=n
    .rw[if_pos M]
     rw[decide_eq_true M.symm] at hs;exact⟨i,e.val,by simp[Instr.findNow,hs],J⟩
    .rw[if_neg M]
     rw[decide_eq_false (Ne.symm M)] at hs;have ih:=NJ H (i:=i+1) G.2 L;cases O:wP ks cs n with
     |none=>rw[O] at ih;simpa[Instr.findNow,hs] using ih
     |some d=>rw[O] at ih;simpa[Instr.findNow,hs] using ih
theorem NK{m:Nat}{n:Int}{c:Sym}:∀ {keys:List Int} {cells:List Sym},Sym.los m cells->wP keys cells n=some c->Sym.lo m c
 | [],cells,_,h=>by simp[wP] at h
 |k::ks,[],_,h=>by simp[wP] at h
 |k::ks,x::cs,H,h=>by
  simp only[Sym.los] at H;simp only[wP] at h;split at h
  .cases h;exact H.1
  .exact NK H.2 h
theorem NL{m:Nat}{n:Int}{s:Sym}(hs:Sym.lo m s):∀ {keys:List Int} {cells:List Sym},Sym.los m cells->Sym.los m (qX keys cells n s).2
 | [],cells,_=>by simp[qX,Sym.los,hs]
 |k::ks,[],_=>by simp[qX,Sym.los,hs]
 |k::ks,x::cs,hl=>by
  simp only[Sym.los] at hl;simp only[qX];split
  .simp only[Sym.los];exact⟨hs,hl.2⟩
  .simp only[Sym.los];exact⟨hl.1,NL hs hl.2⟩
theorem NN{u:TypeDesc}{n:Int}{s:Sym}{t:Value}(H:vP (xG P u) (.int .i64 n)=true)(hs:Sm w E β s t):∀ {keys:List Int} {cells:List Sym} {es:List MapEntry} {i:Nat},es.map (·.key)=keys.map (λk=>Value.int .i64 k)->zh w E β cells (es.map (·.val)) ->
  (Instr.findNow u (.int .i64 n) es i=some none/\∀ c,(es++[({key:=.int .i64 n,val:=t,born:=c}:MapEntry)]).map (·.key)=(qX keys cells n s).1.map (λk=>Value.int .i64 k)/\zh w E β (qX keys cells n s).2 ((es++[({key:=.int .i64 n,val:=t,born:=c}:MapEntry)]).map (·.val))) \/
  (∃ j e,Instr.findNow u (.int .i64 n) es i=some (some (i+j,e.val))/\es[j]?=some e/\e.key = .int .i64 n/\(es.modify j λe:MapEntry=>{e with key:=.int .i64 n,val:=t}).map (·.key)=(qX keys cells n s).1.map (λk=>Value.int .i64 k) /\
   zh w E β (qX keys cells n s).2 ((es.modify j λe:MapEntry=>{e with key:=.int .i64 n,val:=t}).map (·.val)))
 | [],cells,es,i,G,F=>by
  have:es=[]:=by simpa using G
  subst this;refine .inl ⟨rfl,λc=>?_⟩
  simp only[qX,List.nil_append,List.map_cons,List.map_nil,true_and];simp only[zh];exact⟨t,[],rfl,hs,rfl⟩
 |k::ks,cells,es,i,G,F=>by
  cases es with
  |nil=>simp at G
  |cons e es=>
   simp only[List.map_cons,List.cons.injEq] at G;simp only[List.map_cons] at F;cases cells with
   |nil=>simp[zh] at F
   |cons c cs=>
    simp only[zh] at F;obtain⟨v,vs',K,J,L⟩:=F;obtain⟨rfl,rfl⟩:=List.cons.inj K;have hsn:=NI (P:=P) w H k;rw[<-G.1] at hsn;simp only[qX];by_cases M:k=n
    .rw[if_pos M]
     rw[decide_eq_true M.symm] at hsn;subst M;refine .inr ⟨0,e,by simp[Instr.findNow,hsn],by simp,G.1,?_,?_⟩
     .simp only[List.modify_zero_cons,List.map_cons,G.2]
     .simp only[List.modify_zero_cons,List.map_cons,zh]
      exact⟨t,_,rfl,hs,L⟩
    .rw[if_neg M]
     rw[decide_eq_false (Ne.symm M)] at hsn;rcases NN H hs (i:=i+1) G.2 L with⟨q1,q2⟩ | ⟨j,e',q1,q2,q3,q4,q5⟩
     .refine .inl ⟨by simpa[Instr.findNow,hsn] using q1,λb=>?_⟩
      obtain⟨p1,p2⟩:=q2 b;refine⟨by simp only[List.cons_append,List.map_cons,p1,G.1],?_⟩
      simp only[List.cons_append,List.map_cons,zh];exact⟨_,_,rfl,J,p2⟩
     .refine .inr ⟨j+1,e',?_,by simpa using q2,q3,?_,?_⟩
      .simp only[Instr.findNow,hsn];rw[q1];congr 3;omega
      .simp only[List.modify_succ_cons,List.map_cons,q4,G.1]
      .simp only[List.modify_succ_cons,List.map_cons,zh]
       exact⟨_,_,rfl,J,q5⟩
theorem Mods.mq0(G:Mods X w0 st β a w){id T:Nat}(h:st.look id=some (.map T [])):Mods X w0 {st with own:=zV id (.raw (.mq []) []) st.own} β a w:=by
 obtain⟨_,_,r,es,clock,F,E,K,H⟩:=G.obj h
 refine G.update h (b:=r) (by rw[F];rfl) E (λ_ _=>rfl) rfl rfl rfl rfl (jg.refl _) (by simp[Obj'.lo,Sym.los]) ?_
 simp only[yH] at H
 exact⟨r,0,0,[],F,E,⟨es,clock,K,by rw[H];rfl,by rw[H];rfl⟩,by simp[zh]⟩
theorem NP{w:World}{E:Nat->Prop}{β:Nat->Value}:∀ {keys:List Int} {ds:List D} {es:List MapEntry},es.map (·.key)=keys.map (λk=>Value.int .i64 k)->zh w E β (ds.map .d) (es.map (·.val))->yH w E ((keys.zip ds).map λp=>[D.int .i64 p.1,p.2]) es
 | [],ds,es,H,G=>by
  have:es=[]:=by simpa using H
  subst this;simp[yH]
 |k::ks,ds,es,H,G=>by
  cases es with
  |nil=>simp at H
  |cons e es=>
   simp only[List.map_cons,List.cons.injEq] at H;simp only[List.map_cons] at G;cases ds with
   |nil=>simp[zh] at G
   |cons d ds=>
    simp only[List.map_cons,zh] at G;obtain⟨v,vs',F,K,J⟩:=G;obtain⟨rfl,rfl⟩:=List.cons.inj F;simp only[List.zip_cons_cons,List.map_cons,yH,zH];simp only[Sm] at K;exact⟨e,es,rfl,⟨_,_,rfl,by rw[H.1];simp[R],_,_,rfl,K,rfl⟩,NP H.2 J⟩
theorem Mods.mqD(H:Mods X w0 st β a w){id T:Nat}{keys:List Int}{ds:List D}(h:st.look id=some (.raw (.mq keys) (ds.map .d))):
  Mods X w0 {st with own:=zV id (.map T ((keys.zip ds).map λp=>[D.int .i64 p.1,p.2])) st.own} β a w:=by
 obtain⟨_,_,r,fn,D',vs,G,F,⟨es,clock,E,K,J⟩,hs⟩:=H.obj h
 subst J
 exact H.update h (b:=r) (by rw[G];rfl) F (λ_ _=>rfl) rfl rfl rfl rfl (jg.refl _) trivial ⟨r,es,clock,G,F,E,NP K hs⟩
theorem NQ(hm:Mods X w0 st β a w){o:Oper}{t:Nat}{m x:Operand}(ho:o.op = .lookup t m x false)(hd:∀ t,o.dst=some t->t<st.n){id:Nat}{keys:List Int}{cells:List Sym}{n:Int}
  (Z:st.val m = .mp id) (A:st.look id=some (.raw (.mq keys) cells)) (hx:st.val x = .d (.int .i64 n)) {kt et:Nat} {tk te:TI} (hu:P.underlying t=some (.map kt et)) (hk:TI.of P kt=some tk) (he:TI.of P et=some te)
  (H:vP tk.kind (.int .i64 n)=true) (hz:te.zero=[.slice none 0 0]) (B:te.agg=false) (C:V6 P et=true) {K:St->Prop} (hK:K (st.put o.dst ((wP keys cells n).getD .nils))):Goes P X w0 o a w K:=by
 obtain⟨ik,uk,zk,H1,M,Hc,I,_⟩:=y4 hk
 obtain⟨ie,ue,ze,T,Hi,V,_⟩:=y4 he
 rw[I] at H
 obtain⟨_,N,r,fn,D',vs,h1,hN,⟨es,clock,hh,S,W⟩,hs⟩:=hm.obj A
 subst W
 have O:=(hm.val m).2
 rw[Z] at O;simp only[Sm] at O
 have J:=(hm.val x).2
 rw[hx] at J;simp only[Sm,R] at J
 have F:a.eval m = .map (some r):=by rw[O,h1];rfl
 have H0:MapKept.IsKey uk (a.eval x):=Xp (w:=w) (E:=λ_=>False) H (by simp only[R];exact J)
 have Y:=λe=>MapKept.run_checkKey (P:=P) (w:=w) M H0 e 9999
 have hg:=NJ (P:=P) H (i:=0) S hs
 rw[<-J] at hg
 cases Q:wP keys cells n with
 |none=>
  rw[Q] at hg hK;have G:(Instr.lookup t (a.eval m) (a.eval x) false).run P w = .ok ze w:=by
   simp[Instr.lookup,run_underlying hu,F,MapKept.run_getObj_map hh,Y,MapKept.run_findKey M hg,zeroValue,typeInfo,T,V]
  have L:=II he T V C;rw[if_neg (by rw[B];decide)] at L
  have L:=L _ hz;subst L;exact Goes.yR (v:=.slice none 0 0) (w':=w) (by simp[execOp,ho,G]) hK (hm.yC hd (by simp[Sym.lo]) (by simp[Sm]))
 |some c=>
  rw[Q] at hg hK;obtain⟨j,t',hf,hc⟩:=hg;have G:(Instr.lookup t (a.eval m) (a.eval x) false).run P w = .ok t' w:=by
   simp[Instr.lookup,run_underlying hu,F,MapKept.run_getObj_map hh,Y,MapKept.run_findKey M hf]
  exact Goes.yR (v:=t') (w':=w) (by simp[execOp,ho,G]) hK (hm.yC hd (NK N Q) hc)
theorem NR(hm:Mods X w0 st β a w){o:Oper}{t:Nat}{m x v:Operand}(ho:o.op = .mapUpdate t m x v)(hd:o.dst=none){id:Nat}{keys:List Int}{cells:List Sym}{n:Int}
  (B:st.val m = .mp id) (O:st.look id=some (.raw (.mq keys) cells)) (hx:st.val x = .d (.int .i64 n)) {kt et:Nat} {tk:TI} (hu:P.underlying t=some (.map kt et)) (hk:TI.of P kt=some tk)
  (G:vP tk.kind (.int .i64 n)=true) {K:St->Prop} (hK:K {st with own:=zV id (.raw (.mq (qX keys cells n (st.val v)).1) (qX keys cells n (st.val v)).2) st.own}):Goes P X w0 o a w K:=by
 obtain⟨ik,uk,zk,Hs,Q,Go,C,_⟩:=y4 hk
 rw[C] at G
 obtain⟨_,I,r,fn,D',vs,h1,hN,⟨es,clock,hh,N,S⟩,hs⟩:=hm.obj O
 subst S
 have T:=(hm.val m).2
 rw[B] at T;simp only[Sm] at T
 have H:=(hm.val x).2
 rw[hx] at H;simp only[Sm,R] at H
 obtain⟨W,H0⟩:=hm.val v
 have J:a.eval m = .map (some r):=by rw[T,h1];rfl
 have Z:MapKept.IsKey uk (a.eval x):=Xp (w:=w) (E:=λ_=>False) G (by simp only[R];exact H)
 have A:=MapKept.run_checkKey (P:=P) (w:=w) Q Z false 9999
 have L:=NL (n:=n) (keys:=keys) W I
 have fin:∀ es' clock',(Instr.mapUpdate t (a.eval m) (a.eval x) (a.eval v)).run P w = .ok () {w with heap:=w.heap.setIfInBounds r (.map es' clock')} ->
   es'.toList.map (·.key)=(qX keys cells n (st.val v)).1.map (λk=>Value.int .i64 k)->zh w (Ex X β st.own) β (qX keys cells n (st.val v)).2 (es'.toList.map (·.val))->Goes P X w0 o a w K:=by
  intro es' clock' V Y H1;have F:=MapKept.heap_set (o':=.map es' clock') hh;have Hc:Ex X β st.own r:=.inr ⟨id,_,yZ O,by rw[h1];rfl⟩
  have Hi:=Xv (w':={w with heap:=w.heap.setIfInBounds r (.map es' clock')}) Hc (λc hc=>F.2 c hc)
  refine Goes.Wy (β':=β) (w':={w with heap:=w.heap.setIfInBounds r (.map es' clock')}) ?_ hK ?_
  .simp[execOp,ho,V]
  .have M:(a.put o.dst undef)=a:=by rw[hd];rfl
   rw[M];refine hm.update O (b:=r) (by rw[h1];rfl) hN (λc hc=>F.2 c hc) (by simp) rfl rfl rfl (λ_=>by simp) L ?_
   exact⟨r,0,0,_,h1,hN,⟨es',clock',F.1,Y,rfl⟩,zh.over (m:=st.next) (λ_ _=>rfl) Hi L H1⟩
 rcases NN (P:=P) G H0 (i:=0) N hs with⟨q1,q2⟩ | ⟨j,e,q1,q2,q3,q4,q5⟩
 .rw[<-H] at q1
  have q2c:=q2 clock;refine fin (es.push {key:=a.eval x,val:=a.eval v,born:=clock}) (clock+1) ?_ (by rw[H];simpa using q2c.1) (by rw[H];simpa using q2c.2)
  simp[Instr.mapUpdate,run_underlying hu,J,MapKept.run_getObj_map hh,A,MapKept.run_findKey Q q1,MapKept.run_setObj_map _ hh]
 .rw[<-H] at q1 q3
  have hj:es[j]?=some e:=by simpa using q2
  refine fin (es.modify j λe=>{e with key:=a.eval x,val:=a.eval v}) clock ?_ (by rw[H];simpa using q4) (by rw[H];simpa using q5)
  simp[Instr.mapUpdate,run_underlying hu,J,MapKept.run_getObj_map hh,A,MapKept.run_findKey Q q1,hj,q3,MapKept.run_keyThatStays Z,MapKept.run_setObj_map _ hh]
end
end Go.V
namespace Go.V
variable [Dr] [Ov]
open Go.RowKit
structure Near(all:List Oper)(m:Nat)(S:St)(L:Nat->Prop)(st:St):Prop where
 n:st.n=S.n
 base:st.base=S.base
 next:st.next=S.next
 moved:st.moved=S.moved
 own:st.own=S.own
 slot:∀ t s,zc S.slots t=some s->s≠.junk->(∀ i o,i<m->all[i]?=some o->o.dst=some t->L i)->zc st.slots t=some s
def Kn(P:Program)(S:St)(o:Oper)(s:Sym):Prop:=Zp S.val o.op=true/\vm P S.look S.val o.op (λs'=>s'=s)
def Ko(P:Program)(all:List Oper)(S:St)(o:Oper)(s:Sym):Prop:=∀ (X:Nat->Prop) (w0:Base) (st:St) (β:Nat->Value) (a:Act) (w:World),st.n=S.n->st.next=S.next->st.own=S.own ->
 (∀ t∈tmpsOf all o,∀ s,zc S.slots t=some s->s≠.junk->zc st.slots t=some s)->Mods X w0 st β a w->Goes P X w0 o a w (λst'=>st'=st.put o.dst s)
def Q0(all:List Oper)(m:Nat):Bool:=(List.range m).all λi=>(List.range m).all λj=>Nat.blt j i || (match all[i]?,(all[j]?).bind (·.dst) with
 |some o,some t=>!(tmpsOf all o).contains t
 |_,_=>true)
section
variable {P:Program} {X:Nat->Prop} {w0:Base} {st S S1:St} {β:Nat->Value} {a:Act} {w w':World} {all:List Oper} {Lb:Array Bool} {m:Nat}
theorem Near.full{L:Nat->Prop}(h:Near all m S L st)(H:∀ i,i<m->L i)(G:Mods X w0 st β a w):Mods X w0 S β a w:=by
 obtain⟨F,E,K,J,M,O⟩:=h
 obtain⟨q1,q2,q3,q4,q5,q6,q7,q8,q9,q10⟩:=G
 rw[E,K,J] at q2
 rw[F] at q5
 rw[M] at q7 q8 q9 q10
 rw[K] at q8 q10
 refine⟨q1,q2,q3,q4,q5,q6,q7,q8,q9,λt s hs=>?_⟩
 by_cases hj:s = .junk
 .subst hj;exact⟨by simp[Sym.lo],by simp[Sm]⟩
 .exact q10 t s (O t s hs hj λi _ hi _ _=>H i hi)
theorem zjy(h:Q0 all m=true){i j t:Nat}{o y:Oper}(hi:i<m)(hj:j<m)(H:all[i]?=some o)(G:all[j]?=some y)(F:y.dst=some t)(E:t∈tmpsOf all o):j<i:=by
 unfold Q0 at h
 have:=List.all_eq_true.1 (List.all_eq_true.1 h i (List.mem_range.2 hi)) j (List.mem_range.2 hj)
 rw[H,G] at this
 simp only[Option.bind_some,F,Bool.or_eq_true] at this
 rcases this with e | e
 .simpa using e
 .simp[E] at e
theorem Near.Ym{L:Nat->Prop}(G:yT all=true)(F:Q0 all m=true)(M:L=lst Lb)(h:Near all m S L st){i:Nat}{o:Oper}(hi:i<m)(O:all[i]?=some o)(H:∀ e∈o.after.toList,Region.binds .any e=true->Lb.getD e.on false=true){t:Nat}(Q:t∈tmpsOf all o)
  {s:Sym} (hs:zc S.slots t=some s) (hj:s≠.junk):zc st.slots t=some s:=by
 refine h.slot t s hs hj λj y E T V=>?_
 have K:=zjy F hi E O T V Q
 obtain⟨e,X,Y,J⟩:=Zr (((ki G T O K).1 t V).1 Q)
 have:=H e X Y
 rw[J] at this
 rw[M];exact gu this
theorem Kn.step{o:Oper}{s:Sym}(Y:∀ t,o.dst=some t->t<S.n)(J:Sym.lo S.next s)(Z:Kn P S o s):Ko P all S o s:=by
 intro X w0 st β a w A B F H C
 let st1:St:={st with slots:=seen all o S}
 have L:Mods X w0 st1 β a w:=by
  refine⟨C.outer,C.still,C.one,C.defers,C.size,C.below,C.keys,C.own,C.apart,?_⟩
  intro t s' I;obtain⟨q1,q2⟩:=Zq I;by_cases hj:s' = .junk
  .subst hj;exact⟨by simp[Sym.lo],by simp[Sm]⟩
  .exact C.slots t s' (H t q1 s' q2 hj)
 have E:∀ x∈o.op.operands,S.val x=st1.val x:=by
  intro x M;cases x with
  |tmp t=>
   simp only[St.val];have K:t∈tmpsOf all o:=XQ M
   cases W:zc S.slots t with
   |some s'=>rw[show zc st1.slots t=some s' from Vy K W]
   |none=>
    cases O:zc st1.slots t with
    |none=>rfl
    |some s'=>have:=(Zq O).2;rw[W] at this;cases this
  |_=>rfl
 have G:S.look=st1.look:=by funext id;simp only[St.look,st1,F]
 have h3:=FD E Z.2
 rw[G] at h3
 intro N Q T
 refine Vl L o h3 N Q λs' v w' e W hb V=>?_
 subst e
 exact T _ _ (st.put o.dst s') β rfl (C.put hb (λu hu=>by rw[A];exact Y u hu) (by rw[B];exact J) V)
theorem NS(K:yT all=true)(J:Q0 all m=true)(L:Stands all Lb)(V:Mods X w0 st β a w)(Y:Near all m S (lst Lb) st){i:Nat}{o:Oper}{t:Nat}{s:Sym}(hi:i<m)(Z:all[i]?=some o)(M:¬lst Lb i)
  (G:∀ e∈o.after.toList,Region.binds .any e=true->Lb.getD e.on false=true) (A:o.dst=some t) (hs:∀ s',zc S.slots t=some s'->s'≠.junk->s'=s) (B:Ko P all S o s) :
  Goes P X w0 o a w (λst'=>Near all m S (lst (Lb.setIfInBounds i true)) st'):=by
 have F:i<Lb.size:=by rw[L.size];exact(List.getElem?_eq_some_iff.1 Z).1
 intro N Q O
 refine B X w0 st β a w Y.n Y.next Y.own (λt C s hs hj=>Y.Ym K J rfl hi Z G C hs hj) V N Q λa' w' st' β' e hm'=>?_
 subst e
 refine O _ _ (st.put o.dst s) β' ?_ hm'
 have H:=K5 st o.dst s
 refine⟨H.2.2.1.trans Y.n,H.2.2.2.1.trans Y.base,H.2.1.trans Y.next,H.2.2.2.2.trans Y.moved,H.1.trans Y.own,λu s2 I hj W=>?_⟩
 rw[kZ]
 by_cases e:o.dst=some u
 .rw[if_pos e]
  rw[A] at e;cases e;rw[hs s2 I hj]
 .rw[if_neg e]
  refine Y.slot u s2 I hj λj y T hy E=>?_
  rcases(jl F).1 (W j y T hy E) with e2 | e2
  .subst e2;rw[Z] at hy;cases hy;exact absurd E e
  .exact e2
structure Turn(S S1:St)(d:Nat)(sd:Sym)(f:Sym->Sym)(F:St->St):Prop where
 junk:f .junk = .junk
 there:zc S1.slots d=some sd
 look:∀ t s,t≠d->zc S1.slots t=some s->∃ s0,zc S.slots t=some s0/\f s0=s
 go:∀ st,st.n=S.n->st.base=S.base->st.next=S.next->st.moved=S.moved->st.own=S.own ->
  (F st).n=S1.n/\(F st).base=S1.base/\(F st).next=S1.next/\(F st).moved=S1.moved/\(F st).own=S1.own/\∀ t,zc (F st).slots t=if t=d then some sd else (zc st.slots t).map f
theorem Turn.near{d:Nat}{sd:Sym}{f:Sym->Sym}{F:St->St}{L L':Nat->Prop}{e:Nat}{oe:Oper}(h:Turn S S1 d sd f F)(J:Near all m S L st)(M:∀ j,L' j->j=e\/L j)(G:all[e]?=some oe)(O:oe.dst=some d):Near all m S1 L' (F st):=by
 obtain⟨g1,g2,g3,g4,g5,g6⟩:=h.go st J.n J.base J.next J.moved J.own
 refine⟨g1,g2,g3,g4,g5,λt s hs hj E=>?_⟩
 rw[g6]
 by_cases e1:t=d
 .subst e1;rw[if_pos rfl,<-h.there,hs]
 .rw[if_neg e1]
  obtain⟨s0,Q,T⟩:=h.look t s e1 hs;have K:s0≠.junk:=λe2=>hj (by rw[<-T,e2,h.junk])
  have:=J.slot t s0 Q K λi y hi V H=>by
   rcases M i (E i y hi V H) with e2 | e2
   .subst e2;rw[G] at V;cases V;rw[O] at H;cases H;exact absurd rfl e1
   .exact e2
  rw[this,Option.map_some,T]
def D9(P:Program)(all:List Oper)(S S1:St)(oe:Oper)(e i:Nat)(o:Oper):Prop:=
 o.guard=none/\∃ t s,o.dst=some t/\((∃ f,gq all f e i=true)\/(Ko P all S1 o s/\∀ s',zc S1.slots t=some s'->s'≠.junk->s'=s))/\Ko P all S o s/\∀ s',zc S.slots t=some s'->s'≠.junk->s'=s
theorem qu{oe o:Oper}{e i t:Nat}{s:Sym}(G:o.guard=none)(F:o.dst=some t)(E:t<S.n)(H:Sym.lo S.next s)(K:Kn P S o s)(hs:zc S.slots t=some s)
  (late:(∃ f,gq all f e i=true)\/(t<S1.n/\Sym.lo S1.next s/\Kn P S1 o s/\zc S1.slots t=some s)):D9 P all S S1 oe e i o:=by
 have one:∀ s',some s=some s'->s'≠.junk->s'=s:=λs' h _=>by cases h;rfl
 refine⟨G,t,s,F,?_,K.step (λu hu=>by rw[F] at hu;cases hu;exact E) H,by rw[hs];exact one⟩
 rcases late with h | ⟨J,L,M,O⟩
 .exact .inl h
 .exact .inr ⟨M.step (λu hu=>by rw[F] at hu;cases hu;exact J) L,by rw[O];exact one⟩
theorem Kp(V:yT all=true)(A:Q0 all m=true)(M:vX all m=true\/m=all.length)(H1:m<=all.length){e d:Nat}{sd:Sym}{f:Sym->Sym}{F:St->St}{oe:Oper}(he:e<m)(Y:all[e]?=some oe)(N:oe.guard=none)(W:oe.dst=some d)
  (hT:Turn S S1 d sd f F)
  (G:∀ i o,i<m->i≠e->all[i]?=some o->D9 P all S S1 oe e i o)
  (O:∀ L st,Near all m S L st->(∀ t∈tmpsOf all oe,∀ s,zc S.slots t=some s->s≠.junk->zc st.slots t=some s)->∀ β a w,Mods X w0 st β a w->Goes P X w0 oe a w (λst'=>st'=F st))
  {Q:Exit->Act->World->Prop}
  (T:∀ β a w Lb',Mods X w0 S1 β a w->Stands all Lb'->(∀ j,j<all.length->(lst Lb' j↔j<m))->∀ fuel,left Lb'<=fuel->wpAny P .any all.toArray Q fuel Lb' a w) :
  ∀ (fuel:Nat) (Lb:Array Bool) (st:St) (β:Nat->_) (a:Act) (w:World),Mods X w0 st β a w->((¬lst Lb e/\Near all m S (lst Lb) st)\/(lst Lb e/\Near all m S1 (lst Lb) st))->Stands all Lb->(∀ j,m<=j->j<all.length->¬lst Lb j)->left Lb<=fuel ->
   wpAny P .any all.toArray Q fuel Lb a w
 |fuel,Lb,st,β,a,w,hm,hD,E,Hc,hf=>by
  by_cases hd:∀ j,j<m->lst Lb j
  .rcases hD with⟨F0,_⟩ | ⟨_,hN⟩
   .exact absurd (hd e he) F0
   .exact T β a w Lb (hN.full hd hm) E (λj hj=>⟨λhl=>by
     rcases Nat.lt_or_ge j m with h | h
     .exact h
     .exact absurd hl (Hc j h hj),hd j⟩) fuel hf
  .have hx:∃ j,j<m/\¬lst Lb j:=Classical.byContradiction λhn=>hd λj h2=>Classical.byContradiction λh3=>hn ⟨j,h2,h3⟩
   obtain⟨j,F1,Hi⟩:=hx;cases fuel with
   |zero=>have:=fS (Lb:=Lb) (by rw[E.size];omega) Hi;omega
   |succ fuel=>
    refine⟨λhr=>absurd (K2 V E.size hr j (by omega)) Hi,λi hi=>?_⟩
    obtain⟨o,ho,Fd,J,H⟩:=K7 E hi;have H0:i<m:=by
     rcases Nat.lt_or_ge i m with h | h
     .exact h
     .rcases M with hc | hc
      .exact absurd (FR V hc E.size E.down Hc ho h H j F1) Hi
      .omega
    have K:i<Lb.size:=by rw[E.size];exact Fd
    have Fk:all.toArray[i]?=some o:=by simpa using ho
    have Z:∀ j,m<=j->j<all.length->¬lst (Lb.setIfInBounds i true) j:=λj h1 h2 hl=>by
     rcases(jl K).1 hl with e | hl
     .omega
     .exact Hc j h1 h2 hl
    have Fr:=K8 K J;unfold wpOp;rw[Fk];simp only
    by_cases Hs:i=e
    .subst Hs
     rw[Y] at ho;cases ho;simp only[Region.wanted,N,if_true];rcases hD with⟨_,hN⟩ | ⟨h1,_⟩
     .refine .inl (O (lst Lb) st hN (λt ht s hs hj=>hN.Ym V A rfl H0 Y H ht hs hj) β a w hm _ Q λa' w' st' β' e1 B=>?_)
      subst e1;exact Kp V A M H1 he Y N W hT G O T fuel _ _ β' a' w' B (.inr ⟨(jl K).2 (.inl rfl),hT.near hN (λj hj=>(jl K).1 hj) Y W⟩) (E.set Y H) Z (by omega)
     .exact absurd h1 J
    .obtain⟨hg,t,s,C,I,hp,hs⟩:=G i o H0 Hs ho
     simp only[Region.wanted,hg,if_true];rcases hD with⟨h1,hN⟩ | ⟨h1,hN⟩
     .refine .inl (NS V A E hm hN H0 ho J H C hs hp _ Q λa' w' st' β' Go B=>?_)
      refine Kp V A M H1 he Y N W hT G O T fuel _ _ β' a' w' B (.inl ⟨λhl=>?_,Go⟩) (E.set ho H) Z (by omega)
      rcases(jl K).1 hl with e1 | e1
      .exact Hs e1.symm
      .exact h1 e1
     .rcases I with⟨f',hw⟩ | ⟨Fm,Fn⟩
      .exact absurd (FP E.down f' h1 hw) J
      .refine .inl (NS V A E hm hN H0 ho J H C Fn Fm _ Q λa' w' st' β' Go B=>?_)
       exact Kp V A M H1 he Y N W hT G O T fuel _ _ β' a' w' B (.inr ⟨(jl K).2 (.inr h1),Go⟩) (E.set ho H) Z (by omega)
theorem NT(S:St)(id d:Nat)(ob:Obj'):Turn S ((S.renew id ob).put (some d) (.ar id)) d (.ar id) (zA id) (λst=>(st.renew id ob).put (some d) (.ar id)) where
 junk:=rfl
 there:=by simp[St.put,zc]
 look:=λt s G hs=>by
  have H:¬d=t:=λe=>G e.symm
  simp only[St.put,St.renew,zc,if_neg H,Yk] at hs;cases F:zc S.slots t with
  |none=>rw[F] at hs;cases hs
  |some s0=>rw[F] at hs;simp only[Option.map_some,Option.some.injEq] at hs;exact⟨s0,rfl,hs⟩
 go:=λst E K J L h5=>by
  refine⟨E,K,J,by simp[St.put,St.renew,L],by simp[St.put,St.renew,h5],λt=>?_⟩
  by_cases e:t=d
  .subst e;simp[St.put,zc]
  .have e':¬d=t:=λe2=>e e2.symm
   simp[St.put,St.renew,zc,e,e',Yk]
theorem ziu(S:St)(d:Nat)(o0 ob:Obj'):Turn S (((S.new o0).renew S.next ob).put (some d) (.ar S.next)) d (.ar S.next) (zA S.next) (λst=>((st.new o0).renew st.next ob).put (some d) (.ar st.next)) where
 junk:=rfl
 there:=by simp[St.put,zc]
 look:=λt s G hs=>by
  have H:¬d=t:=λe=>G e.symm
  simp only[St.put,St.renew,St.new,zc,if_neg H,Yk] at hs;cases F:zc S.slots t with
  |none=>rw[F] at hs;cases hs
  |some s0=>rw[F] at hs;simp only[Option.map_some,Option.some.injEq] at hs;exact⟨s0,rfl,hs⟩
 go:=λst E K J L M=>by
  refine⟨E,K,by simp[St.put,St.renew,St.new,J],by simp[St.put,St.renew,St.new,L,J],by simp[St.put,St.renew,St.new,M,J],λt=>?_⟩
  by_cases e:t=d
  .subst e;simp[St.put,zc,J]
  .have e':¬d=t:=λe2=>e e2.symm
   simp[St.put,St.renew,St.new,zc,e,e',Yk,J]
theorem NU{K:St->Prop}{o:Oper}(H:all.length=m+1)(G:all[m]?=some o)(F:o.guard=none)(h:∀ X w0 β a w,Mods X w0 S1 β a w->Goes P X w0 o a w K):RegI P all K m S1:=by
 refine .tot K (by omega) (.inr H.symm) ?_ λst' hk=>?_
 .intro X w0 β a w E N Q J
  unfold wpOp;have:all.toArray[m]?=some o:=by simpa using G
  rw[this];simp only[Region.wanted,F,if_true];exact .inl (h X w0 β a w E N Q J)
 .rw[<-H];exact .done hk
theorem Da(M:P.follows .mixedOrders=true)(m e:Nat)(S S1:St)(d:Nat)(sd:Sym)(f:Sym->Sym)(F:St->St)(oe:Oper){id:Nat}{ops:List Oper}{st:St}{Q:DE->St->Prop}(Y:yT ops=true)(A:Q0 ops m=true)(G:(Nat.beq m ops.length || vX ops m)=true)(Z:Nat.ble m ops.length=true)
  (he:Nat.blt e m=true) (B:ops[e]?=some oe) (C:oe.guard=none) (I:oe.dst=some d) (h0:∀ X w0 β a w,Mods X w0 st β a w->Near ops m S (λ_=>False) st) (hT:Turn S S1 d sd f F)
  (J:∀ i o,i<m->i≠e->ops[i]?=some o->D9 P ops S S1 oe e i o)
  (O:∀ X w0 L st,Near ops m S L st->(∀ t∈tmpsOf ops oe,∀ s,zc S.slots t=some s->s≠.junk->zc st.slots t=some s)->∀ β a w,Mods X w0 st β a w->Goes P X w0 oe a w (λst'=>st'=F st))
  (h:RegI P ops (Q .normal) m S1):Triple P (.region id ops.toArray true) Q st:=by
 intro X w0 β a w hm
 rw[Nat.ble_eq] at Z
 have he:e<m:=by simpa using he
 have G:vX ops m=true\/m=ops.length:=by
  rw[Bool.or_eq_true,beq_iff] at G;exact G.elim .inr .inl
 refine wp_region_any M ?_
 have N:Mods X w0 st β a {w with drawn:=w.drawn+1}:=by
  have hb:Below w.heap.size w {w with drawn:=w.drawn+1}:=⟨⟨rfl,rfl,rfl,Nat.le_refl _,λ_ _=>rfl⟩,λ_=>Nat.le_succ _⟩
  have:=hm.put hb (dst:=none) (s:=.junk) (v:=undef) (by simp) (by simp[Sym.lo]) (by simp[Sm])
  simpa[St.put,Act.put] using this
 have H:∀ j,j<ops.length->¬lst (Array.replicate ops.toArray.size false) j:=by
  intro j hj h;unfold lst at h;simp[Array.getD,hj] at h
 have E:=h0 X w0 β a w hm
 refine Kp (P:=P) (X:=X) (w0:=w0) Y A G Z he B C I hT J (O X w0) ?_ _ _ st β a _ N (.inl ⟨H e (by omega),?_⟩) ⟨by simp,?_⟩ (λj _ hj=>H j hj) ?_
 .intro β a w Lb' T V W fuel hf
  exact N8 (P:=P) (X:=X) (w0:=w0) Y (K:=Q .normal) (λa w st' β hk T=>⟨.normal,st',β,trivial,hk,T⟩) h β a w Lb' T V W fuel hf
 .exact⟨E.n,E.base,E.next,E.moved,E.own,λt s hs hj hL=>E.slot t s hs hj λi o hi ho hd=>absurd (hL i o hi ho hd) (H i (by omega))⟩
 .intro j y hj hl
  exact absurd hl (H j (List.getElem?_eq_some_iff.1 hj).1)
 .simp[left]
end
end Go.V
namespace Go.V
variable [Dr] [Ov]
open Go.RowKit
def hidL(ids:List Nat)(st:St):St:={st with own:=st.own.filter λx=>!ids.contains x.1}
def NV(P:Program)(all:List Oper)(n0:Nat)(ids:List Nat):List Oper->St->List Sym->(St->List Sym->Prop)->Prop
 | [],st,ss,K=>K st ss
 |o::r,st,ss,K=>yj o.dst st.n=true/\jk P all o (hidL ids st) (λs=>Sym.lo n0 s/\NV P all n0 ids r (st.put o.dst s) (s::ss) K)
section
variable {P:Program} {all:List Oper} {st:St} {Q:DE->St->Prop}
theorem NW{f:Nat}{fn:Func}{c:Code}(J:P.funcs[f]?=some fn)(L:fn.body=some c)(H:callable P f=true){args:List Sym}{own:List (Nat×Obj')}{n:Nat}{s:Sym}{nx:Nat}{own':List (Nat×Obj')}{mv:List Nat}(M:Sym.los n args)
  (h:gA P c (jG (uE P fn.results.toList n s nx own' mv)) (initC fn.ntmps args own n)):zJ P f args own n s nx own' mv:=by
 refine⟨H,λX w0 β w vs hβ O hs=>?_⟩
 have E:w0.dfs=[]:=O.defers.symm
 refine(callsIn_wide (n:=0)).1 (callsIn_of_wp_marks (F:=Fence.wide) (n:=0) J L trivial ?_)
 refine wpIn_mono (h X w0 _ _ w 0 (O.initC hs M)) ?_
 have fin:∀ {st' β' ms' a' w'},uE P fn.results.toList n s nx own' mv st'->MX X w0 ms' st' β' a' w'->LeavesInM Fence.wide 0 P fn a'.tmps (λe w'=>∃ β' v,e = .returned v/\Mods X w0 (yN own' n nx mv) β' qU w'/\Sym.lo nx s/\Sm w' (Ex X β' own') β' s v) a'.defers .returning w':=by
  intro st0 β' ms' a' w' Q G;rw[G.defers,E,List.append_nil];refine Dd E G λa2 w2 ea K=>?_
  obtain⟨v,T,V,Y,Z⟩:=uF O.defers K Q;rw[<-ea];exact⟨v,T,β',v,rfl,V,Y,Z⟩
 rintro e a' w' ⟨de,st',β',ms',A,Q,G⟩
 cases e <;> cases de <;> simp only[yr] at A
 .exact fin Q G
 .exact Q.elim
 .exact fin Q G
attribute [simp] NV hidL
end
end Go.V
namespace Go.V
variable [Dr] [Ov]
open Go.RowKit
def NY(P:Program)(f:Nat)(args:List D)(v:Value):Prop:=
 callable P f=true/\∀ (w:World) (E:Nat->Prop) (vs:List Value),Seen w E->zH w E args vs->Calls P f vs.toArray w λe w'=>e = .panicked [{v,recovered:=false}]/\Below w.heap.size w w'
def Q5(P:Program):List Oper->St->(Value->St->Prop)->Prop
 | [],_,_=>False
 |o::r,st,K=>o.guard=none/\match r with
  | []=>∃ f xs ts g ds lent v,o.op = .call {callee:=.value f,args:=xs,argTypes:=ts}/\jY st f xs.toList=some (g,ds,lent)/\NY P g ds v/\K v st
  |_::_=>yq P o st (λst'=>Q5 P r st' K)
section
variable {P:Program} {X:Nat->Prop} {w0:Base} {st:St} {β:Nat->Value} {a:Act} {w w':World} {Q:DE->St->Prop} {Qp:Value->St->Prop}
theorem NZ{all:List Oper}{N:Exit->Act->World->Prop}:∀ {l:List Oper} {st:St} {β:Nat->Value} {a:Act} {w:World} {K:Value->St->Prop},Mods X w0 st β a w->Q5 P l st K ->
  (∀ a' w' st' β' v,K v st'->Mods X w0 st' β' a' w'->N (.panic [{v,recovered:=false}]) a' w')->wpList P all.toArray N l a w
 | [],st,β,a,w,K,Q,h,T=>h.elim
 |o::r,st,β,a,w,K,Q,h,T=>by
  unfold Q5 at h;obtain⟨V,h⟩:=h;cases r with
  |nil=>
   obtain⟨f,xs,ts,g,ds,lent,v,Y,G,⟨H,Z⟩,A⟩:=h;unfold jY at G;split at G
   .rename_i g' caps B
    split at G
    .rename_i ds' b C
     simp at G
     obtain⟨rfl,rfl,rfl⟩:=G;obtain⟨cs,L,M⟩:=NC Q B;have F:=zh.append (zh.uz Q xs.toList).1 M;obtain⟨I,hex⟩:=Ya Q C F;have E:(execOp a.eval o).run P w = .ok (.enter g' (xs.toList.map a.eval++cs).toArray) w:=by
      unfold callable at H;cases J:P.funcs[g']? with
      |none=>simp[J] at H
      |some fn=>
       simp[J] at H;have e1:¬fn.body=none:=by intro e;rw[e] at H;simp at H
       have e3:Array.map a.eval xs++cs.toArray=(List.map a.eval xs.toList++cs).toArray:=by simp
       rw[<-e3];simp[execOp,Y,resolve,L,Deferred.ofValue,invoke,callFunc,J,e1,H.1]
     refine wpList_step λN' hN'=>?_
     simp only[Region.wanted,V,if_true];unfold Oper.wp;rw[E];simp only[Oper.upon];refine(Z w X _ Q.Vb I).mono λe w' S=>?_
     obtain⟨rfl,W⟩:=S;exact T _ _ st β v A (Q.grow (P:=P) W)
    .cases G
   .cases G
  |cons o2 r2=>
   refine wpList_step λN' hN'=>?_
   simp only[Region.wanted,V,if_true];exact ji Q h N' _ λa' w' st' β' hk O=>hN' a' w' (NZ O hk T)
theorem O0{id:Nat}{ops:List Oper}(h:Q5 P ops st Qp):jZ P (.region id ops.toArray false) Q Qp st:=λX w0 β a w G=>
 wp_region_list (NZ (all:=ops) G h λa' w' st' β' v F H=>.inr ⟨v,st',β',rfl,F,H⟩)
end
attribute [simp] Q5
end Go.V
namespace Go.V
variable [Dr] [Ov]
open Go.RowKit
section
variable {P:Program} {X:Nat->Prop} {w0:Base} {st:St} {β:Nat->Value} {a:Act} {w w':World} {Q:Exit->Act->List Frame->World->Prop} {ops:Array Oper} {cs cs':List Frame} {i:Nat} {rest:List Nat} {o:Oper}
theorem ze5{v:Value}(H:ops[i]?=some o)(G:o.guard=none)(F:(execOp a.eval o).run P w = .ok (.value v) w')(h:wpOpsS P ops Q rest (a.put o.dst v) cs w'):wpOpsS P ops Q (i::rest) a cs w:=by
 unfold wpOpsS
 rw[H]
 simp only[Region.wanted,G,if_true]
 rw[F]
 exact h
theorem zci{v:Value}(H:ops[i]?=some o)(G:o.guard=none)(F:(execOp a.eval o).run P w = .ok .recover w)(E:recoverD cs=some (v,cs'))(h:wpOpsS P ops Q rest (a.put o.dst v) cs' w):wpOpsS P ops Q (i::rest) a cs w:=by
 unfold wpOpsS
 rw[H]
 simp only[Region.wanted,G,if_true]
 rw[F]
 simp only[E]
 exact h
theorem zjz(H:ops[i]?=some o)(G:o.guard=none)(h:Oper.wp P o a w (λa' w'=>wpOpsS P ops Q rest a' cs w') (λe a' w'=>Q e a' cs w')):wpOpsS P ops Q (i::rest) a cs w:=by
 unfold wpOpsS
 rw[H]
 simp only[Region.wanted,G,if_true]
 unfold Oper.wp at h
 split
 .rename_i hr;rw[hr] at h;exact h.elim
 .exact h
def Kq(P:Program):List Oper->St->(St->Prop)->Prop
 | [],st,K=>K st
 |o::r,st,K=>o.guard=none/\yq P o st (λst'=>Kq P r st' K)
theorem O1{K:St->Prop}:∀ {l:List Oper} {k:Nat} {st:St} {β:Nat->Value} {a:Act} {w:World},ops.toList.drop k=l->Mods X w0 st β a w->Kq P l st K ->
  (∀ a' w' st' β',K st'->Mods X w0 st' β' a' w'->Q .normal a' cs w')->wpOpsS P ops Q (List.range' k l.length) a cs w
 | [],k,st,β,a,w,G,F,h,hQ=>hQ a w st β h F
 |o::r,k,st,β,a,w,G,F,h,hQ=>by
  obtain⟨E,h⟩:=h;have J:ops[k]?=some o:=by
   have:=congrArg (λl:List Oper=>l[0]?) G
   simpa using this
  have L:ops.toList.drop (k+1)=r:=by
   have:=congrArg List.tail G
   simpa using this
  rw[List.length_cons,List.range'_succ];refine zjz J E (ji F h _ _ λa' w' st' β' M H=>?_)
  exact O1 L H M hQ
theorem ziv(G:P.follows .mixedOrders=true){g:Nat}{fn:Func}{id:Nat}{o0 o1:Oper}{r:List Oper}{c2:Code}(C:P.funcs[g]?=some fn)(I:fn.body=some (.seq (.region id (o0::o1::r).toArray false) c2))(H:callable P g=true){v:Value}{caps:List Sym}{own own':List (Nat×Obj')}{n t0 t1:Nat}{s:Sym}{y:Value}
  (N:Sym.los n caps) (g0:o0.guard=none) (g1:o1.guard=none) (d0:o0.dst=some t0) (d1:o1.dst=some t1) (Z:t0<fn.ntmps) (B:t1<fn.ntmps)
  (J:∀ (a:Act) (w:World),(execOp a.eval o0).run P w = .ok .recover w) (L:∀ (a:Act) (w:World),a.eval (.tmp t0)=v->(execOp a.eval o1).run P w = .ok (.value y) w)
  (hs:Sym.lo n s) (S:∀ w E β,Sm w E β s y) (M:fn.results = #[])
  (h:Kq P r {(initC fn.ntmps caps own n) with slots:=(t1,s)::(t0,.junk)::(initC fn.ntmps caps own n).slots} (λst=>ev P c2 (jG (uE P [] n (.tup []) n own' [])) st)):D8 P g v caps own own' n:=by
 refine⟨H,λX w0 β w vs hβ W O=>?_⟩
 refine callsD_of_wpS C I λc₀ cs hu=>?_
 have Q:=W.initC (ntmps:=fn.ntmps) O N
 apply wpS_seq
 apply wpS_region
 have T:(o0::o1::r).toArray.size=r.length+2:=by simp
 rw[T,List.range_eq_range',List.range'_succ,List.range'_succ]
 refine zci (v:=v) (cs':={c₀ with mode:=.panicking [{v,recovered:=true}]}::cs) (by simp) g0 (J _ _) (by simp[recoverD,hu]) ?_
 have m1:=Q.yC (dst:=some t0) (s:=.junk) (v:=v) (λt e=>by cases e;show t0<caps.length+(fn.ntmps-caps.length);omega) (by simp[Sym.lo]) (by simp[Sm])
 have V:fn.ntmps<=(vs.toArray++Array.replicate (fn.ntmps-vs.toArray.size) undef).size:=by simp;omega
 rw[d0]
 refine ze5 (v:=y) (by simp) g1 (L _ _ ?_) ?_
 .have F:t0<(vs.toArray++Array.replicate (fn.ntmps-vs.toArray.size) undef).size:=by omega
  generalize (vs.toArray++Array.replicate (fn.ntmps-vs.toArray.size) undef)=A at F ⊢;simp[Act.put,Act.eval,F]
 have m2:=m1.yC (dst:=some t1) (s:=s) (v:=y) (λt e=>by cases e;show t1<caps.length+(fn.ntmps-caps.length);omega) hs (S _ _ _)
 rw[d1]
 refine O1 (k:=2) (by simp) m2 h λa' w' st' β' hk Y=>?_
 refine wpS_of_wp (wp_mono (zL G hk _ _ _ _ _ Y) ?_)
 rintro e a2 w2 ⟨de,st2,β2,he,hq,K⟩
 have fin:uE P [] n (.tup []) n own' [] st2->bodyPostS P fn c₀ cs (λe u' w'=>e = .returned (.tuple #[])/\u' = .panicking [{v,recovered:=true}]/\∃ β',Mods X w0 (yN own' n n []) β' qU w') .ret a2 ({c₀ with mode:=.panicking [{v,recovered:=true}]}::cs) w2:=by
  intro hq;obtain⟨u,h1,h2,h3,h4⟩:=uF (fn:=fn) W.defers K (by rw[M];exact hq)
  simp only[Sm,zh] at h4;obtain⟨us,rfl,rfl⟩:=h4;exact⟨K.defers.trans W.defers.symm,_,rfl,_,h1,rfl,rfl,β2,h2⟩
 cases e <;> cases de <;> simp only[yr] at he
 .exact fin hq
 .exact hq.elim
 .exact fin hq
end
attribute [simp] Kq
end Go.V

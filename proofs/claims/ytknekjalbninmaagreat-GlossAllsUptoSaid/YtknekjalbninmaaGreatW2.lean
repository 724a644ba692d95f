/- A program logic of my own over the kit: part W2. It needs no conditions. -/
import Derived.Test.YtknekjalbninmaaGreatS1
import Derived.Recover
set_option linter.all false
namespace Go.V
variable [Dr] [Ov]
open Go.RowKit
def zu3(X:Nat->Prop)(w0:bz)(Q:DE->St->Prop)(Qp:Value->St->Prop):Exit->Act->World->Prop:=
 λe a' w'=>(∃ de st' β',yq e de/\Q de st'/\ax X w0 st' β' a' w')\/∃ v st' β',e = .panic [{v,recovered:=false}]/\Qp v st'/\ax X w0 st' β' a' w'
def k9(P:Program)(c:Code)(Q:DE->St->Prop)(Qp:Value->St->Prop)(st:St):Prop:=
 ∀ X w0 β a w,ax X w0 st β a w->c.wp P (zu3 X w0 Q Qp) a w
section
variable {P:Program} {st:St} {Q:DE->St->Prop} {Qp:Value->St->Prop}
theorem XI{c:Code}(h:aT P c Q st):k9 P c Q Qp st:=
 λX w0 β a w H=>wp_mono (h X w0 β a w H) λ_ _ _ h=>.inl h
theorem XJ{x y:Code}(h:k9 P x (Xr (λst'=>k9 P y Q Qp st') Q) Qp st):k9 P (.seq x y) Q Qp st:=by
 intro X w0 β a w G
 refine wp_seq (wp_mono (h X w0 β a w G) ?_)
 rintro e a' w' (⟨de,st',β',F,E,H⟩ | ⟨v,st',β',rfl,E,H⟩)
 .cases e <;> cases de <;> simp only[yq] at F
  .exact E X w0 β' a' w' H
  .subst F;exact .inl ⟨.exit _,st',β',rfl,E,H⟩
  .exact .inl ⟨.ret,st',β',trivial,E,H⟩
 .exact .inr ⟨v,st',β',rfl,E,H⟩
theorem UO(H:P.follows .mixedOrders=true)(n:Nat){c:Code}(hs:uE n c=true):∀ {st:St},ev P (yo n c) (Xr (λst'=>k9 P (yK n c) Q Qp st') Q) st->k9 P c Q Qp st:=by
 induction n generalizing c with
 |zero=>intro st h;exact h
 |succ n ih=>
  intro st h;cases c <;> simp only[yo,yK,uE,reduceCtorEq] at h hs
  case seq x y=>
   intro X w0 β a w F;simp only[ev] at h;refine wp_seq (wp_mono (bF H h X w0 β a w F) ?_)
   rintro e a' w' ⟨de,st',β',E,K,G⟩
   cases e <;> cases de <;> simp only[yq] at E
   .exact ih hs K X w0 β' a' w' G
   .subst E;exact .inl ⟨.exit _,st',β',rfl,K,G⟩
   .exact .inl ⟨.ret,st',β',trivial,K,G⟩
theorem A4{id:Nat}{c:Code}(h:k9 P c (jD id Q) Qp st):k9 P (.block id c) Q Qp st:=by
 intro X w0 β a w G
 refine wp_block (wp_mono (h X w0 β a w G) ?_)
 rintro e a' w' (⟨de,st',β',F,E,H⟩ | ⟨v,st',β',rfl,E,H⟩)
 .cases e <;> cases de <;> simp only[yq] at F
  .exact .inl ⟨.normal,st',β',trivial,E,H⟩
  .subst F
   simp only[jD] at E;simp only[Exit.inBlock];split
   .rename_i e;rw[gt e] at E;exact .inl ⟨.normal,st',β',trivial,E,H⟩
   .rename_i e;rw[ge e] at E;exact .inl ⟨.exit _,st',β',rfl,E,H⟩
  .exact .inl ⟨.ret,st',β',trivial,E,H⟩
 .exact .inr ⟨v,st',β',rfl,E,H⟩
theorem A5{c:Operand}{x y:Code}{b:Bool}(H:st.val c = .d (.bool b))(h:k9 P (if b=true then x else y) Q Qp st):k9 P (.cond c x y) Q Qp st:=by
 intro X w0 β a w G
 have F:=(G.val c).2
 rw[H] at F
 simp only[Sm,R] at F
 refine wp_cond F ?_
 cases b <;> exact h X w0 β a w G
theorem zde{α:Type}{c:Code}(S:α->St)(inv:α->Prop)(μ:α->Nat)(x0:α)(V:inv x0)(Y:dx st (S x0))
  (Z:∀ x,inv x->k9 P c (dB S inv μ x Q) Qp (S x)):k9 P (.loop c) Q Qp st:=by
 intro X w0 β a w A
 let I:Nat->Act->World->Prop:=λn a w=>∃ x β,inv x/\μ x=n/\ax X w0 (S x) β a w
 have key:∀ a w,(∃ n,I n a w)->∃ n,I n a w/\∀ m,I m a w->n<=m:=by
  intro a w ⟨n,B⟩;induction n using Nat.strongRecOn with
  |_ n ih=>
   by_cases h:∃ m,m<n/\I m a w
   .obtain⟨m,C,N⟩:=h;exact ih m C N
   .exact⟨n,B,λm A=>by rcases pe m n with W | W;exact absurd ⟨m,W,A⟩ h;exact W⟩
 classical
 let M:Act->World->Nat:=λa w=>if h:∃ n,I n a w then Classical.choose (key a w h) else 0
 refine wp_loop (λa w=>∃ n,I n a w) M ⟨_,x0,β,V,rfl,A.dY Y⟩ ?_
 intro a w hI
 have G:=rv (key a w hI)
 have hM:M a w=Classical.choose (key a w hI):=si hI
 rw[<-hM] at G
 obtain⟨⟨x,β',hx,hμ,J⟩,L⟩:=G
 refine wp_mono (Z x hx X w0 β' a w J) ?_
 rintro e a' w' (⟨de,st',β'',he,hq,H⟩ | ⟨v,st',β'',rfl,hq,H⟩)
 .cases e <;> cases de <;> simp only[yq] at he
  .obtain⟨y,hy,T,E⟩:=hq
   have F:∃ n,I n a' w':=⟨μ y,y,β'',hy,rfl,H.dY E⟩
   refine⟨F,?_⟩
   have K:=rv (key a' w' F);have O:M a' w'=Classical.choose (key a' w' F):=si F
   rw[<-O] at K;have:=K.2 (μ y) ⟨y,β'',hy,rfl,H.dY E⟩
   omega
  .subst he;exact .inl ⟨.exit _,st',β'',rfl,hq,H⟩
  .exact .inl ⟨.ret,st',β'',trivial,hq,H⟩
 .exact .inr ⟨v,st',β'',rfl,hq,H⟩
end
def JX(P:Program):List Oper->St->(Nat->List ah->St->Prop)->Prop
 | [],_,_=>False
 |o::r,st,K=>o.guard=none/\match r with
  | []=>∃ f ts g aJ,o.op = .defer {callee:=.value f,args:=#[],argTypes:=ts}/\xF (st.val f)=some (g,aJ)/\yp o.dst st.n=true/\K g aJ (st.put o.dst (.d (.val undef)))
  |_::_=>yz P o st (λst'=>JX P r st' K)
section
variable {P:Program} {X:Nat->Prop} {w0:bz} {st:St} {β:Nat->Value} {a:Act} {w w':World}
theorem A6(H:ax X w0 st β a w){f:Operand}{g:Nat}{aJ:List ah}(G:xF (st.val f)=some (g,aJ)):∃ vs:List Value,a.eval f = .func (.func g) #[] vs.toArray/\zi w (Ex X β st.own) β aJ vs:=by
 have F:=(H.val f).2
 cases E:st.val f <;> rw[E] at G F <;> simp only[xF] at G
 case d x=>
  cases x <;> simp only[xF] at G
  case fn f' l=>
   simp at G;obtain⟨rfl,rfl⟩:=G
   simp only[Sm,R] at F;obtain⟨vs,K,J⟩:=F;exact⟨vs,K,zi.Z3 J⟩
  all_goals cases G
 case fn f' l=>
  simp at G;obtain⟨rfl,rfl⟩:=G
  simp only[Sm] at F;exact F
 all_goals cases G
theorem A7{all:List Oper}{N:Exit->Act->World->Prop}:∀ {l:List Oper} {st:St} {β:Nat->Value} {a:Act} {w:World} {K:Nat->List ah->St->Prop},ax X w0 st β a w->JX P l st K ->
  (∀ a' w' st' β' g aJ (vs:List Value),K g aJ st'->ax X w0 st' β' {a' with defers:=w0.dF} w'->a'.defers = {target:=.fn (.func g) vs.toArray,args:=#[]}::w0.dF->zi w' (Ex X β' st'.own) β' aJ vs->N .normal a' w')->wpList P all.toArray N l a w
 | [],st,β,a,w,K,M,h,O=>h.elim
 |o::r,st,β,a,w,K,M,h,O=>by
  unfold JX at h;obtain⟨Q,h⟩:=h;refine wpList_step λN' G=>?_
  simp only[Region.wanted,Q,oV];cases r with
  |nil=>
   obtain⟨f,ts,g,aJ,T,V,Y,Z⟩:=h;obtain⟨vs,F,E⟩:=A6 M V;have H:(execOp a.eval o).run P w = .ok (.defer {target:=.fn (.func g) vs.toArray,args:=#[]}) w:=by
    simp[execOp,T,resolve,F,Deferred.ofValue]
   unfold Oper.wp;rw[H];simp only[Oper.upon];refine G _ _ (wpList_nil (O _ _ _ β g aJ vs Z ?_ ?_ ?_))
   .have A:=M.yH (dst:=o.dst) (s:=.d (.val undef)) (v:=undef) (xw Y) (by simp[ah.lo]) (by simp[Sm,R])
    have e:({({a with defers:={target:=.fn (.func g) vs.toArray,args:=#[]}::a.defers}:Act).put o.dst undef with defers:=w0.dF}:Act)=a.put o.dst undef:=by
     have:=M.defers
     cases a;simp only at this
     subst this;cases o.dst <;> rfl
    rw[e];exact A
   .rw[<-M.defers];cases o.dst <;> rfl
   .have J:(st.put o.dst (.d (.val undef))).own=st.own:=by cases o.dst <;> rfl
    rw[J];exact E
  |cons o2 r2=>
   exact wi M h N' _ λa' w' st' β' B L=>G a' w' (A7 L B O)
theorem ax.iJ(H:ax X w0 st β {a with defers:=w0.dF} w)(ds:List Deferred)(G:a.defers=ds):
  ax X {w0 with β0:=β,dF:=ds} {st with ai:=st.next,aA:=[]} β a w:=by
 refine⟨H.bU,⟨nJ _,λ_ _ _=>rfl⟩,H.cB,G,H.size,⟨H.below.os,H.below.tape,H.below.output,H.below.size,H.below.block,H.below.drawn⟩,H.bB,H.own,H.apart,H.af⟩
def E4(K:St->Prop):DE->St->Prop
 |.normal,st=>K st
 |_,_=>False
theorem zt9(H:P.follows .mixedOrders=true)(n:Nat){c:Code}(hs:uE n c=true){K:St->Prop}{Q:Exit->Act->World->Prop}:
  ∀ {st:St} {β:Nat->Value} {a:Act} {w:World},ax X w0 st β a w->ev P (yo n c) (E4 K) st->(∀ β a w st',K st'->ax X w0 st' β a w->(yK n c).wp P Q a w)->c.wp P Q a w:=by
 induction n generalizing c with
 |zero=>intro st β a w F h E;exact E β a w st h F
 |succ n ih=>
  intro st β a w F h E;cases c <;> simp only[yo,yK,uE,reduceCtorEq] at h hs E
  case seq x y=>
   simp only[ev] at h;refine wp_seq (wp_mono (bF H h X w0 β a w F) ?_)
   rintro e a' w' ⟨de,st',β',J,L,G⟩
   cases e <;> cases de <;> simp only[yq] at J
   .exact ih hs G L E
   .exact L.elim
   .exact L.elim
end
def A8(P:Program)(g k:Nat):Prop:=aN P g=true/\∀ (vs:List Value) (w:World),vs.length=k->CallsD P g vs.toArray .returning w λe u' w'=>e = .returned (.tuple #[])/\u' = .returning/\Below w.heap.size w w'
theorem ax.grow{P:Program}{X:Nat->Prop}{w0:bz}{st:St}{β:Nat->Value}{a:Act}{w w':World}(H:ax X w0 st β a w)(G:Below w.heap.size w w'):ax X w0 st β a w':=by
 have:=H.put G (dst:=none) (s:=.junk) (v:=undef) (by simp) (by simp[ah.lo]) (by simp[Sm])
 exact this
theorem Aa{P:Program}{g:Nat}(G:aN P g=true)(vs:Array Value)(w:World):(invoke (.fn (.func g) vs) #[]).run P w = .ok (.enter g vs) w:=by
 unfold aN at G
 cases H:P.funcs[g]? with
 |none=>simp[H] at G
 |some fnn=>
  simp[H] at G;have e1:¬fnn.body=none:=by intro e;rw[e] at G;simp at G
  simp[invoke,callFunc,H,e1,G.1]
end Go.V
namespace Go.V
variable [Dr] [Ov]
open Go.RowKit
def E5(P:Program)(g:Nat)(v:Value)(aJ:List ah)(own own':List (Nat×am))(n:Nat):Prop:=
 aN P g=true/\∀ (X:Nat->Prop) (w0:bz) (β:Nat->Value) (w:World) (vs:List Value),w0.β0=β->ax X w0 (yW own n n []) β vv w->zi w (Ex X β own) β aJ vs ->
  CallsD P g vs.toArray (.panicking [{v,recovered:=false}]) w λe u' w'=>e = .returned (.tuple #[])/\u' = .panicking [{v,recovered:=true}]/\∃ β',ax X w0 (yW own' n n []) β' vv w'
def DefP(P:Program)(rs:List ResultVar)(Φ:D->Prop)(B:Code):Nat->List ah->St->Prop:=λg aJ st=>
 A8 P g aJ.length/\(∀ s∈aJ,∃ i o,s = .bp i o/\i<st.next) /\
  k9 P B (cJ (ld P rs Φ)) (λv st'=>(st.next<=st'.ai/\∀ id,id<st.next->id∉st'.aA)/\∃ aD aR own' caps0,cV st' aD aR/\ah.a_ aD.length caps0/\yf (ce aD) caps0=aJ/\E5 P g v caps0 aR own' aD.length /\
   ld P rs Φ (st'.after aD aD.length own' [])) {st with ai:=st.next,aA:=[]}
theorem Ab{w w':World}{E E':Nat->Prop}{β β':Nat->Value}{n:Nat}:∀ {aJ:List ah} {vs:List Value},(∀ s∈aJ,∃ i o,s=ah.bp i o/\i<n)->(∀ i,i<n->β' i=β i)->zi w E β aJ vs->zi w' E' β' aJ vs
 | [],vs,_,_,h=>by simpa[zi] using h
 |s::r,vs,H,G,h=>by
  obtain⟨i,o,rfl,hi⟩:=H s nL;simp only[zi] at h ⊢;obtain⟨v,vs',rfl,F,K⟩:=h;refine⟨v,vs',rfl,?_,Ab (λs hs=>H s (nG _ hs)) G K⟩
  simp only[Sm] at F ⊢;rw[G i hi];exact F
theorem zbw{P:Program}(M:P.follows .mixedOrders=true){f:Nat}{fn:Func}{c:Code}(hf:P.funcs[f]?=some fn)(hb:fn.body=some c)(K:aN P f=true){args:List D}{Φ:D->Prop}
  (k:Nat) (hs:uE k c=true) {id:Nat} {ops:List Oper} {B:Code} (ht:yK k c = .seq (.region id ops.toArray false) B)
  (h:ev P (yo k c) (E4 λst=>JX P ops st (DefP P fn.results.toList Φ B)) (ct fn.ntmps args)):cu P f args Φ:=by
 refine⟨K,λw E vs hE hr=>?_⟩
 refine calls_of_wp_defers hf hb ?_
 refine zt9 M k hs (ax.iM hE hr) h ?_
 intro β a w1 fO hd hm
 rw[ht]
 refine wp_seq (wp_region_list ?_)
 refine A7 (all:=ops) hm hd ?_
 intro a2 w2 fK β2 g aJ vs hK Y Z T
 obtain⟨⟨V,J⟩,A,hT⟩:=hK
 show B.wp P _ a2 w2
 have C:=Y.iJ [{target:=.fn (.func g) vs.toArray,args:=#[]}] Z
 refine wp_mono (hT _ _ _ _ _ C) ?_
 have keep:∀ {st' β' a' w'},ax E {(bz.of w) with β0:=β2,dF:=[{target:=.fn (.func g) vs.toArray,args:=#[]}]} st' β' a' w'->Below w.heap.size w w':=λH=>
  cR.below ⟨H.below.os,H.below.tape,H.below.output,H.below.size,H.below.block,H.below.drawn⟩
 rintro e a' w' (⟨de,st',β',he,hq,H⟩ | ⟨v,st',β',rfl,⟨⟨q1,q2⟩,aD,aR,own',caps0,F,I,O,⟨_,Q⟩,G⟩,H⟩)
 .have ck:ld P fn.results.toList Φ st' ->
    Leaves P fn a'.tmps (λe w'=>∃ v r,e = .returned v/\Below w.heap.size w w'/\Φ r/\R w' E r v) a'.defers .returning w':=by
   rintro⟨r,hΦ,G⟩
   rw[H.defers];refine leaves_cons (by simp) (Aa V _ _) ?_
   refine(J vs w' (by rw[T.length])).mono ?_
   rintro e u' w'' ⟨rfl,rfl,N⟩
   have L:=ax.grow (P:=P) H N;obtain⟨v,r1,r2⟩:=kT L G;exact⟨v,r1,v,r,rfl,keep L,hΦ,r2⟩
  cases e <;> cases de <;> simp only[yq] at he
  .exact ck hq
  .exact hq.elim
  .exact ck hq
 .show Leaves P fn a'.tmps _ a'.defers (.panicking [{v,recovered:=false}]) w'
  rw[H.defers];refine leaves_cons (by simp) (Aa V _ _) ?_
  have X:zi w' (Ex E β' st'.own) β' aJ vs:=Ab A (λi hi=>H.bI.2 i (pg hi q1) (q2 i hi)) T
  have S:Ex (cZ E β' aD st'.own) (λi=>β' (ce aD i)) aR=Ex E β' st'.own:=funext λb=>propext (F.ex b)
  rw[<-O] at X;have W:=Z5 (ρ:=ce aD) (β:=λi=>β' (ce aD i)) (β':=β') (m:=aD.length) (λ_ _=>rfl) I X
  refine(Q (cZ E β' aD st'.own) (eE β' aD w') (λi=>β' (ce aD i)) w' _ rfl (H.Ug F) (by rw[S];exact W)).mono ?_
  rintro e u' w'' ⟨rfl,rfl,β1,H0⟩
  obtain⟨h1,_⟩:=H.Uh F H0;obtain⟨r,hΦ,G⟩:=G;obtain⟨v',r1,r2⟩:=kT h1 G;exact⟨v',r1,v',r,rfl,keep h1,hΦ,r2⟩
end Go.V
namespace Go.V
variable [Dr] [Ov]
open Go.RowKit
section
variable {P:Program} {Γ:XG} {call:dH} {run:iA} {X:Nat->Prop} {w0:bz}
end
end Go.V
namespace Go.V
variable [Dr] [Ov]
open Go.RowKit
section
variable {P:Program} {Γ:XG}
end
end Go.V

/- A program logic of my own over the kit: part W2. It needs no conditions. -/
import Derived.Test.YtknekjalbninmaaGreatS1
import Derived.Recover
set_option linter.unusedVariables false
set_option linter.unusedSimpArgs false
set_option linter.unusedSectionVars false
namespace Go.V
variable [Dr] [Ov]
open Go.RowKit
def zoy(X:Nat->Prop)(w0:Base)(Q:DE->St->Prop)(Qp:Value->St->Prop):Exit->Act->World->Prop:=
 λe a' w'=>(∃ de st' β',yv e de/\Q de st'/\Mods X w0 st' β' a' w')\/∃ v st' β',e = .panic [{v,recovered:=false}]/\Qp v st'/\Mods X w0 st' β' a' w'
def w9(P:Program)(c:Code)(Q:DE->St->Prop)(Qp:Value->St->Prop)(st:St):Prop:=
 ∀ X w0 β a w,Mods X w0 st β a w->c.wp P (zoy X w0 Q Qp) a w
section
variable {P:Program} {st:St} {Q:DE->St->Prop} {Qp:Value->St->Prop}
theorem YF{c:Code}(h:Triple P c Q st):w9 P c Q Qp st:=
 λX w0 β a w H=>wp_mono (h X w0 β a w H) λ_ _ _ h=>.inl h
theorem YG{x y:Code}(h:w9 P x (Yu (λst'=>w9 P y Q Qp st') Q) Qp st):w9 P (.seq x y) Q Qp st:=by
 intro X w0 β a w G
 refine wp_seq (wp_mono (h X w0 β a w G) ?_)
 rintro e a' w' (⟨de,st',β',F,E,H⟩ | ⟨v,st',β',rfl,E,H⟩)
 .cases e <;> cases de <;> simp only[yv] at F
  .exact E X w0 β' a' w' H
  .subst F;exact .inl ⟨.exit _,st',β',rfl,E,H⟩
  .exact .inl ⟨.ret,st',β',trivial,E,H⟩
 .exact .inr ⟨v,st',β',rfl,E,H⟩
theorem KQ(H:P.follows .mixedOrders=true)(n:Nat){c:Code}(hs:kz n c=true):∀ {st:St},ev P (yp n c) (Yu (λst'=>w9 P (yK n c) Q Qp st') Q) st->w9 P c Q Qp st:=by
 induction n generalizing c with
 |zero=>intro st h;exact h
 |succ n ih=>
  intro st h;cases c <;> simp only[yp,yK,kz,reduceCtorEq] at h hs
  case seq x y=>
   intro X w0 β a w F;simp only[ev] at h;refine wp_seq (wp_mono (zL H h X w0 β a w F) ?_)
   rintro e a' w' ⟨de,st',β',E,K,G⟩
   cases e <;> cases de <;> simp only[yv] at E
   .exact ih hs K X w0 β' a' w' G
   .subst E;exact .inl ⟨.exit _,st',β',rfl,K,G⟩
   .exact .inl ⟨.ret,st',β',trivial,K,G⟩
theorem PK{id:Nat}{c:Code}(h:w9 P c (j4 id Q) Qp st):w9 P (.block id c) Q Qp st:=by
 intro X w0 β a w G
 refine wp_block (wp_mono (h X w0 β a w G) ?_)
 rintro e a' w' (⟨de,st',β',F,E,H⟩ | ⟨v,st',β',rfl,E,H⟩)
 .cases e <;> cases de <;> simp only[yv] at F
  .exact .inl ⟨.normal,st',β',trivial,E,H⟩
  .subst F
   simp only[j4] at E;simp only[Exit.inBlock];split
   .rename_i e;rw[if_pos e] at E;exact .inl ⟨.normal,st',β',trivial,E,H⟩
   .rename_i e;rw[if_neg e] at E;exact .inl ⟨.exit _,st',β',rfl,E,H⟩
  .exact .inl ⟨.ret,st',β',trivial,E,H⟩
 .exact .inr ⟨v,st',β',rfl,E,H⟩
theorem PL{c:Operand}{x y:Code}{b:Bool}(H:st.val c = .d (.bool b))(h:w9 P (if b=true then x else y) Q Qp st):w9 P (.cond c x y) Q Qp st:=by
 intro X w0 β a w G
 have F:=(G.val c).2
 rw[H] at F
 simp only[Sm,R] at F
 refine wp_cond F ?_
 cases b <;> exact h X w0 β a w G
theorem zcq{α:Type}{c:Code}(S:α->St)(inv:α->Prop)(μ:α->Nat)(x0:α)(V:inv x0)(Y:Weak st (S x0))
  (Z:∀ x,inv x->w9 P c (afterLoop S inv μ x Q) Qp (S x)):w9 P (.loop c) Q Qp st:=by
 intro X w0 β a w A
 let I:Nat->Act->World->Prop:=λn a w=>∃ x β,inv x/\μ x=n/\Mods X w0 (S x) β a w
 have key:∀ a w,(∃ n,I n a w)->∃ n,I n a w/\∀ m,I m a w->n<=m:=by
  intro a w ⟨n,B⟩;induction n using Nat.strongRecOn with
  |_ n ih=>
   by_cases h:∃ m,m<n/\I m a w
   .obtain⟨m,C,N⟩:=h;exact ih m C N
   .exact⟨n,B,λm A=>by rcases Nat.lt_or_ge m n with W | W;exact absurd ⟨m,W,A⟩ h;exact W⟩
 classical
 let M:Act->World->Nat:=λa w=>if h:∃ n,I n a w then Classical.choose (key a w h) else 0
 refine wp_loop (λa w=>∃ n,I n a w) M ⟨_,x0,β,V,rfl,A.weak Y⟩ ?_
 intro a w hI
 have G:=Classical.choose_spec (key a w hI)
 have hM:M a w=Classical.choose (key a w hI):=dif_pos hI
 rw[<-hM] at G
 obtain⟨⟨x,β',hx,hμ,J⟩,L⟩:=G
 refine wp_mono (Z x hx X w0 β' a w J) ?_
 rintro e a' w' (⟨de,st',β'',he,hq,H⟩ | ⟨v,st',β'',rfl,hq,H⟩)
 .cases e <;> cases de <;> simp only[yv] at he
  .obtain⟨y,hy,T,E⟩:=hq
   have F:∃ n,I n a' w':=⟨μ y,y,β'',hy,rfl,H.weak E⟩
   refine⟨F,?_⟩
   have K:=Classical.choose_spec (key a' w' F);have O:M a' w'=Classical.choose (key a' w' F):=dif_pos F
   rw[<-O] at K;have:=K.2 (μ y) ⟨y,β'',hy,rfl,H.weak E⟩
   omega
  .subst he;exact .inl ⟨.exit _,st',β'',rfl,hq,H⟩
  .exact .inl ⟨.ret,st',β'',trivial,hq,H⟩
 .exact .inr ⟨v,st',β'',rfl,hq,H⟩
end
def J8(P:Program):List Oper->St->(Nat->List Sym->St->Prop)->Prop
 | [],_,_=>False
 |o::r,st,K=>o.guard=none/\match r with
  | []=>∃ f ts g caps,o.op = .defer {callee:=.value f,args:=#[],argTypes:=ts}/\xl (st.val f)=some (g,caps)/\yo o.dst st.n=true/\K g caps (st.put o.dst (.d (.val undef)))
  |_::_=>yr P o st (λst'=>J8 P r st' K)
section
variable {P:Program} {X:Nat->Prop} {w0:Base} {st:St} {β:Nat->Value} {a:Act} {w w':World}
theorem PN(H:Mods X w0 st β a w){f:Operand}{g:Nat}{caps:List Sym}(G:xl (st.val f)=some (g,caps)):∃ vs:List Value,a.eval f = .func (.func g) #[] vs.toArray/\zg w (Ex X β st.own) β caps vs:=by
 have F:=(H.val f).2
 cases E:st.val f <;> rw[E] at G F <;> simp only[xl] at G
 case d x=>
  cases x <;> simp only[xl] at G
  case fn f' l=>
   simp at G;obtain⟨rfl,rfl⟩:=G
   simp only[Sm,R] at F;obtain⟨vs,K,J⟩:=F;exact⟨vs,K,zg.uI J⟩
  all_goals cases G
 case fn f' l=>
  simp at G;obtain⟨rfl,rfl⟩:=G
  simp only[Sm] at F;exact F
 all_goals cases G
theorem PO{all:List Oper}{N:Exit->Act->World->Prop}:∀ {l:List Oper} {st:St} {β:Nat->Value} {a:Act} {w:World} {K:Nat->List Sym->St->Prop},Mods X w0 st β a w->J8 P l st K ->
  (∀ a' w' st' β' g caps (vs:List Value),K g caps st'->Mods X w0 st' β' {a' with defers:=w0.dfs} w'->a'.defers = {target:=.fn (.func g) vs.toArray,args:=#[]}::w0.dfs->zg w' (Ex X β' st'.own) β' caps vs->N .normal a' w')->wpList P all.toArray N l a w
 | [],st,β,a,w,K,M,h,O=>h.elim
 |o::r,st,β,a,w,K,M,h,O=>by
  unfold J8 at h;obtain⟨Q,h⟩:=h;refine wpList_step λN' G=>?_
  simp only[Region.wanted,Q,if_true];cases r with
  |nil=>
   obtain⟨f,ts,g,caps,T,V,Y,Z⟩:=h;obtain⟨vs,F,E⟩:=PN M V;have H:(execOp a.eval o).run P w = .ok (.defer {target:=.fn (.func g) vs.toArray,args:=#[]}) w:=by
    simp[execOp,T,resolve,F,Deferred.ofValue]
   unfold Oper.wp;rw[H];simp only[Oper.upon];refine G _ _ (wpList_nil (O _ _ _ β g caps vs Z ?_ ?_ ?_))
   .have A:=M.yB (dst:=o.dst) (s:=.d (.val undef)) (v:=undef) (xh Y) (by simp[Sym.lo]) (by simp[Sm,R])
    have e:({({a with defers:={target:=.fn (.func g) vs.toArray,args:=#[]}::a.defers}:Act).put o.dst undef with defers:=w0.dfs}:Act)=a.put o.dst undef:=by
     have:=M.defers
     cases a;simp only at this
     subst this;cases o.dst <;> rfl
    rw[e];exact A
   .rw[<-M.defers];cases o.dst <;> rfl
   .have J:(st.put o.dst (.d (.val undef))).own=st.own:=by cases o.dst <;> rfl
    rw[J];exact E
  |cons o2 r2=>
   exact j5 M h N' _ λa' w' st' β' B L=>G a' w' (PO L B O)
theorem Mods.hold(H:Mods X w0 st β {a with defers:=w0.dfs} w)(ds:List Deferred)(G:a.defers=ds):
  Mods X {w0 with β0:=β,dfs:=ds} {st with base:=st.next,moved:=[]} β a w:=by
 refine⟨H.outer,⟨Nat.le_refl _,λ_ _ _=>rfl⟩,H.one,G,H.size,⟨H.below.os,H.below.tape,H.below.output,H.below.size,H.below.block,H.below.drawn⟩,H.keys,H.own,H.apart,H.slots⟩
def DU(K:St->Prop):DE->St->Prop
 |.normal,st=>K st
 |_,_=>False
theorem zn8(H:P.follows .mixedOrders=true)(n:Nat){c:Code}(hs:kz n c=true){K:St->Prop}{Q:Exit->Act->World->Prop}:
  ∀ {st:St} {β:Nat->Value} {a:Act} {w:World},Mods X w0 st β a w->ev P (yp n c) (DU K) st->(∀ β a w st',K st'->Mods X w0 st' β a w->(yK n c).wp P Q a w)->c.wp P Q a w:=by
 induction n generalizing c with
 |zero=>intro st β a w F h E;exact E β a w st h F
 |succ n ih=>
  intro st β a w F h E;cases c <;> simp only[yp,yK,kz,reduceCtorEq] at h hs E
  case seq x y=>
   simp only[ev] at h;refine wp_seq (wp_mono (zL H h X w0 β a w F) ?_)
   rintro e a' w' ⟨de,st',β',J,L,G⟩
   cases e <;> cases de <;> simp only[yv] at J
   .exact ih hs G L E
   .exact L.elim
   .exact L.elim
end
def PP(P:Program)(g k:Nat):Prop:=callable P g=true/\∀ (vs:List Value) (w:World),vs.length=k->CallsD P g vs.toArray .returning w λe u' w'=>e = .returned (.tuple #[])/\u' = .returning/\Below w.heap.size w w'
theorem Mods.grow{P:Program}{X:Nat->Prop}{w0:Base}{st:St}{β:Nat->Value}{a:Act}{w w':World}(H:Mods X w0 st β a w)(G:Below w.heap.size w w'):Mods X w0 st β a w':=by
 have:=H.put G (dst:=none) (s:=.junk) (v:=undef) (by simp) (by simp[Sym.lo]) (by simp[Sm])
 exact this
theorem PQ{P:Program}{g:Nat}(G:callable P g=true)(vs:Array Value)(w:World):(invoke (.fn (.func g) vs) #[]).run P w = .ok (.enter g vs) w:=by
 unfold callable at G
 cases H:P.funcs[g]? with
 |none=>simp[H] at G
 |some fnn=>
  simp[H] at G;have e1:¬fnn.body=none:=by intro e;rw[e] at G;simp at G
  simp[invoke,callFunc,H,e1,G.1]
end Go.V
namespace Go.V
variable [Dr] [Ov]
open Go.RowKit
def DV(P:Program)(g:Nat)(v:Value)(caps:List Sym)(own own':List (Nat×Obj'))(n:Nat):Prop:=
 callable P g=true/\∀ (X:Nat->Prop) (w0:Base) (β:Nat->Value) (w:World) (vs:List Value),w0.β0=β->Mods X w0 (yP own n n []) β qU w->zg w (Ex X β own) β caps vs ->
  CallsD P g vs.toArray (.panicking [{v,recovered:=false}]) w λe u' w'=>e = .returned (.tuple #[])/\u' = .panicking [{v,recovered:=true}]/\∃ β',Mods X w0 (yP own' n n []) β' qU w'
def DefP(P:Program)(rs:List ResultVar)(Φ:D->Prop)(B:Code):Nat->List Sym->St->Prop:=λg caps st=>
 PP P g caps.length/\(∀ s∈caps,∃ i o,s = .bp i o/\i<st.next) /\
  w9 P B (jI (resE P rs Φ)) (λv st'=>(st.next<=st'.base/\∀ id,id<st.next->id∉st'.moved)/\∃ ids own0 own' caps0,Fits st' ids own0/\Sym.los ids.length caps0/\yu (rho ids) caps0=caps/\DV P g v caps0 own0 own' ids.length /\
   resE P rs Φ (st'.after ids ids.length own' [])) {st with base:=st.next,moved:=[]}
theorem PR{w w':World}{E E':Nat->Prop}{β β':Nat->Value}{n:Nat}:∀ {caps:List Sym} {vs:List Value},(∀ s∈caps,∃ i o,s=Sym.bp i o/\i<n)->(∀ i,i<n->β' i=β i)->zg w E β caps vs->zg w' E' β' caps vs
 | [],vs,_,_,h=>by simpa[zg] using h
 |s::r,vs,H,G,h=>by
  obtain⟨i,o,rfl,hi⟩:=H s List.mem_cons_self;simp only[zg] at h ⊢;obtain⟨v,vs',rfl,F,K⟩:=h;refine⟨v,vs',rfl,?_,PR (λs hs=>H s (List.mem_cons_of_mem _ hs)) G K⟩
  simp only[Sm] at F ⊢;rw[G i hi];exact F
theorem zbp{P:Program}(M:P.follows .mixedOrders=true){f:Nat}{fn:Func}{c:Code}(hf:P.funcs[f]?=some fn)(hb:fn.body=some c)(K:callable P f=true){args:List D}{Φ:D->Prop}
  (k:Nat) (hs:kz k c=true) {id:Nat} {ops:List Oper} {B:Code} (ht:yK k c = .seq (.region id ops.toArray false) B)
  (h:ev P (yp k c) (DU λst=>J8 P ops st (DefP P fn.results.toList Φ B)) (jm fn.ntmps args)):xU P f args Φ:=by
 refine⟨K,λw E vs hE hr=>?_⟩
 refine calls_of_wp_defers hf hb ?_
 refine zn8 M k hs (Mods.init hE hr) h ?_
 intro β a w1 st1 hd hm
 rw[ht]
 refine wp_seq (wp_region_list ?_)
 refine PO (all:=ops) hm hd ?_
 intro a2 w2 st2 β2 g caps vs hK Y Z T
 obtain⟨⟨V,J⟩,A,hT⟩:=hK
 show B.wp P _ a2 w2
 have C:=Y.hold [{target:=.fn (.func g) vs.toArray,args:=#[]}] Z
 refine wp_mono (hT _ _ _ _ _ C) ?_
 have keep:∀ {st' β' a' w'},Mods E {(Base.of w) with β0:=β2,dfs:=[{target:=.fn (.func g) vs.toArray,args:=#[]}]} st' β' a' w'->Below w.heap.size w w':=λH=>
  Kept.below ⟨H.below.os,H.below.tape,H.below.output,H.below.size,H.below.block,H.below.drawn⟩
 rintro e a' w' (⟨de,st',β',he,hq,H⟩ | ⟨v,st',β',rfl,⟨⟨q1,q2⟩,ids,own0,own',caps0,F,I,O,⟨_,Q⟩,G⟩,H⟩)
 .have fin:resE P fn.results.toList Φ st' ->
    Leaves P fn a'.tmps (λe w'=>∃ v r,e = .returned v/\Below w.heap.size w w'/\Φ r/\R w' E r v) a'.defers .returning w':=by
   rintro⟨r,hΦ,G⟩
   rw[H.defers];refine leaves_cons (by simp) (PQ V _ _) ?_
   refine(J vs w' (by rw[T.length])).mono ?_
   rintro e u' w'' ⟨rfl,rfl,N⟩
   have L:=Mods.grow (P:=P) H N;obtain⟨v,r1,r2⟩:=wT L G;exact⟨v,r1,v,r,rfl,keep L,hΦ,r2⟩
  cases e <;> cases de <;> simp only[yv] at he
  .exact fin hq
  .exact hq.elim
  .exact fin hq
 .show Leaves P fn a'.tmps _ a'.defers (.panicking [{v,recovered:=false}]) w'
  rw[H.defers];refine leaves_cons (by simp) (PQ V _ _) ?_
  have X:zg w' (Ex E β' st'.own) β' caps vs:=PR A (λi hi=>H.still.2 i (Nat.lt_of_lt_of_le hi q1) (q2 i hi)) T
  have S:Ex (outOf E β' ids st'.own) (λi=>β' (rho ids i)) own0=Ex E β' st'.own:=funext λb=>propext (F.ex b)
  rw[<-O] at X;have W:=uK (ρ:=rho ids) (β:=λi=>β' (rho ids i)) (β':=β') (m:=ids.length) (λ_ _=>rfl) I X
  refine(Q (outOf E β' ids st'.own) (inBase β' ids w') (λi=>β' (rho ids i)) w' _ rfl (H.WZ F) (by rw[S];exact W)).mono ?_
  rintro e u' w'' ⟨rfl,rfl,β1,H0⟩
  obtain⟨h1,_⟩:=H.K0 F H0;obtain⟨r,hΦ,G⟩:=G;obtain⟨v',r1,r2⟩:=wT h1 G;exact⟨v',r1,v',r,rfl,keep h1,hΦ,r2⟩
end Go.V
namespace Go.V
variable [Dr] [Ov]
open Go.RowKit
section
variable {P:Program} {Γ:XG} {call:Caller} {run:Runner} {X:Nat->Prop} {w0:Base}
end
end Go.V
namespace Go.V
variable [Dr] [Ov]
open Go.RowKit
section
variable {P:Program} {Γ:XG}
end
end Go.V

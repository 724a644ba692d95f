/- A program logic of my own over the kit: part W2. It needs no conditions. -/
import Derived.Test.YtknekjalbninmaaGreatS1
import Derived.Recover
set_option linter.unusedVariables false
set_option linter.unusedSimpArgs false
set_option linter.unusedSectionVars false
namespace Go.V
variable [Dr] [Ov]
open Go.RowKit
section
variable {P:Program} {st:St} {Q:DE->St->Prop} {Qp:Value->St->Prop}
end
def Vh(P:Program):List Oper->St->(Nat->List Sym->St->Prop)->Prop
 | [],_,_=>False
 |o::r,st,K=>o.guard=none/\match r with
  | []=>∃ f ts g caps,o.op = .defer {callee:=.value f,args:=#[],argTypes:=ts}/\xe (st.val f)=some (g,caps)/\yf o.dst st.n=true/\K g caps (st.put o.dst (.d (.val undef)))
  |_::_=>yp P o st (λst'=>Vh P r st' K)
section
variable {P:Program} {X:Nat->Prop} {w0:Base} {st:St} {β:Nat->Value} {a:Act} {w w':World}
theorem zjl(H:Mods X w0 st β a w){f:Operand}{g:Nat}{caps:List Sym}(G:xe (st.val f)=some (g,caps)):∃ vs:List Value,a.eval f = .func (.func g) #[] vs.toArray/\zl w (Ex X β st.own) β caps vs:=by
 have F:=(H.val f).2
 cases E:st.val f <;> rw[E] at G F <;> simp only[xe] at G
 case d x=>
  cases x <;> simp only[xe] at G
  case fn f' l=>
   simp at G;obtain⟨rfl,rfl⟩:=G
   simp only[Sm,R] at F;obtain⟨vs,K,J⟩:=F;exact⟨vs,K,zl.uK J⟩
  all_goals cases G
 case fn f' l=>
  simp at G;obtain⟨rfl,rfl⟩:=G
  simp only[Sm] at F;exact F
 all_goals cases G
theorem N9{all:List Oper}{N:Exit->Act->World->Prop}:∀ {l:List Oper} {st:St} {β:Nat->Value} {a:Act} {w:World} {K:Nat->List Sym->St->Prop},Mods X w0 st β a w->Vh P l st K ->
  (∀ a' w' st' β' g caps (vs:List Value),K g caps st'->Mods X w0 st' β' {a' with defers:=w0.dfs} w'->a'.defers = {target:=.fn (.func g) vs.toArray,args:=#[]}::w0.dfs->zl w' (Ex X β' st'.own) β' caps vs->N .normal a' w')->wpList P all.toArray N l a w
 | [],st,β,a,w,K,M,h,O=>h.elim
 |o::r,st,β,a,w,K,M,h,O=>by
  unfold Vh at h;obtain⟨Q,h⟩:=h;refine wpList_step λN' G=>?_
  simp only[Region.wanted,Q,if_true];cases r with
  |nil=>
   obtain⟨f,ts,g,caps,T,V,Y,Z⟩:=h;obtain⟨vs,F,E⟩:=zjl M V;have H:(execOp a.eval o).run P w = .ok (.defer {target:=.fn (.func g) vs.toArray,args:=#[]}) w:=by
    simp[execOp,T,resolve,F,Deferred.ofValue]
   unfold Oper.wp;rw[H];simp only[Oper.upon];refine G _ _ (wpList_nil (O _ _ _ β g caps vs Z ?_ ?_ ?_))
   .have A:=M.yE (dst:=o.dst) (s:=.d (.val undef)) (v:=undef) (yU Y) (by simp[Sym.lo]) (by simp[Sm,R])
    have e:({({a with defers:={target:=.fn (.func g) vs.toArray,args:=#[]}::a.defers}:Act).put o.dst undef with defers:=w0.dfs}:Act)=a.put o.dst undef:=by
     have:=M.defers
     cases a;simp only at this
     subst this;cases o.dst <;> rfl
    rw[e];exact A
   .rw[<-M.defers];cases o.dst <;> rfl
   .have J:(st.put o.dst (.d (.val undef))).own=st.own:=by cases o.dst <;> rfl
    rw[J];exact E
  |cons o2 r2=>
   exact kz M h N' _ λa' w' st' β' B L=>G a' w' (N9 L B O)
theorem Mods.hold(H:Mods X w0 st β {a with defers:=w0.dfs} w)(ds:List Deferred)(G:a.defers=ds):
  Mods X {w0 with β0:=β,dfs:=ds} {st with base:=st.next,moved:=[]} β a w:=by
 refine⟨H.outer,⟨Nat.le_refl _,λ_ _ _=>rfl⟩,H.one,G,H.size,⟨H.below.os,H.below.tape,H.below.output,H.below.size,H.below.block,H.below.drawn⟩,H.keys,H.own,H.apart,H.slots⟩
theorem Mods.zjm{st':St}{β':Nat->Value}{ds:List Deferred}(F:Mods X w0 st β {a with defers:=w0.dfs} w){a':Act}(H:Mods X {w0 with β0:=β,dfs:=ds} st' β' a' w')(E:st.next<=st'.base)
  (G:∀ id,id<st.base->id∈st'.moved->id∈st.moved):Mods X w0 {st' with base:=st.base,moved:=st.moved++st'.moved} β' {a' with defers:=w0.dfs} w':=by
 refine⟨F.outer,⟨Nat.le_trans F.still.1 (Nat.le_trans E H.still.1),λid K h2=>?_⟩,H.one,rfl,H.size,⟨H.below.os,H.below.tape,H.below.output,H.below.size,H.below.block,H.below.drawn⟩,H.keys,H.own,H.apart,H.slots⟩
 simp only[List.mem_append,not_or] at h2
 rw[H.still.2 id (Nat.lt_of_lt_of_le K (Nat.le_trans F.still.1 E)) h2.2]
 exact F.still.2 id K h2.1
def FC(K:St->Prop):DE->St->Prop
 |.normal,st=>K st
 |_,_=>False
theorem zjn(H:P.follows .mixedOrders=true)(n:Nat){c:Code}(hs:ua n c=true){K:St->Prop}{Q:Exit->Act->World->Prop}:
  ∀ {st:St} {β:Nat->Value} {a:Act} {w:World},Mods X w0 st β a w->ev P (yq n c) (FC K) st->(∀ β a w st',K st'->Mods X w0 st' β a w->(yO n c).wp P Q a w)->c.wp P Q a w:=by
 induction n generalizing c with
 |zero=>intro st β a w F h E;exact E β a w st h F
 |succ n ih=>
  intro st β a w F h E;cases c <;> simp only[yq,yO,ua,reduceCtorEq] at h hs E
  case seq x y=>
   simp only[ev] at h;refine wp_seq (wp_mono (zM H h X w0 β a w F) ?_)
   rintro e a' w' ⟨de,st',β',J,L,G⟩
   cases e <;> cases de <;> simp only[yw] at J
   .exact ih hs G L E
   .exact L.elim
   .exact L.elim
end
def Na(P:Program)(g k:Nat):Prop:=callable P g=true/\∀ (vs:List Value) (w:World),vs.length=k->CallsD P g vs.toArray .returning w λe u' w'=>e = .returned (.tuple #[])/\u' = .returning/\Below w.heap.size w w'
theorem Mods.grow{P:Program}{X:Nat->Prop}{w0:Base}{st:St}{β:Nat->Value}{a:Act}{w w':World}(H:Mods X w0 st β a w)(G:Below w.heap.size w w'):Mods X w0 st β a w':=by
 have:=H.put G (dst:=none) (s:=.junk) (v:=undef) (by simp) (by simp[Sym.lo]) (by simp[Sm])
 exact this
def DefN(P:Program)(rs:List ResultVar)(r:D)(B:Code):Nat->List Sym->St->Prop:=λg caps st=>
 Na P g caps.length/\Triple P B (jh (λst'=>st.next<=st'.base/\(∀ id,id<st.base->id∈st'.moved->id∈st.moved)/\kA P rs r {st' with base:=st.base,moved:=st.moved++st'.moved})) {st with base:=st.next,moved:=[]}
theorem zep{P:Program}{g:Nat}(G:callable P g=true)(vs:Array Value)(w:World):(invoke (.fn (.func g) vs) #[]).run P w = .ok (.enter g vs) w:=by
 unfold callable at G
 cases H:P.funcs[g]? with
 |none=>simp[H] at G
 |some fnn=>
  simp[H] at G;have e1:¬fnn.body=none:=by intro e;rw[e] at G;simp at G
  simp[invoke,callFunc,H,e1,G.1]
theorem zbh{P:Program}(F:P.follows .mixedOrders=true){f:Nat}{fn:Func}{c:Code}(X:P.funcs[f]?=some fn)(Y:fn.body=some c)(H:callable P f=true){args:List D}{r:D}
  (k:Nat) (hs:ua k c=true) {id:Nat} {ops:List Oper} {B:Code} (Z:yO k c = .seq (.region id ops.toArray false) B)
  (h:ev P (yq k c) (FC λst=>Vh P ops st (DefN P fn.results.toList r B)) (ji fn.ntmps args)):zi P f args r:=by
 refine⟨H,λw E vs A C=>?_⟩
 refine calls_of_wp_defers X Y ?_
 refine zjn F k hs (Mods.init A C) h ?_
 intro β a w1 st1 I N
 rw[Z]
 refine wp_seq (wp_region_list ?_)
 refine N9 (all:=ops) N I ?_
 intro a2 w2 st2 β2 g caps vs S K M O
 obtain⟨⟨Q,G⟩,W⟩:=S
 show B.wp P _ a2 w2
 have T:=K.hold [{target:=.fn (.func g) vs.toArray,args:=#[]}] M
 refine wp_mono (W _ _ _ _ _ T) ?_
 rintro e a' w' ⟨de,st',β',he,hq,J⟩
 have fin:(st2.next<=st'.base/\(∀ id,id<st2.base->id∈st'.moved->id∈st2.moved)/\kA P fn.results.toList r {st' with base:=st2.base,moved:=st2.moved++st'.moved}) ->
   Leaves P fn a'.tmps (λe w'=>∃ v,e = .returned v/\Below w.heap.size w w'/\R w' E r v) a'.defers .returning w':=by
  rintro⟨q1,q2,q3⟩
  have hu:=Mods.zjm K J q1 q2;rw[J.defers];refine leaves_cons (by simp) (zep Q _ _) ?_
  refine(G vs w' (by rw[O.length])).mono ?_
  rintro e u' w'' ⟨rfl,rfl,V⟩
  have L:=Mods.grow (P:=P) hu V;obtain⟨v,r1,r2⟩:=kZ L q3;exact⟨v,r1,v,rfl,L.below.below,r2⟩
 cases e <;> cases de <;> simp only[yw] at he
 .exact fin hq
 .exact hq.elim
 .exact fin hq
end Go.V
namespace Go.V
variable [Dr] [Ov]
open Go.RowKit
end Go.V
namespace Go.V
variable [Dr] [Ov]
open Go.RowKit
section
variable {P:Program} {Γ:XG} {call:Caller} {run:Runner} {X:Nat->Prop} {w0:Base}
end
end Go.V
namespace Go.V
variable [Dr] [Ov]
open Go.RowKit
section
variable {P:Program} {Γ:XG}
end
end Go.V

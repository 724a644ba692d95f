/- A program logic of my own over the kit: part X14. It needs no conditions. -/
import Derived.Test.YtknekjalbninmaaGreatX4
import Derived.LoopNIn
import Derived.OrdersIn
import Derived.TacticsIn
import Derived.RangeFuncLeaves
import Derived.RangeFuncCalls
import Derived.RangeFuncRecord
set_option linter.unusedVariables false
set_option linter.unusedSimpArgs false
set_option linter.unusedSectionVars false
namespace Go.V
variable [Dr] [Ov]
open Go.RowKit
def FW(r:Option Nat):Fence:={Fence.wide with round:=r}
theorem O2{r:Option Nat}{n:Nat}{P:Program}{f:FuncId}{args:Array Value}{w:World}{R:Ending->World->Prop}(h:Calls P f args w R):CallsIn (FW r) n P f args w R:=by
 cases r with
 |none=>exact callsIn_wide.2 h
 |some l=>exact CallsIn.inRound l (callsIn_wide.2 h)
section
variable {P:Program} {Γ:XG} {call:Caller} {X:Nat->Prop} {w0:Base} {st:St} {xs xs':XS} {β:Nat->Value} {a:Act} {w:World}
theorem zj0{o:Oper}{K:St->Prop}(E:Goes P X w0 o a w K)(G:∀ c,o.op≠.defer c)(J:a.defers=w0.dfs)(r:Option Nat)(n:Nat)(ms:List Deferred){N:Act->World->Prop}{Q:Exit->Act->World->Prop}
  (L:∀ a' w' st' β',K st'->Mods X w0 st' β' a' w'->N {a' with defers:=ms} w'):o.wpIn (FW r) n P {a with defers:=ms} w N Q:=by
 have h:=E (λa' w'=>a'.defers=w0.dfs/\N {a' with defers:=ms} w') (λ_ _ _=>False) λa' w' st' β' M O=>⟨O.defers,L a' w' st' β' M O⟩
 unfold Oper.wp at h
 unfold Oper.wpIn
 refine⟨λ_ _=>trivial,?_⟩
 rw[Oper.semAt_eq _ _ _ G]
 have F:({a with defers:=ms}:Act).eval=a.eval:=rfl
 rw[F]
 have H:∀ v,(({a with defers:=ms}:Act).put o.dst v) = {a.put o.dst v with defers:=ms}:=by intro v;cases o.dst <;> rfl
 generalize (execOp a.eval o).run P w=res at h
 cases res with
 |ok x w'=>
  cases x with
  |value v=>simp only[Oper.upon] at h;simp only[Oper.uponIn];rw[H];exact h.2
  |skip=>simp only[Oper.upon] at h;simp only[Oper.uponIn];rw[H];exact h.2
  |enter f args=>
   simp only[Oper.upon] at h;simp only[Oper.uponIn];refine⟨λT=>by simp[FW,Fence.wide] at T,O2 (h.mono λe w'' V=>?_)⟩
   cases e with
   |returned v=>simp only at V ⊢;rw[H];exact V.2
   |panicked chain=>exact V.elim
   |outgrown=>obtain⟨_,_,h⟩:=V;exact h.elim
  |row row args=>
   simp only[Oper.upon] at h;simp only[Oper.uponIn];refine⟨λT=>by simp[FW,Fence.wide] at T,λc cs _=>?_⟩
   obtain⟨v,w'',Y,Z⟩:=h c cs;refine⟨v,w'',by show N _ w'';rw[H];exact Y.2,?_⟩
   have:Machine.fenced P (FW r)=Machine.fenced P Fence.wide:=rfl
   rw[this];exact stepsIn_wide.2 Z
  |defer d=>
   simp only[Oper.upon] at h;have Y:(({a with defers:=d::a.defers}:Act).put o.dst undef).defers=w0.dfs:=h.1
   have Z:(({a with defers:=d::a.defers}:Act).put o.dst undef).defers=d::a.defers:=by cases o.dst <;> rfl
   rw[Z,<-J] at Y;exact absurd (congrArg List.length Y) (by simp)
  |round=>exact h.elim
  |_=>exact h.elim
 |halt x w'=>cases x <;> first |exact h.elim |(simp only[Oper.upon] at h)
def mark(D:Nat):Deferred:={target:=.collected D,args:=#[]}
structure Under(X:Nat->Prop)(w0:Base)(X':Nat->Prop)(w0':Base):Prop where
 outer:(∀ b,X b->¬w0.may b)/\Glob w0.w (λb=>X b\/w0.foot b)
 x:∀ b,X b->X' b
 may:∀ b,w0'.may b->w0.may b
 kept:Kept w0 w0'.w
 β0:w0'.β0=w0.β0
 dfs:w0'.dfs=w0.dfs
structure MX(X:Nat->Prop)(w0:Base)(ms:List Nat)(st:St)(β:Nat->Value)(a:Act)(w:World):Prop where
 mods:∃ X' w0',Under X w0 X' w0'/\Mods X' w0' st β {a with defers:=w0.dfs} w/\∀ D∈ms,X' D/\w0'.w.heap[D]?=some (.deferred (some []))
 defers:a.defers=ms.map mark++w0.dfs
 nd:ms.Nodup/\∀ D∈ms,w0.may D
theorem yM.wk{N N' E E':Nat->Prop}(G:∀ b,N b->N' b)(H:Over w E w E'){id:Nat}{ob:Obj'}(h:yM w N E β id ob):yM w N' E' β id ob:=by
 cases ob with
 |box T cells=>
  obtain⟨b,vs,F,K,J,L,M⟩:=h;exact⟨b,vs,F,G b K,J,Ye (id:=0) (rows:=.bool true) H L,M⟩
 |arr T sz rows=>
  obtain⟨xs,F,K,J⟩:=h;exact⟨xs,⟨F.1,λb O=>⟨G b (F.2 b O).1,(F.2 b O).2⟩⟩,zi.over H _ _ K,J⟩
 |map T rows=>
  obtain⟨r,es,clock,F,K,J,L⟩:=h;exact⟨r,es,clock,F,G r K,J,yH.over H _ _ L⟩
 |raw k cells=>
  obtain⟨b,fn,D,vs,F,K,J,L⟩:=h;exact⟨b,fn,D,vs,F,G b K,J,Ye (id:=0) (rows:=.bool true) H L⟩
theorem Kept.trans'{B B':Base}{w:World}(G:Kept B B'.w)(F:Kept B' w)(H:∀ b,B'.may b->B.may b):Kept B w:=
 ⟨F.os.trans G.os,F.tape.trans G.tape,F.output.trans G.output,Nat.le_trans G.size F.size,λk E=>(F.block k (λh=>E (H k h))).trans (G.block k E),G.drawn.trans F.drawn⟩
theorem Under.back{X':Nat->Prop}{w0':Base}(G:Under X w0 X' w0')(F:Mods X' w0' st β a w):Mods X w0 st β a w:=by
 have H:Over w (Ex X' β st.own) w (Ex X β st.own):=Over.less λb E=>E.elim (λh=>.inl (G.x b h)) .inr
 refine⟨G.outer,⟨F.still.1,λid K J=>by rw[<-G.β0];exact F.still.2 id K J⟩,F.one,F.defers.trans G.dfs,F.size,G.kept.trans' F.below G.may,F.keys,?_,F.apart,?_⟩
 .intro id o h
  obtain⟨q1,q2,q3⟩:=F.own id o h;exact⟨q1,q2,q3.wk G.may H⟩
 .intro t s h
  obtain⟨q1,q2⟩:=F.slots t s h;exact⟨q1,Xw (id:=0) (rows:=.bool true) H q2⟩
theorem Under.refl(H:Mods X w0 st β a w):Under X w0 X w0:=⟨H.outer,λ_ h=>h,λ_ h=>h,Kept.refl _,rfl,rfl⟩
theorem MX.of(H:Mods X w0 st β a w):MX X w0 [] st β a w:=by
 have e:({a with defers:=w0.dfs}:Act)=a:=by have:=H.defers;cases a;simp only at this;subst this;rfl
 exact⟨⟨X,w0,.refl H,by rw[e];exact H,λD h=>by cases h⟩,H.defers,List.nodup_nil,λD h=>by cases h⟩
theorem MX.plain{ms:List Nat}(h:MX X w0 ms st β a w):Mods X w0 st β {a with defers:=w0.dfs} w:=by
 obtain⟨⟨X',w0',H,G,_⟩,_⟩:=h
 exact H.back G
theorem MX.nil(h:MX X w0 [] st β a w):Mods X w0 st β a w:=by
 have e:({a with defers:=w0.dfs}:Act)=a:=by have:=h.defers;cases a;simp only[List.map_nil,List.nil_append] at this;subst this;rfl
 rw[<-e];exact h.plain
theorem MX.put{ms:List Nat}(J:MX X w0 ms st β a w){dst:Option Tmp}{s:Sym}{v:Value}(L:∀ t,dst=some t->t<st.n)(M:Sym.lo st.next s)(hs:∀ E,Sm w E β s v):MX X w0 ms (st.put dst s) β (a.put dst v) w:=by
 obtain⟨⟨X',w0',O,H,G⟩,F,K⟩:=J
 have e:({a.put dst v with defers:=w0.dfs}:Act)=({a with defers:=w0.dfs}:Act).put dst v:=by cases dst <;> rfl
 exact⟨⟨X',w0',O,by rw[e];exact H.yC L M (hs _),G⟩,by cases dst <;> exact F,K⟩
mutual
theorem zkv{m:Nat}:∀ {s:Sym},ko m s=true->Sym.lo m s
 |.bp i o,h=>by simp only[ko,gC] at h;simpa[Sym.lo] using h
 |.ar i,h=>by simp only[ko,gC] at h;simpa[Sym.lo] using h
 |.ap i _ _ _,h=>by simp only[ko,gC] at h;simpa[Sym.lo] using h
 |.aS i _ _ _,h=>by simp only[ko,gC] at h;simpa[Sym.lo] using h
 |.av i _ _ _,h=>by simp only[ko,gC] at h;simpa[Sym.lo] using h
 |.yd i,h=>by simp only[ko,gC] at h;simpa[Sym.lo] using h
 |.mp i,h=>by simp only[ko,gC] at h;simpa[Sym.lo] using h
 |.tup l,h=>by simp only[ko] at h;simp only[Sym.lo];exact Kr h
 |.agg l,h=>by simp only[ko] at h;simp only[Sym.lo];exact Kr h
 |.fn _ l,h=>by simp only[ko] at h;simp only[Sym.lo];exact Kr h
 |.d _,_=>by simp[Sym.lo]
 |.nils,_=>by simp[Sym.lo]
 |.junk,_=>by simp[Sym.lo]
theorem Kr{m:Nat}:∀ {l:List Sym},Q7 m l=true->Sym.los m l
 | [],_=>by simp[Sym.los]
 |s::r,h=>by simp only[Q7,Bool.and_eq_true] at h;simp only[Sym.los];exact⟨zkv h.1,Kr h.2⟩
end
theorem Mods.final(K:w0.dfs=[])(J:Mods X w0 st β a w)(p:Nat×Obj'->Bool){n nx:Nat}{mv:List Nat}(L:st.base=n)(M:st.next=nx)(E:∀ id,id<n->id∈st.moved->id∈mv):
  Mods X w0 (yN (st.own.filter p) n nx mv) β qU w/\∀ s v,Sm w (Ex X β st.own) β s v->Sm w (Ex X β (st.own.filter p)) β s v:=by
 have H:∀ id o,(id,o)∈st.own.filter p->(id,o)∈st.own:=λid o h=>(List.mem_filter.1 h).1
 have F:Over w (Ex X β st.own) w (Ex X β (st.own.filter p)):=Over.less (λb O=>O.elim .inl λ⟨i,x,M,e⟩=>.inr ⟨i,x,H i x M,e⟩)
 subst L;subst M
 refine⟨⟨J.outer,⟨J.still.1,λi Q h2=>J.still.2 i Q (λh=>h2 (E i Q h))⟩,J.one,K.symm,rfl,J.below,?_,?_,?_,by intro t s T;simp[yN,zc] at T⟩,λs v h=>Xw (id:=0) (rows:=.bool true) F h⟩
 .exact J.keys.sublist (List.Sublist.map _ List.filter_sublist)
 .intro id o G
  obtain⟨q1,q2,q3⟩:=J.own id o (H id o G);exact⟨q1,q2,yM.over (m:=st.next) (λ_ _=>rfl) F q1 q2 (λ_ _=>rfl) q3⟩
 .exact λi x j y c M V e1 e2=>J.apart i x j y c (H i x M) (H j y V) e1 e2
end
end Go.V
namespace Go.V
variable [Dr] [Ov]
open Go.RowKit
def Zv(P:Program)(id:Nat)(args:List Sym)(own:List (Nat×Obj'))(n:Nat)(s:Sym)(nx:Nat)(own':List (Nat×Obj'))(mv:List Nat):Prop:=
 ∀ (X:Nat->Prop) (w0:Base) (β:Nat->Value) (w:World) (vs:List Value),w0.β0=β->Mods X w0 (yN own n n []) β qU w->zh w (Ex X β own) β args vs ->
  ∃ b,β id = .pointer (some ⟨b,0,none⟩)/\∀ (r:Option Nat) (m:Nat),YieldAt (FW r) m P b vs.toArray w λe w'=>∃ β' v,e = .returned v/\Mods X w0 (yN own' n nx mv) β' qU w'/\Sym.lo nx s/\Sm w' (Ex X β' own') β' s v
section
variable {P:Program} {Γ:XG} {call:Caller} {run:Runner} {X:Nat->Prop} {w0:Base} {st:St} {xs xs':XS} {β:Nat->Value} {a:Act} {w:World}
theorem Db(L:Mods X w0 st β a w){id:Nat}{ps:Array Tmp}{aS bd:Code}{s s':LoopState}{pd pd':Option Code}{cells:List Sym}(G:st.look id=some (.raw (.lp ps aS bd s pd) cells)):
  ∃ b fn D vs,β id = .pointer (some ⟨b,0,none⟩)/\w.heap[b]?=some (.loop {state:=s,pending:=pd,fn,tmps:=vs,params:=ps,assign:=aS,body:=bd,defers:=D}) /\
   Mods X w0 {st with own:=zV id (.raw (.lp ps aS bd s' pd') cells) st.own} β a (w.putObj b (.loop {state:=s',pending:=pd',fn,tmps:=vs,params:=ps,assign:=aS,body:=bd,defers:=D})):=by
 obtain⟨hid,F,b,fn,D,vs,M,O,Q,hs⟩:=L.obj G
 have E:=(Array.getElem?_eq_some_iff.1 Q).1
 refine⟨b,fn,D,vs.toArray,M,Q,?_⟩
 have H:∀ c,c≠b->(w.putObj b (.loop {state:=s',pending:=pd',fn,tmps:=vs.toArray,params:=ps,assign:=aS,body:=bd,defers:=D})).heap[c]?=w.heap[c]?:=λc T=>World.putObj_heap_other T
 have K:Ex X β st.own b:=.inr ⟨id,_,yZ G,by rw[M];rfl⟩
 have J:=Xv K H
 refine L.update G (b:=b) (by rw[M];rfl) O H (by simp) rfl rfl rfl (λ_=>Nat.le_refl _) F ?_
 exact⟨b,fn,D,vs,M,O,World.putObj_heap_same E,zh.over (m:=st.next) (λ_ _=>rfl) J F hs⟩
end
end Go.V
namespace Go.V
variable [Dr] [Ov]
open Go.RowKit
section
variable {P:Program} {Γ:XG} {call:Caller} {run:Runner} {X:Nat->Prop} {w0:Base} {st:St} {xs xs':XS} {β:Nat->Value} {a:Act} {w:World}
theorem zj1{b:Nat}{args:Array Value}{fn:FuncId}{tmps:Array Value}{aS bd:Code}(h:(Instr.yield b args).run P w = .ok (.round b fn tmps aS bd) w):
  (do let d <-Deferred.ofValue (.func (.yield b) #[] #[]) args;invoke d.target d.args:Sem Next).run P w = .ok (.round b fn tmps aS bd) w:=by
 simp[go_sem,Deferred.ofValue,invoke,h]
theorem ze6{ms:List Nat}(H:MX X w0 ms st β a w){t:Nat}{b:Bool}(h:zc st.slots t=some (.d (.bool b))):a.tmps[t]?=some (.bool b):=N3 H.plain h
end
end Go.V
namespace Go.V
variable [Dr] [Ov]
open Go.RowKit
section
variable {P:Program} {Γ:XG} {call:Caller} {run:Runner} {X:Nat->Prop} {w0:Base} {st:St} {xs xs':XS} {β:Nat->Value} {a:Act} {w w':World}
theorem yM.re{N N' E:Nat->Prop}{id:Nat}{ob:Obj'}(H:∀ b,blk (β id)=some b->N' b)(h:yM w N E β id ob):yM w N' E β id ob:=by
 cases ob with
 |box T cells=>obtain⟨b,vs,G,F,K⟩:=h;exact⟨b,vs,G,H b (by rw[G];rfl),K⟩
 |arr T sz rows=>obtain⟨xs,G,F,K⟩:=h;exact⟨xs,⟨G.1,λb J=>⟨H b J,(G.2 b J).2⟩⟩,F,K⟩
 |map T rows=>obtain⟨r,es,clock,G,F,K⟩:=h;exact⟨r,es,clock,G,H r (by rw[G];rfl),K⟩
 |raw k cells=>obtain⟨b,fn,D,vs,G,F,K⟩:=h;exact⟨b,fn,D,vs,G,H b (by rw[G];exact k.Zk b),K⟩
def VW(w':World)(st:St)(β:Nat->Value)(β0:Nat->Value)(ds:List Deferred):Base:=⟨w',λb=>∃ id o,(id,o)∈st.own/\blk (β id)=some b,β0,ds⟩
theorem Mods.O3(J:Mods X w0 st β a w){X':Nat->Prop}(F:∀ b,X' b->X b\/(w.heap.size<=b/\b<w'.heap.size))(L:∀ b,X b->X' b)(K:w.heap.size<=w'.heap.size)
  (H:∀ b,b<w.heap.size->¬X b->w'.heap[b]?=w.heap[b]?):Mods X' (VW w' st β w0.β0 w0.dfs) st β a w':=by
 have G:∀ {id o b},(id,o)∈st.own->blk (β id)=some b->b<w.heap.size/\¬X b:=λh M=>⟨J.lt _ (.inr ⟨_,_,h,M⟩),λO=>J.outer.1 _ O (J.may h M)⟩
 have E:Over w (Ex X β st.own) w' (Ex X' β st.own):=by
  intro b M Q;refine⟨?_,H b M (λO=>Q (.inl O))⟩
  rintro(h | h)
  .rcases F b h with h | h
   .exact Q (.inl h)
   .omega
  .exact Q (.inr h)
 refine⟨⟨?_,J.glob.over E⟩,⟨J.still.1,J.still.2⟩,J.one,J.defers,J.size,Kept.refl _,J.keys,?_,J.apart,?_⟩
 .rintro b M (h | ⟨id,o,T,V⟩)
  .rcases F b M with Y | Y
   .have:=J.lt b (.inl Y);have h:w'.heap.size<=b:=h;omega
   .have h:w'.heap.size<=b:=h;omega
  .obtain⟨q1,q2⟩:=G T V
   rcases F b M with Y | Y
   .exact q2 Y
   .omega
 .intro id o h
  obtain⟨q1,q2,q3⟩:=J.own id o h;refine⟨q1,q2,yM.re (λb M=>.inr ⟨id,o,h,M⟩) (yM.over (m:=st.next) (λ_ _=>rfl) E q1 q2 (λb M=>?_) q3)⟩
  obtain⟨g1,g2⟩:=G h M;exact H b g1 g2
 .intro t s h
  obtain⟨q1,q2⟩:=J.slots t s h;exact⟨q1,Sm.over (m:=st.next) (λ_ _=>rfl) E q1 q2⟩
theorem Mods.under(H:Mods X w0 st β a w){X':Nat->Prop}(G:∀ b,X b->X' b)(F:Kept w0 w'):Under X w0 X' (VW w' st β w0.β0 w0.dfs):=by
 refine⟨H.outer,G,?_,F,rfl,rfl⟩
 rintro b (h | ⟨id,o,E,K⟩)
 .exact .inl (Nat.le_trans F.size h)
 .exact H.may E K
theorem Mods.filt(E:Mods X w0 st β a w)(p:Nat×Obj'->Bool):Mods X w0 {st with own:=st.own.filter p} β a w:=by
 have H:∀ id o,(id,o)∈st.own.filter p->(id,o)∈st.own:=λid o h=>(List.mem_filter.1 h).1
 have F:Over w (Ex X β st.own) w (Ex X β (st.own.filter p)):=Over.less (λb K=>K.elim .inl λ⟨i,x,J,e⟩=>.inr ⟨i,x,H i x J,e⟩)
 refine⟨E.outer,E.still,E.one,E.defers,E.size,E.below,E.keys.sublist (List.Sublist.map _ List.filter_sublist),?_,λi x j y c J L e1 e2=>E.apart i x j y c (H i x J) (H j y L) e1 e2,?_⟩
 .intro id o G
  obtain⟨q1,q2,q3⟩:=E.own id o (H id o G);exact⟨q1,q2,yM.over (m:=st.next) (λ_ _=>rfl) F q1 q2 (λ_ _=>rfl) q3⟩
 .intro t s h
  obtain⟨q1,q2⟩:=E.slots t s h;exact⟨q1,Xw (id:=0) (rows:=.bool true) F q2⟩
theorem O4{id:Nat}{o:Obj'}:∀ {l:List (Nat×Obj')},(zV id o l).filter (λx=>!Nat.beq x.1 id)=l.filter (λx=>!Nat.beq x.1 id)
 | []=>by simp only[zV,List.filter_cons];rw[show Nat.beq id id=true from beq_iff.2 rfl];rfl
 |(k,u)::r=>by
  simp only[zV];by_cases e:k=id
  .subst e;rw[if_pos rfl];simp only[List.filter_cons];rw[show Nat.beq k k=true from beq_iff.2 rfl];rfl
  .rw[if_neg e];simp only[List.filter_cons];rw[O4]
theorem MX.take{D:Nat}{ms:List Nat}(V:MX X w0 (D::ms) st β a w):w.heap[D]?=some (.deferred (some []))/\MX X w0 ms st β {a with defers:=ms.map mark++w0.dfs} (w.putObj D (.deferred none)):=by
 obtain⟨⟨X',w0',Y,G,E⟩,Z,K,F⟩:=V
 have A:=E D (by simp)
 have M:¬w0'.may D:=G.outer.1 D A.1
 have B:w.heap[D]?=some (.deferred (some [])):=(G.below.block D M).trans A.2
 have T:=(Array.getElem?_eq_some_iff.1 B).1
 have H:∀ b,b≠D->(w.putObj D (.deferred none)).heap[b]?=w.heap[b]?:=λb C=>World.putObj_heap_other C
 have J:(w.putObj D (.deferred none)).heap.size=w.heap.size:=by simp
 have I:Kept w0 (w.putObj D (.deferred none)):=(Y.kept.trans' G.below Y.may).turn rfl rfl rfl (by rw[J];exact Nat.le_refl _) (λk _ I=>H k (λe=>I (by rw[e];exact F D (by simp)))) (λ_=>Nat.le_refl _)
 have O:=G.O3 (w':=w.putObj D (.deferred none)) (X':=X') (λb h=>.inl h) (λb h=>h) (by rw[J];exact Nat.le_refl _) (λb _ hx=>H b (λe=>hx (by rw[e];exact A.1)))
 refine⟨B,⟨⟨X',VW (w.putObj D (.deferred none)) st β w0'.β0 w0'.dfs,⟨Y.outer,Y.x,?_,I,Y.β0,Y.dfs⟩,?_,?_⟩,rfl,(List.nodup_cons.1 K).2,λD' h=>F D' (List.mem_cons_of_mem _ h)⟩⟩
 .rintro b (h | ⟨id,o,N,P⟩)
  .exact .inl (Nat.le_trans I.size h)
  .exact Y.may b (G.may N P)
 .exact O
 .intro D' L
  have Q:D'≠D:=λe=>(List.nodup_cons.1 K).1 (e▸L)
  have N:=E D' (List.mem_cons_of_mem _ L);refine⟨N.1,?_⟩
  show(w.putObj D (.deferred none)).heap[D']?=_
  rw[H D' Q];exact(G.below.block D' (G.outer.1 D' N.1)).trans N.2
theorem Dd{fn:Func}{R:Ending->World->Prop}{n:Nat}(G:w0.dfs=[]):∀ {ms:List Nat} {a:Act} {w:World},MX X w0 ms st β a w ->
  (∀ a' w',a'.tmps=a.tmps->Mods X w0 st β a' w'->∃ v,(results fn a.tmps).run P w' = .ok v w'/\R (.returned v) w')->LeavesInM Fence.wide n P fn a.tmps R (ms.map mark) .returning w
 | [],a,w,F,E=>by
  obtain⟨v,K,J⟩:=E a w rfl F.nil;exact⟨v,K,J⟩
 |D::ms,a,w,F,E=>by
  obtain⟨L,H⟩:=F.take;have:=Dd (fn:=fn) (R:=R) (n:=n) G H (λa' w' e h=>E a' w' e h)
  exact⟨by simp,.inl ⟨D,_,rfl,run_takeDeferred L,this⟩⟩
end
end Go.V

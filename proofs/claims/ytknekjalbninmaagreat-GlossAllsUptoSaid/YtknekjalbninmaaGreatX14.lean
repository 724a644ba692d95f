/- A program logic of my own over the kit: part X14. It needs no conditions. -/
import Derived.Test.YtknekjalbninmaaGreatX4
import Derived.LoopNIn
import Derived.OrdersIn
import Derived.TacticsIn
import Derived.RangeFuncLeaves
import Derived.RangeFuncCalls
import Derived.RangeFuncRecord
set_option linter.all false
namespace Go.V
variable [Dr] [Ov]
open Go.RowKit
def FW(r:Option Nat):Fence:={Fence.wide with round:=r}
theorem Aw{r:Option Nat}{n:Nat}{P:Program}{f:FuncId}{args:Array Value}{w:World}{R:Ending->World->Prop}(h:Calls P f args w R):CallsIn (FW r) n P f args w R:=by
 cases r with
 |none=>exact callsIn_wide.2 h
 |some l=>exact CallsIn.inRound l (callsIn_wide.2 h)
section
variable {P:Program} {Γ:XG} {call:dH} {X:Nat->Prop} {w0:bz} {st:St} {xs xs':XS} {β:Nat->Value} {a:Act} {w:World}
theorem zsx{o:Oper}{K:St->Prop}(E:br P X w0 o a w K)(G:∀ c,o.op≠.defer c)(J:a.defers=w0.dF)(r:Option Nat)(n:Nat)(ms:List Deferred){N:Act->World->Prop}{Q:Exit->Act->World->Prop}
  (L:∀ a' w' st' β',K st'->ax X w0 st' β' a' w'->N {a' with defers:=ms} w'):o.wpIn (FW r) n P {a with defers:=ms} w N Q:=by
 have h:=E (λa' w'=>a'.defers=w0.dF/\N {a' with defers:=ms} w') (λ_ _ _=>False) λa' w' st' β' M O=>⟨O.defers,L a' w' st' β' M O⟩
 unfold Oper.wp at h
 unfold Oper.wpIn
 refine⟨λ_ _=>trivial,?_⟩
 rw[Oper.semAt_eq _ _ _ G]
 have F:({a with defers:=ms}:Act).eval=a.eval:=rfl
 rw[F]
 have H:∀ v,(({a with defers:=ms}:Act).put o.dst v) = {a.put o.dst v with defers:=ms}:=by intro v;cases o.dst <;> rfl
 generalize (execOp a.eval o).run P w=res at h
 cases res with
 |ok x w'=>
  cases x with
  |value v=>simp only[Oper.upon] at h;simp only[Oper.uponIn];rw[H];exact h.2
  |skip=>simp only[Oper.upon] at h;simp only[Oper.uponIn];rw[H];exact h.2
  |enter f args=>
   simp only[Oper.upon] at h;simp only[Oper.uponIn];refine⟨λT=>by simp[FW,Fence.wide] at T,Aw (h.mono λe w'' V=>?_)⟩
   cases e with
   |returned v=>simp only at V ⊢;rw[H];exact V.2
   |panicked chain=>exact V.elim
   |outgrown=>obtain⟨_,_,h⟩:=V;exact h.elim
  |row row args=>
   simp only[Oper.upon] at h;simp only[Oper.uponIn];refine⟨λT=>by simp[FW,Fence.wide] at T,λc cs _=>?_⟩
   obtain⟨v,w'',Y,Z⟩:=h c cs;refine⟨v,w'',by show N _ w'';rw[H];exact Y.2,?_⟩
   have:Machine.fenced P (FW r)=Machine.fenced P Fence.wide:=rfl
   rw[this];exact stepsIn_wide.2 Z
  |defer d=>
   simp only[Oper.upon] at h;have Y:(({a with defers:=d::a.defers}:Act).put o.dst undef).defers=w0.dF:=h.1
   have Z:(({a with defers:=d::a.defers}:Act).put o.dst undef).defers=d::a.defers:=by cases o.dst <;> rfl
   rw[Z,<-J] at Y;exact absurd (congrArg List.length Y) (by simp)
  |round=>exact h.elim
  |_=>exact h.elim
 |halt x w'=>cases x <;> first |exact h.elim |(simp only[Oper.upon] at h)
def mark(D:Nat):Deferred:={target:=.collected D,args:=#[]}
structure ij(X:Nat->Prop)(w0:bz)(X':Nat->Prop)(w0':bz):Prop where
 bU:(∀ b,X b->¬w0.dS b)/\fW w0.w (λb=>X b\/w0.lX b)
 x:∀ b,X b->X' b
 dS:∀ b,w0'.dS b->w0.dS b
 nc:cR w0 w0'.w
 β0:w0'.β0=w0.β0
 dF:w0'.dF=w0.dF
structure MX(X:Nat->Prop)(w0:bz)(ms:List Nat)(st:St)(β:Nat->Value)(a:Act)(w:World):Prop where
 mods:∃ X' w0',ij X w0 X' w0'/\ax X' w0' st β {a with defers:=w0.dF} w/\∀ D∈ms,X' D/\w0'.w.heap[D]?=some (.deferred (some []))
 defers:a.defers=ms.map mark++w0.dF
 nd:ms.Nodup/\∀ D∈ms,w0.dS D
theorem yV.wk{N N' E E':Nat->Prop}(G:∀ b,N b->N' b)(H:bh w E w E'){id:Nat}{ob:am}(h:yV w N E β id ob):yV w N' E' β id ob:=by
 cases ob with
 |box T cells=>
  obtain⟨b,vs,F,K,J,L,M⟩:=h;exact⟨b,vs,F,G b K,J,Xp (id:=0) (rows:=.bool true) H L,M⟩
 |aQ T sz rows=>
  obtain⟨xs,F,K,J⟩:=h;exact⟨xs,⟨F.1,λb O=>⟨G b (F.2 b O).1,(F.2 b O).2⟩⟩,zl.over H _ _ K,J⟩
 |map T rows=>
  obtain⟨r,es,clock,F,K,J,L⟩:=h;exact⟨r,es,clock,F,G r K,J,yN.over H _ _ L⟩
 |cN k cells=>
  obtain⟨b,fn,D,vs,F,K,J,L⟩:=h;exact⟨b,fn,D,vs,F,G b K,J,Xp (id:=0) (rows:=.bool true) H L⟩
theorem cR.lr{B B':bz}{w:World}(G:cR B B'.w)(F:cR B' w)(H:∀ b,B'.dS b->B.dS b):cR B w:=
 ⟨F.os.trans G.os,F.tape.trans G.tape,F.output.trans G.output,oC G.size F.size,λk E=>(F.block k (λh=>E (H k h))).trans (G.block k E),G.drawn.trans F.drawn⟩
theorem ij.jx{X':Nat->Prop}{w0':bz}(G:ij X w0 X' w0')(F:ax X' w0' st β a w):ax X w0 st β a w:=by
 have H:bh w (Ex X' β st.own) w (Ex X β st.own):=bh.dy λb E=>E.elim (λh=>.inl (G.x b h)) .inr
 refine⟨G.bU,⟨F.bI.1,λid K J=>by rw[<-G.β0];exact F.bI.2 id K J⟩,F.cB,F.defers.trans G.dF,F.size,G.nc.lr F.below G.dS,F.bB,?_,F.apart,?_⟩
 .intro id o h
  obtain⟨q1,q2,q3⟩:=F.own id o h;exact⟨q1,q2,q3.wk G.dS H⟩
 .intro t s h
  obtain⟨q1,q2⟩:=F.af t s h;exact⟨q1,QL (id:=0) (rows:=.bool true) H q2⟩
theorem ij.refl(H:ax X w0 st β a w):ij X w0 X w0:=⟨H.bU,λ_ h=>h,λ_ h=>h,cR.refl _,rfl,rfl⟩
theorem MX.of(H:ax X w0 st β a w):MX X w0 [] st β a w:=by
 have e:({a with defers:=w0.dF}:Act)=a:=by have:=H.defers;cases a;simp only at this;subst this;rfl
 exact⟨⟨X,w0,.refl H,by rw[e];exact H,λD h=>by cases h⟩,H.defers,tZ,λD h=>by cases h⟩
theorem MX.plain{ms:List Nat}(h:MX X w0 ms st β a w):ax X w0 st β {a with defers:=w0.dF} w:=by
 obtain⟨⟨X',w0',H,G,_⟩,_⟩:=h
 exact H.jx G
theorem MX.nil(h:MX X w0 [] st β a w):ax X w0 st β a w:=by
 have e:({a with defers:=w0.dF}:Act)=a:=by have:=h.defers;cases a;simp only[tj,oP] at this;subst this;rfl
 rw[<-e];exact h.plain
theorem MX.put{ms:List Nat}(J:MX X w0 ms st β a w){dst:Option Tmp}{s:ah}{v:Value}(L:∀ t,dst=some t->t<st.n)(M:ah.lo st.next s)(hs:∀ E,Sm w E β s v):MX X w0 ms (st.put dst s) β (a.put dst v) w:=by
 obtain⟨⟨X',w0',O,H,G⟩,F,K⟩:=J
 have e:({a.put dst v with defers:=w0.dF}:Act)=({a with defers:=w0.dF}:Act).put dst v:=by cases dst <;> rfl
 exact⟨⟨X',w0',O,by rw[e];exact H.yH L M (hs _),G⟩,by cases dst <;> exact F,K⟩
mutual
theorem zua{m:Nat}:∀ {s:ah},uG m s=true->ah.lo m s
 |.bp i o,h=>by simp only[uG,ZN] at h;simpa[ah.lo] using h
 |.ar i,h=>by simp only[uG,ZN] at h;simpa[ah.lo] using h
 |.ap i _ _ _,h=>by simp only[uG,ZN] at h;simpa[ah.lo] using h
 |.a_s i _ _ _,h=>by simp only[uG,ZN] at h;simpa[ah.lo] using h
 |.av i _ _ _,h=>by simp only[uG,ZN] at h;simpa[ah.lo] using h
 |.yd i,h=>by simp only[uG,ZN] at h;simpa[ah.lo] using h
 |.mp i,h=>by simp only[uG,ZN] at h;simpa[ah.lo] using h
 |.bE l,h=>by simp only[uG] at h;simp only[ah.lo];exact UU h
 |.agg l,h=>by simp only[uG] at h;simp only[ah.lo];exact UU h
 |.fn _ l,h=>by simp only[uG] at h;simp only[ah.lo];exact UU h
 |.d _,_=>by simp[ah.lo]
 |.aW,_=>by simp[ah.lo]
 |.junk,_=>by simp[ah.lo]
theorem UU{m:Nat}:∀ {l:List ah},Vf m l=true->ah.a_ m l
 | [],_=>by simp[ah.a_]
 |s::r,h=>by simp only[Vf,nI] at h;simp only[ah.a_];exact⟨zua h.1,UU h.2⟩
end
theorem ax.aS(K:w0.dF=[])(J:ax X w0 st β a w)(p:Nat×am->Bool){n nx:Nat}{mv:List Nat}(L:st.ai=n)(M:st.next=nx)(E:∀ id,id<n->id∈st.aA->id∈mv):
  ax X w0 (yW (st.own.filter p) n nx mv) β vv w/\∀ s v,Sm w (Ex X β st.own) β s v->Sm w (Ex X β (st.own.filter p)) β s v:=by
 have H:∀ id o,(id,o)∈st.own.filter p->(id,o)∈st.own:=λid o h=>(oA.1 h).1
 have F:bh w (Ex X β st.own) w (Ex X β (st.own.filter p)):=bh.dy (λb O=>O.elim .inl λ⟨i,x,M,e⟩=>.inr ⟨i,x,H i x M,e⟩)
 subst L;subst M
 refine⟨⟨J.bU,⟨J.bI.1,λi Q h2=>J.bI.2 i Q (λh=>h2 (E i Q h))⟩,J.cB,K.symm,rfl,J.below,?_,?_,?_,by intro t s T;simp[yW,zc] at T⟩,λs v h=>QL (id:=0) (rows:=.bool true) F h⟩
 .exact J.bB.sublist (Al _ oX)
 .intro id o G
  obtain⟨q1,q2,q3⟩:=J.own id o (H id o G);exact⟨q1,q2,yV.over (m:=st.next) (λ_ _=>rfl) F q1 q2 (λ_ _=>rfl) q3⟩
 .exact λi x j y c M V e1 e2=>J.apart i x j y c (H i x M) (H j y V) e1 e2
end
end Go.V
namespace Go.V
variable [Dr] [Ov]
open Go.RowKit
def Yy(P:Program)(id:Nat)(args:List ah)(own:List (Nat×am))(n:Nat)(s:ah)(nx:Nat)(own':List (Nat×am))(mv:List Nat):Prop:=
 ∀ (X:Nat->Prop) (w0:bz) (β:Nat->Value) (w:World) (vs:List Value),w0.β0=β->ax X w0 (yW own n n []) β vv w->zi w (Ex X β own) β args vs ->
  ∃ b,β id = .pointer (some ⟨b,0,none⟩)/\∀ (r:Option Nat) (m:Nat),YieldAt (FW r) m P b vs.toArray w λe w'=>∃ β' v,e = .returned v/\ax X w0 (yW own' n nx mv) β' vv w'/\ah.lo nx s/\Sm w' (Ex X β' own') β' s v
section
variable {P:Program} {Γ:XG} {call:dH} {run:iA} {X:Nat->Prop} {w0:bz} {st:St} {xs xs':XS} {β:Nat->Value} {a:Act} {w:World}
theorem E8(L:ax X w0 st β a w){id:Nat}{ps:Array Tmp}{a_s bd:Code}{s s':LoopState}{pd pd':Option Code}{cells:List ah}(G:st.ay id=some (.cN (.lp ps a_s bd s pd) cells)):
  ∃ b fn D vs,β id = .pointer (some ⟨b,0,none⟩)/\w.heap[b]?=some (.loop {state:=s,pending:=pd,fn,tmps:=vs,params:=ps,assign:=a_s,body:=bd,defers:=D}) /\
   ax X w0 {st with own:=zT id (.cN (.lp ps a_s bd s' pd') cells) st.own} β a (w.putObj b (.loop {state:=s',pending:=pd',fn,tmps:=vs,params:=ps,assign:=a_s,body:=bd,defers:=D})):=by
 obtain⟨cq,F,b,fn,D,vs,M,O,Q,hs⟩:=L.dm G
 have E:=(oD.1 Q).1
 refine⟨b,fn,D,vs.toArray,M,Q,?_⟩
 have H:∀ c,c≠b->(w.putObj b (.loop {state:=s',pending:=pd',fn,tmps:=vs.toArray,params:=ps,assign:=a_s,body:=bd,defers:=D})).heap[c]?=w.heap[c]?:=λc T=>World.putObj_heap_other T
 have K:Ex X β st.own b:=.inr ⟨id,_,xm G,by rw[M];rfl⟩
 have J:=QK K H
 refine L.db G (b:=b) (by rw[M];rfl) O H (by simp) rfl rfl rfl (λ_=>nJ _) F ?_
 exact⟨b,fn,D,vs,M,O,World.putObj_heap_same E,zi.over (m:=st.next) (λ_ _=>rfl) J F hs⟩
end
end Go.V
namespace Go.V
variable [Dr] [Ov]
open Go.RowKit
section
variable {P:Program} {Γ:XG} {call:dH} {run:iA} {X:Nat->Prop} {w0:bz} {st:St} {xs xs':XS} {β:Nat->Value} {a:Act} {w:World}
theorem zsy{b:Nat}{args:Array Value}{fn:FuncId}{tmps:Array Value}{a_s bd:Code}(h:(Instr.yield b args).run P w = .ok (.round b fn tmps a_s bd) w):
  (do let d <-Deferred.ofValue (.func (.yield b) #[] #[]) args;invoke d.target d.args:Sem Next).run P w = .ok (.round b fn tmps a_s bd) w:=by
 simp[go_sem,Deferred.ofValue,invoke,h]
theorem zir{ms:List Nat}(H:MX X w0 ms st β a w){t:Nat}{b:Bool}(h:zc st.af t=some (.d (.bool b))):a.tmps[t]?=some (.bool b):=Tt H.plain h
end
end Go.V
namespace Go.V
variable [Dr] [Ov]
open Go.RowKit
section
variable {P:Program} {Γ:XG} {call:dH} {run:iA} {X:Nat->Prop} {w0:bz} {st:St} {xs xs':XS} {β:Nat->Value} {a:Act} {w w':World}
theorem yV.re{N N' E:Nat->Prop}{id:Nat}{ob:am}(H:∀ b,bP (β id)=some b->N' b)(h:yV w N E β id ob):yV w N' E β id ob:=by
 cases ob with
 |box T cells=>obtain⟨b,vs,G,F,K⟩:=h;exact⟨b,vs,G,H b (by rw[G];rfl),K⟩
 |aQ T sz rows=>obtain⟨xs,G,F,K⟩:=h;exact⟨xs,⟨G.1,λb J=>⟨H b J,(G.2 b J).2⟩⟩,F,K⟩
 |map T rows=>obtain⟨r,es,clock,G,F,K⟩:=h;exact⟨r,es,clock,G,H r (by rw[G];rfl),K⟩
 |cN k cells=>obtain⟨b,fn,D,vs,G,F,K⟩:=h;exact⟨b,fn,D,vs,G,H b (by rw[G];exact k.Ym b),K⟩
def JY(w':World)(st:St)(β:Nat->Value)(β0:Nat->Value)(ds:List Deferred):bz:=⟨w',λb=>∃ id o,(id,o)∈st.own/\bP (β id)=some b,β0,ds⟩
theorem ax.Ax(J:ax X w0 st β a w){X':Nat->Prop}(F:∀ b,X' b->X b\/(w.heap.size<=b/\b<w'.heap.size))(L:∀ b,X b->X' b)(K:w.heap.size<=w'.heap.size)
  (H:∀ b,b<w.heap.size->¬X b->w'.heap[b]?=w.heap[b]?):ax X' (JY w' st β w0.β0 w0.dF) st β a w':=by
 have G:∀ {id o b},(id,o)∈st.own->bP (β id)=some b->b<w.heap.size/\¬X b:=λh M=>⟨J.lt _ (.inr ⟨_,_,h,M⟩),λO=>J.bU.1 _ O (J.dS h M)⟩
 have E:bh w (Ex X β st.own) w' (Ex X' β st.own):=by
  intro b M Q;refine⟨?_,H b M (λO=>Q (.inl O))⟩
  rintro(h | h)
  .rcases F b h with h | h
   .exact Q (.inl h)
   .omega
  .exact Q (.inr h)
 refine⟨⟨?_,J.lw.over E⟩,⟨J.bI.1,J.bI.2⟩,J.cB,J.defers,J.size,cR.refl _,J.bB,?_,J.apart,?_⟩
 .rintro b M (h | ⟨id,o,T,V⟩)
  .rcases F b M with Y | Y
   .have:=J.lt b (.inl Y);have h:w'.heap.size<=b:=h;omega
   .have h:w'.heap.size<=b:=h;omega
  .obtain⟨q1,q2⟩:=G T V
   rcases F b M with Y | Y
   .exact q2 Y
   .omega
 .intro id o h
  obtain⟨q1,q2,q3⟩:=J.own id o h;refine⟨q1,q2,yV.re (λb M=>.inr ⟨id,o,h,M⟩) (yV.over (m:=st.next) (λ_ _=>rfl) E q1 q2 (λb M=>?_) q3)⟩
  obtain⟨g1,g2⟩:=G h M;exact H b g1 g2
 .intro t s h
  obtain⟨q1,q2⟩:=J.af t s h;exact⟨q1,Sm.over (m:=st.next) (λ_ _=>rfl) E q1 q2⟩
theorem ax.h_(H:ax X w0 st β a w){X':Nat->Prop}(G:∀ b,X b->X' b)(F:cR w0 w'):ij X w0 X' (JY w' st β w0.β0 w0.dF):=by
 refine⟨H.bU,G,?_,F,rfl,rfl⟩
 rintro b (h | ⟨id,o,E,K⟩)
 .exact .inl (oC F.size h)
 .exact H.dS E K
theorem ax.filt(E:ax X w0 st β a w)(p:Nat×am->Bool):ax X w0 {st with own:=st.own.filter p} β a w:=by
 have H:∀ id o,(id,o)∈st.own.filter p->(id,o)∈st.own:=λid o h=>(oA.1 h).1
 have F:bh w (Ex X β st.own) w (Ex X β (st.own.filter p)):=bh.dy (λb K=>K.elim .inl λ⟨i,x,J,e⟩=>.inr ⟨i,x,H i x J,e⟩)
 refine⟨E.bU,E.bI,E.cB,E.defers,E.size,E.below,E.bB.sublist (Al _ oX),?_,λi x j y c J L e1 e2=>E.apart i x j y c (H i x J) (H j y L) e1 e2,?_⟩
 .intro id o G
  obtain⟨q1,q2,q3⟩:=E.own id o (H id o G);exact⟨q1,q2,yV.over (m:=st.next) (λ_ _=>rfl) F q1 q2 (λ_ _=>rfl) q3⟩
 .intro t s h
  obtain⟨q1,q2⟩:=E.af t s h;exact⟨q1,QL (id:=0) (rows:=.bool true) F q2⟩
theorem Az{id:Nat}{o:am}:∀ {l:List (Nat×am)},(zT id o l).filter (λx=>!Nat.beq x.1 id)=l.filter (λx=>!Nat.beq x.1 id)
 | []=>by simp only[zT,rK];rw[show Nat.beq id id=true from bm.2 rfl];rfl
 |(k,u)::r=>by
  simp only[zT];by_cases e:k=id
  .subst e;rw[gt rfl];simp only[rK];rw[show Nat.beq k k=true from bm.2 rfl];rfl
  .rw[ge e];simp only[rK];rw[Az]
theorem MX.take{D:Nat}{ms:List Nat}(V:MX X w0 (D::ms) st β a w):w.heap[D]?=some (.deferred (some []))/\MX X w0 ms st β {a with defers:=ms.map mark++w0.dF} (w.putObj D (.deferred none)):=by
 obtain⟨⟨X',w0',Y,G,E⟩,Z,K,F⟩:=V
 have A:=E D (by simp)
 have M:¬w0'.dS D:=G.bU.1 D A.1
 have B:w.heap[D]?=some (.deferred (some [])):=(G.below.block D M).trans A.2
 have T:=(oD.1 B).1
 have H:∀ b,b≠D->(w.putObj D (.deferred none)).heap[b]?=w.heap[b]?:=λb C=>World.putObj_heap_other C
 have J:(w.putObj D (.deferred none)).heap.size=w.heap.size:=by simp
 have I:cR w0 (w.putObj D (.deferred none)):=(Y.nc.lr G.below Y.dS).k_ rfl rfl rfl (by rw[J];exact nJ _) (λk _ I=>H k (λe=>I (by rw[e];exact F D (by simp)))) (λ_=>nJ _)
 have O:=G.Ax (w':=w.putObj D (.deferred none)) (X':=X') (λb h=>.inl h) (λb h=>h) (by rw[J];exact nJ _) (λb _ hx=>H b (λe=>hx (by rw[e];exact A.1)))
 refine⟨B,⟨⟨X',JY (w.putObj D (.deferred none)) st β w0'.β0 w0'.dF,⟨Y.bU,Y.x,?_,I,Y.β0,Y.dF⟩,?_,?_⟩,rfl,(oE.1 K).2,λD' h=>F D' (nG _ h)⟩⟩
 .rintro b (h | ⟨id,o,N,P⟩)
  .exact .inl (oC I.size h)
  .exact Y.dS b (G.dS N P)
 .exact O
 .intro D' L
  have Q:D'≠D:=λe=>(oE.1 K).1 (e▸L)
  have N:=E D' (nG _ L);refine⟨N.1,?_⟩
  show(w.putObj D (.deferred none)).heap[D']?=_
  rw[H D' Q];exact(G.below.block D' (G.bU.1 D' N.1)).trans N.2
theorem E9{fn:Func}{R:Ending->World->Prop}{n:Nat}(G:w0.dF=[]):∀ {ms:List Nat} {a:Act} {w:World},MX X w0 ms st β a w ->
  (∀ a' w',a'.tmps=a.tmps->ax X w0 st β a' w'->∃ v,(results fn a.tmps).run P w' = .ok v w'/\R (.returned v) w')->LeavesInM Fence.wide n P fn a.tmps R (ms.map mark) .returning w
 | [],a,w,F,E=>by
  obtain⟨v,K,J⟩:=E a w rfl F.nil;exact⟨v,K,J⟩
 |D::ms,a,w,F,E=>by
  obtain⟨L,H⟩:=F.take;have:=E9 (fn:=fn) (R:=R) (n:=n) G H (λa' w' e h=>E a' w' e h)
  exact⟨by simp,.inl ⟨D,_,rfl,run_takeDeferred L,this⟩⟩
end
end Go.V

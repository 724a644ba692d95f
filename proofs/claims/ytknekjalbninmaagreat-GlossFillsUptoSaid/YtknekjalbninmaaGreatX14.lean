/- A program logic of my own over the kit: part X14. It needs no conditions. -/
import Derived.Test.YtknekjalbninmaaGreatX4
import Derived.LoopNIn
import Derived.OrdersIn
import Derived.TacticsIn
import Derived.RangeFuncLeaves
import Derived.RangeFuncCalls
import Derived.RangeFuncRecord
set_option linter.unusedVariables false
set_option linter.unusedSimpArgs false
set_option linter.unusedSectionVars false
namespace Go.V
variable [Dr] [Ov]
open Go.RowKit
def FW(r:Option Nat):Fence:={Fence.wide with round:=r}
theorem zp5{r:Option Nat}{n:Nat}{P:Program}{f:FuncId}{args:Array Value}{w:World}{R:Ending->World->Prop}(h:Calls P f args w R):CallsIn (FW r) n P f args w R:=by
 cases r with
 |none=>exact callsIn_wide.2 h
 |some l=>exact CallsIn.inRound l (callsIn_wide.2 h)
section
variable {P:Program} {Γ:XG} {call:Caller} {X:Nat->Prop} {w0:Base} {st:St} {xs xs':XS} {β:Nat->Value} {a:Act} {w:World}
theorem yhh{o:Oper}{K:St->Prop}(E:Goes P X w0 o a w K)(G:∀ c,o.op≠.defer c)(J:a.defers=w0.dfs)(r:Option Nat)(n:Nat)(ms:List Deferred){N:Act->World->Prop}{Q:Exit->Act->World->Prop}
  (L:∀ a' w' st' β',K st'->Mods X w0 st' β' a' w'->N {a' with defers:=ms} w'):o.wpIn (FW r) n P {a with defers:=ms} w N Q:=by
 have h:=E (λa' w'=>a'.defers=w0.dfs/\N {a' with defers:=ms} w') (λ_ _ _=>False) λa' w' st' β' M O=>⟨O.defers,L a' w' st' β' M O⟩
 unfold Oper.wp at h
 unfold Oper.wpIn
 refine⟨λ_ _=>trivial,?_⟩
 rw[Oper.semAt_eq _ _ _ G]
 have F:({a with defers:=ms}:Act).eval=a.eval:=rfl
 rw[F]
 have H:∀ v,(({a with defers:=ms}:Act).put o.dst v) = {a.put o.dst v with defers:=ms}:=by intro v;cases o.dst <;> rfl
 generalize (execOp a.eval o).run P w=res at h
 cases res with
 |ok x w'=>
  cases x with
  |value v=>simp only[Oper.upon] at h;simp only[Oper.uponIn];rw[H];exact h.2
  |skip=>simp only[Oper.upon] at h;simp only[Oper.uponIn];rw[H];exact h.2
  |enter f args=>
   simp only[Oper.upon] at h;simp only[Oper.uponIn];refine⟨λT=>by simp[FW,Fence.wide] at T,zp5 (h.mono λe w'' V=>?_)⟩
   cases e with
   |returned v=>simp only at V ⊢;rw[H];exact V.2
   |panicked chain=>exact V.elim
   |outgrown=>obtain⟨_,_,h⟩:=V;exact h.elim
  |row row args=>
   simp only[Oper.upon] at h;simp only[Oper.uponIn];refine⟨λT=>by simp[FW,Fence.wide] at T,λc cs _=>?_⟩
   obtain⟨v,w'',Y,h2⟩:=h c cs;refine⟨v,w'',by show N _ w'';rw[H];exact Y.2,?_⟩
   have:Machine.fenced P (FW r)=Machine.fenced P Fence.wide:=rfl
   rw[this];exact stepsIn_wide.2 h2
  |defer d=>
   simp only[Oper.upon] at h;have Y:(({a with defers:=d::a.defers}:Act).put o.dst undef).defers=w0.dfs:=h.1
   have h2:(({a with defers:=d::a.defers}:Act).put o.dst undef).defers=d::a.defers:=by cases o.dst <;> rfl
   rw[h2,<-J] at Y;exact absurd (congrArg List.length Y) (by simp)
  |round=>exact h.elim
  |_=>exact h.elim
 |halt x w'=>cases x <;> first |exact h.elim |(simp only[Oper.upon] at h)
def mark(D:Nat):Deferred:={target:=.collected D,args:=#[]}
structure Under(X:Nat->Prop)(w0:Base)(X':Nat->Prop)(w0':Base):Prop where
 outer:(∀ b,X b->¬w0.may b)/\Glob w0.w (λb=>X b\/w0.foot b)
 x:∀ b,X b->X' b
 may:∀ b,w0'.may b->w0.may b
 kept:Kept w0 w0'.w
 β0:w0'.β0=w0.β0
 dfs:w0'.dfs=w0.dfs
structure MX(X:Nat->Prop)(w0:Base)(ms:List Nat)(st:St)(β:Nat->Value)(a:Act)(w:World):Prop where
 mods:∃ X' w0',Under X w0 X' w0'/\Mods X' w0' st β {a with defers:=w0.dfs} w/\∀ D∈ms,X' D/\w0'.w.heap[D]?=some (.deferred (some []))
 defers:a.defers=ms.map mark++w0.dfs
 nd:ms.Nodup/\∀ D∈ms,w0.may D
theorem zdi.wk{N N' E E':Nat->Prop}(G:∀ b,N b->N' b)(H:Over w E w E'){id:Nat}{ob:Obj'}(h:zdi w N E β id ob):zdi w N' E' β id ob:=by
 cases ob with
 |box T cells=>
  obtain⟨b,vs,F,h2,K,J,L⟩:=h;exact⟨b,vs,F,G b h2,K,zix (id:=0) (rows:=.bool true) H J,L⟩
 |arr T sz rows=>
  obtain⟨xs,F,h2,K⟩:=h;exact⟨xs,⟨F.1,λb M=>⟨G b (F.2 b M).1,(F.2 b M).2⟩⟩,zah.over H _ _ h2,K⟩
 |map T rows=>
  obtain⟨r,es,clock,F,h2,K,J⟩:=h;exact⟨r,es,clock,F,G r h2,K,zdb.over H _ _ J⟩
 |raw k cells=>
  obtain⟨b,fn,D,vs,F,h2,K,J⟩:=h;exact⟨b,fn,D,vs,F,G b h2,K,zix (id:=0) (rows:=.bool true) H J⟩
theorem Kept.trans'{B B':Base}{w:World}(G:Kept B B'.w)(h2:Kept B' w)(H:∀ b,B'.may b->B.may b):Kept B w:=
 ⟨h2.os.trans G.os,h2.tape.trans G.tape,h2.output.trans G.output,Nat.le_trans G.size h2.size,λk F=>(h2.block k (λh=>F (H k h))).trans (G.block k F),G.drawn.trans h2.drawn⟩
theorem Under.back{X':Nat->Prop}{w0':Base}(G:Under X w0 X' w0')(F:Mods X' w0' st β a w):Mods X w0 st β a w:=by
 have H:Over w (Ex X' β st.own) w (Ex X β st.own):=Over.less λb E=>E.elim (λh=>.inl (G.x b h)) .inr
 refine⟨G.outer,⟨F.still.1,λid K h2=>by rw[<-G.β0];exact F.still.2 id K h2⟩,F.one,F.defers.trans G.dfs,F.size,G.kept.trans' F.below G.may,F.keys,?_,F.apart,?_⟩
 .intro id o h
  obtain⟨q1,q2,q3⟩:=F.own id o h;exact⟨q1,q2,q3.wk G.may H⟩
 .intro t s h
  obtain⟨q1,q2⟩:=F.slots t s h;exact⟨q1,zpr (id:=0) (rows:=.bool true) H q2⟩
theorem Under.refl(H:Mods X w0 st β a w):Under X w0 X w0:=⟨H.outer,λ_ h=>h,λ_ h=>h,Kept.refl _,rfl,rfl⟩
theorem MX.of(H:Mods X w0 st β a w):MX X w0 [] st β a w:=by
 have e:({a with defers:=w0.dfs}:Act)=a:=by have:=H.defers;cases a;simp only at this;subst this;rfl
 exact⟨⟨X,w0,.refl H,by rw[e];exact H,λD h=>by cases h⟩,H.defers,List.nodup_nil,λD h=>by cases h⟩
theorem MX.plain{ms:List Nat}(h:MX X w0 ms st β a w):Mods X w0 st β {a with defers:=w0.dfs} w:=by
 obtain⟨⟨X',w0',H,G,_⟩,_⟩:=h
 exact H.back G
theorem MX.nil(h:MX X w0 [] st β a w):Mods X w0 st β a w:=by
 have e:({a with defers:=w0.dfs}:Act)=a:=by have:=h.defers;cases a;simp only[List.map_nil,List.nil_append] at this;subst this;rfl
 rw[<-e];exact h.plain
theorem yhi{look:Nat->Option Obj'}{ρ:Operand->Sym}{c:Call}:xop Γ look ρ (.defer c)=none:=rfl
theorem z6q{o:Oper}(h:zzf Γ call o xs=some xs'):∀ c,o.op≠.defer c:=by
 intro c e
 unfold zzf at h
 rw[e] at h
 simp[yhi,zau] at h
 split at h <;> cases h
theorem z9r(L:XGood P Γ)(M:zbe P call)(F:Ag st xs){ms:List Nat}(O:MX X w0 ms st β a w){o:Oper}(h:zzf Γ call o xs=some xs')(r:Option Nat)(n:Nat){N:Act->World->Prop}{Q:Exit->Act->World->Prop}
  (T:∀ a' w' st' β',Ag st' xs'->MX X w0 ms st' β' a' w'->N a' w'):o.wpIn (FW r) n P a w N Q:=by
 obtain⟨⟨X',w0',V,E,K⟩,Y,J⟩:=O
 have:=yhh (zi9 L M F E h) (z6q h) V.dfs.symm r n (ms.map mark++w0.dfs) (N:=N) (Q:=Q) λa' w' st' β' H G=>
  T _ w' st' β' H ⟨⟨X',w0',V,by have e:=G.defers.trans V.dfs;cases a';simp only at e;subst e;exact G,K⟩,rfl,J⟩
 have e:({({a with defers:=w0.dfs}:Act) with defers:=ms.map mark++w0.dfs}:Act)=a:=by cases a;simp only at Y;subst Y;rfl
 rw[e] at this
 exact this
theorem MX.put{ms:List Nat}(J:MX X w0 ms st β a w){dst:Option Tmp}{s:Sym}{v:Value}(L:∀ t,dst=some t->t<st.n)(M:Sym.lo st.next s)(hs:∀ E,Sm w E β s v):MX X w0 ms (st.put dst s) β (a.put dst v) w:=by
 obtain⟨⟨X',w0',O,H,G⟩,F,K⟩:=J
 have e:({a.put dst v with defers:=w0.dfs}:Act)=({a with defers:=w0.dfs}:Act).put dst v:=by cases dst <;> rfl
 exact⟨⟨X',w0',O,by rw[e];exact H.za1 L M (hs _),G⟩,by cases dst <;> exact F,K⟩
theorem z2t:∀ {k:Nat} {l:List Sym} {tr:Tr} {t:Nat},k+l.length<4095->Tr.get dep (zvq k l tr) t=if k<=t/\t<k+l.length then l[t-k]? else Tr.get dep tr t
 |k,[],tr,t,h=>by simp only[zvq,List.length_nil];rw[if_neg (by omega)]
 |k,s::r,tr,t,h=>by
  simp only[zvq,List.length_cons] at h ⊢;rw[z2t (by omega),Tr.get_put dep tr k s t (by simp[dep];omega)]
  by_cases H:k+1<=t/\t<k+1+r.length
  .rw[if_pos H,if_pos (by omega)]
   have:t-k=(t-(k+1))+1:=by omega
   rw[this,List.getElem?_cons_succ]
  .rw[if_neg H]
   by_cases h2:k=t
   .rw[if_pos h2,if_pos (by omega)];subst h2;simp
   .rw[if_neg h2,if_neg (by omega)]
theorem zrf:∀ {k:Nat} {l:List Sym} {t:Nat},zac (zeu k l) t=if k<=t/\t<k+l.length then l[t-k]? else none
 |k,[],t=>by simp only[zeu,zac,List.length_nil];rw[if_neg (by omega)]
 |k,s::r,t=>by
  simp only[zeu,zac,List.length_cons];rw[zrf];by_cases h2:k=t
  .rw[if_pos h2,if_pos (by omega)];subst h2;simp
  .rw[if_neg h2]
   by_cases H:k+1<=t/\t<k+1+r.length
   .rw[if_pos H,if_pos (by omega)]
    have:t-k=(t-(k+1))+1:=by omega
    rw[this,List.getElem?_cons_succ]
   .rw[if_neg H,if_neg (by omega)]
theorem Ag.init(args:List Sym)(own:List (Nat×Obj'))(n ntmps:Nat)(h:args.length<4000):Ag (initC ntmps args own n) ⟨args.length+(ntmps-args.length),n,zvq 0 args .leaf,own,n,[]⟩:=by
 refine⟨rfl,rfl,rfl,rfl,by simp[initC],λt=>?_⟩
 show zac (zeu 0 args) t=Tr.get dep (zvq 0 args .leaf) t
 rw[zrf,z2t (by omega),Tr.zi6]
theorem Ag.init'(cells:List Sym)(own:List (Nat×Obj'))(n:Nat)(h:cells.length<4000):Ag (initC 0 cells own n) ⟨cells.length,n,zvq 0 cells .leaf,own,n,[]⟩:=by
 have:=Ag.init cells own n 0 h
 simpa using this
theorem zza(G:XGood P Γ)(H:Ag st xs):∀ {rs:List ResultVar} {l:List Sym},z6y Γ xs rs=some l->zi4 P st rs=some l
 | [],l,h=>by simpa[z6y,zi4] using h
 |v::r,l,h=>by
  simp only[z6y] at h;split at h
  .rename_i s l' F h2
   cases h;simp only[zi4];rw[zza G H h2];have:zq6 P st v=some s:=by
    cases v with
    |tmp t=>simp only[zq6,xres] at F ⊢;rw[H.slots];exact F
    |cell ad T=>
     simp only[zq6,xres] at F ⊢;rw[H.slots,H.look];split at F
     .rename_i id off ti E ht
      rw[E,G.ti ht];exact F
     .cases F
   rw[this]
  .cases h
mutual
theorem yhj{m:Nat}:∀ {s:Sym},loB m s=true->Sym.lo m s
 |.bp i o,h=>by simp only[loB,zbu] at h;simpa[Sym.lo] using h
 |.ar i,h=>by simp only[loB,zbu] at h;simpa[Sym.lo] using h
 |.ap i _ _ _,h=>by simp only[loB,zbu] at h;simpa[Sym.lo] using h
 |.aS i _ _ _,h=>by simp only[loB,zbu] at h;simpa[Sym.lo] using h
 |.av i _ _ _,h=>by simp only[loB,zbu] at h;simpa[Sym.lo] using h
 |.yd i,h=>by simp only[loB,zbu] at h;simpa[Sym.lo] using h
 |.mp i,h=>by simp only[loB,zbu] at h;simpa[Sym.lo] using h
 |.tup l,h=>by simp only[loB] at h;simp only[Sym.lo];exact zks h
 |.agg l,h=>by simp only[loB] at h;simp only[Sym.lo];exact zks h
 |.fn _ l,h=>by simp only[loB] at h;simp only[Sym.lo];exact zks h
 |.d _,_=>by simp[Sym.lo]
 |.nils,_=>by simp[Sym.lo]
 |.junk,_=>by simp[Sym.lo]
theorem zks{m:Nat}:∀ {l:List Sym},losB m l=true->Sym.los m l
 | [],_=>by simp[Sym.los]
 |s::r,h=>by simp only[losB,Bool.and_eq_true] at h;simp only[Sym.los];exact⟨yhj h.1,zks h.2⟩
end
theorem Mods.final(K:w0.dfs=[])(J:Mods X w0 st β a w)(p:Nat×Obj'->Bool){n nx:Nat}{mv:List Nat}(L:st.base=n)(M:st.next=nx)(E:∀ id,id<n->id∈st.moved->id∈mv):
  Mods X w0 (zbt (st.own.filter p) n nx mv) β act0 w/\∀ s v,Sm w (Ex X β st.own) β s v->Sm w (Ex X β (st.own.filter p)) β s v:=by
 have H:∀ id o,(id,o)∈st.own.filter p->(id,o)∈st.own:=λid o h=>(List.mem_filter.1 h).1
 have F:Over w (Ex X β st.own) w (Ex X β (st.own.filter p)):=Over.less (λb O=>O.elim .inl λ⟨i,x,M,e⟩=>.inr ⟨i,x,H i x M,e⟩)
 subst L;subst M
 refine⟨⟨J.outer,⟨J.still.1,λi Q h2=>J.still.2 i Q (λh=>h2 (E i Q h))⟩,J.one,K.symm,rfl,J.below,?_,?_,?_,by intro t s T;simp[zbt,zac] at T⟩,λs v h=>zpr (id:=0) (rows:=.bool true) F h⟩
 .exact J.keys.sublist (List.Sublist.map _ List.filter_sublist)
 .intro id o G
  obtain⟨q1,q2,q3⟩:=J.own id o (H id o G);exact⟨q1,q2,zdi.over (m:=st.next) (λ_ _=>rfl) F q1 q2 (λ_ _=>rfl) q3⟩
 .exact λi x j y c M V e1 e2=>J.apart i x j y c (H i x M) (H j y V) e1 e2
end
end Go.V
namespace Go.V
variable [Dr] [Ov]
open Go.RowKit
def ylg(P:Program)(r:Option Nat)(pl:Bool)(c:Code)(e:DE)(xs':XS)(st:St):Prop:=
 ∀ (X:Nat->Prop) (w0:Base) (β:Nat->Value) (a:Act) (w:World) (ms:List Nat) (n:Nat),MX X w0 ms st β a w->(pl=true->r=none/\ms=[]) ->
  c.wpIn (FW r) n P (λe' a' w'=>∃ st' β' ms',exM e' e/\Ag st' xs'/\MX X w0 ms' st' β' a' w'/\((pl&&zbo c)=false->ms'=ms)) a w
def zhp(P:Program)(run:Runner):Prop:=∀ c xs e xs' st l,run c xs=some (e,xs')->Ag st xs->ylg P (some l) false c e xs' st
def zuw(P:Program)(id:Nat)(args:List Sym)(own:List (Nat×Obj'))(n:Nat)(s:Sym)(nx:Nat)(own':List (Nat×Obj'))(mv:List Nat):Prop:=
 ∀ (X:Nat->Prop) (w0:Base) (β:Nat->Value) (w:World) (vs:List Value),w0.β0=β->Mods X w0 (zbt own n n []) β act0 w->Sms w (Ex X β own) β args vs ->
  ∃ b,β id = .pointer (some ⟨b,0,none⟩)/\∀ (r:Option Nat) (m:Nat),YieldAt (FW r) m P b vs.toArray w λe w'=>∃ β' v,e = .returned v/\Mods X w0 (zbt own' n nx mv) β' act0 w'/\Sym.lo nx s/\Sm w' (Ex X β' own') β' s v
section
variable {P:Program} {Γ:XG} {call:Caller} {run:Runner} {X:Nat->Prop} {w0:Base} {st:St} {xs xs':XS} {β:Nat->Value} {a:Act} {w:World}
theorem z9s:∀ {ps:List Nat} {ss:List Sym} {vs:List Value} {st:St} {xs:XS} {a:Act},Ag st xs->Mods X w0 st β a w->(∀ p∈ps,p<st.n/\p+1<4096)->Sym.los st.next ss->Sms w (Ex X β st.own) β ss vs->ps.length=ss.length ->
  ∃ st',Ag st' {xs with slots:=z9v ps ss xs.slots}/\Mods X w0 st' β {a with tmps:=(ps.zip vs).foldl (λt (p,v)=>t.setIfInBounds p v) a.tmps} w
 | [],[],vs,st,xs,a,H,K,_,_,_,_=>⟨st,by simpa[z9v] using H,by simpa using K⟩
 |p::ps,s::ss,vs,st,xs,a,H,K,J,L,hs,G=>by
  simp only[Sms] at hs;obtain⟨v,vs',rfl,M,h2⟩:=hs;simp only[Sym.los] at L;have E:=K.za1 (dst:=some p) (s:=s) (v:=v) (λt e=>by cases e;exact(J p (by simp)).1) L.1 M
  have F:Ag (st.put (some p) s) (xs.put (some p) s):=by
   refine⟨H.n,H.next,H.own,H.base,H.moved,λu=>?_⟩
   show(if p=u then some s else zac st.slots u)=Tr.get dep (Tr.put dep xs.slots p s) u
   rw[Tr.get_put dep xs.slots p s u (by simpa[dep] using(J p (by simp)).2),H.slots];rfl
  obtain⟨st',g1,g2⟩:=z9s (ps:=ps) (ss:=ss) (vs:=vs') F E (λq O=>J q (List.mem_cons_of_mem _ O)) L.2 h2 (by simpa using G)
  exact⟨st',g1,g2⟩
theorem zfe(L:Mods X w0 st β a w){id:Nat}{ps:Array Tmp}{aS bd:Code}{s s':LoopState}{pd pd':Option Code}{cells:List Sym}(G:st.look id=some (.raw (.lp ps aS bd s pd) cells)):
  ∃ b fn D vs,β id = .pointer (some ⟨b,0,none⟩)/\w.heap[b]?=some (.loop {state:=s,pending:=pd,fn,tmps:=vs,params:=ps,assign:=aS,body:=bd,defers:=D}) /\
   Mods X w0 {st with own:=aset id (.raw (.lp ps aS bd s' pd') cells) st.own} β a (w.putObj b (.loop {state:=s',pending:=pd',fn,tmps:=vs,params:=ps,assign:=aS,body:=bd,defers:=D})):=by
 obtain⟨hid,F,b,fn,D,vs,M,O,Q,hs⟩:=L.obj G
 have E:=(Array.getElem?_eq_some_iff.1 Q).1
 refine⟨b,fn,D,vs.toArray,M,Q,?_⟩
 have H:∀ c,c≠b->(w.putObj b (.loop {state:=s',pending:=pd',fn,tmps:=vs.toArray,params:=ps,assign:=aS,body:=bd,defers:=D})).heap[c]?=w.heap[c]?:=λc T=>World.putObj_heap_other T
 have K:Ex X β st.own b:=.inr ⟨id,_,za0 G,by rw[M];rfl⟩
 have J:=zle K H
 refine L.update G (b:=b) (by rw[M];rfl) O H (by simp) rfl rfl rfl (λ_=>Nat.le_refl _) F ?_
 exact⟨b,fn,D,vs,M,O,World.putObj_heap_same E,Sms.over (m:=st.next) (λ_ _=>rfl) J F hs⟩
theorem z2u(hr:zhp P run){id:Nat}{args:List Sym}{own:List (Nat×Obj')}{n:Nat}{R:XR}(hl:Sym.los n args)(h:z2z run id args own n=some R):zuw P id args own n R.s R.nx R.own R.mv:=by
 unfold z2z at h
 rw[zhb] at h
 split at h
 .rename_i ps aS bd cells Hf
  split at h
  .rename_i xs1 h1
   rw[zaf] at h1;simp only[Bool.and_eq_true,beq_iff,List.all_eq_true,zbu] at h1;obtain⟨⟨⟨H9,Ha⟩,Hg⟩,h1⟩:=h1;split at h
   .rename_i ps1 a1 b1 cells1 Z
    rw[zaf] at Z;simp only[Bool.and_eq_true,beq_iff,Bool.not_eq_true',zbu] at Z;obtain⟨⟨⟨Hh,A⟩,L⟩,B⟩:=Z;split at h
    .rename_i de xs2 h2
     split at h
     .rename_i ps2 a2 b2 cells2 hlk2
      rw[zaf] at h;simp only[Bool.and_eq_true,beq_iff,Bool.not_eq_true'] at h;obtain⟨⟨Hb,C⟩,h⟩:=h;cases h;intro X w0 β w vs hβ hm hs;have I:(zbt own n n []).look id=some (.raw (.lp ps aS bd .ready none) cells):=Hf
      obtain⟨hid,Hi,b,fn,D,vs0,hb,hN,hh,Hj⟩:=hm.obj I;replace hb:β id = .pointer (some ⟨b,0,none⟩):=hb
      refine⟨b,hb,λr m=>?_⟩
      have N:=hs.length;have hy:=run_yield (P:=P) (args:=vs.toArray) hh (by simp[N,H9])
      refine⟨fn,_,aS,bd,hy,roundIn_of_wpIn trivial ?_⟩
      -- the round's frame
      have Hk:=hm.initC (ntmps:=0) Hj Hi;have S:=Ag.init' cells own n Hg;obtain⟨st1,W,Hl⟩:=z9s (ps:=ps.toList) (ss:=args) (vs:=vs) S Hk (λp hp=>⟨by have:=Ha p hp;simpa[initC] using this,by have:=Ha p hp;omega⟩) hl hs (by simp[H9])
      have H0:({tmps:=(ps.zip vs.toArray).foldl (λtmps (t,a)=>tmps.setIfInBounds t a) vs0.toArray,defers:=[]}:Act) =
        {({tmps:=vs0.toArray++Array.replicate (0-vs0.toArray.size) undef,defers:=[]}:Act) with tmps:=(ps.toList.zip vs).foldl (λt (p,v)=>t.setIfInBounds p v) (vs0.toArray++Array.replicate (0-vs0.toArray.size) undef)}:=by
       congr 1
       rw[<-Array.foldl_toList];simp
      rw[H0];have M:=hr aS _ .normal xs1 st1 b h1 W X w0 β _ w [] m (.of Hl) (λe=>by cases e)
      have efw:(FW r).inRound b=FW (some b):=rfl
      rw[efw];refine wpIn_mono M ?_
      rintro e' a' w' ⟨st2,β2,ms2,he,F,H1,H2⟩
      have O:ms2=[]:=H2 rfl
      subst O;cases e' <;> simp only[exM] at he
      have Hc:=H1.nil;have same:∀ {st':St} {xs':XS} {β':Nat->Value} {a':Act} {w':World},Mods X w0 st' β' a' w'->Ag st' xs'->xs'.base=n->xs'.moved.any (Nat.beq id)=false->β' id=β id:=by
       intro st' xs' β' a' w' Hm Q Hn T;have G:st'.base=n:=by rw[Q.base];exact Hn
       rw[Hm.still.2 id (by rw[G];exact L) (λhmem=>by
        have:=Q.moved id (by rw[G];exact L) hmem
        rw[any_beq.2 this] at T;cases T),hβ]
      have H3:st2.look id=some (.raw (.lp ps1 a1 b1 .ready none) cells1):=by rw[F.look];exact B
      obtain⟨b',fn',D',vs',Ho,Hp,Hq⟩:=zfe (s':=.busy) (pd':=none) Hc H3;have ebb:b'=b:=by
       have:=same Hc F Hh A
       rw[Ho,hb] at this;simpa using this
      subst ebb;refine⟨_,run_beginRound Hp rfl,?_⟩
      have H4:Ag {st2 with own:=aset id (.raw (.lp ps1 a1 b1 .busy none) cells1) st2.own} (xs1.set id (.raw (.lp ps1 a1 b1 .busy none) cells1)):=F.set id _
      have V:=hr _ _ de xs2 _ b' h2 H4 X w0 β2 a' _ [] m (.of Hq) (λe=>by cases e)
      refine wpIn_mono V ?_
      rintro e' a' w' ⟨st4,β4,ms4,Hd,E,H5,H6⟩
      have Y:ms4=[]:=H6 rfl
      subst Y;have He:=H5.nil;have H7:st4.look id=some (.raw (.lp ps2 a2 b2 .busy none) cells2):=by rw[E.look];exact hlk2
      obtain⟨b4,fn4,D4,vs4,H8,Hr,Hs⟩:=zfe (s':=zgw de) (pd':=zdc de) He H7;have ebb4:b4=b':=by
       have:=same He E Hb C
       rw[H8,hb] at this;simpa using this
      subst ebb4;have H:Ag {st4 with own:=aset id (.raw (.lp ps2 a2 b2 (zgw de) (zdc de)) cells2) st4.own} (xs2.set id (.raw (.lp ps2 a2 b2 (zgw de) (zdc de)) cells2)):=E.set id _
      obtain⟨m1,m2⟩:=Hs.final hm.defers.symm (z2y n (reach xs2.look 1000 (List.range n) [])) (n:=n) (nx:=xs2.next) (mv:=xs2.moved) (by rw[H.base];exact Hb) H.next (λi h1 h2=>H.moved i (by rw[H.base];show i<xs2.base;omega) h2)
      have K:=run_endRound (P:=P) (zdc de) Hr;have J:∃ β' v,Ending.returned (.bool (zdc de).isNone) = .returned v/\Mods X w0 (zbt ((xs2.set id (.raw (.lp ps2 a2 b2 (zgw de) (zdc de)) cells2)).own.filter (z2y n (reach xs2.look 1000 (List.range n) []))) n xs2.next xs2.moved) β' act0
        (w'.putObj b4 (.loop {state:=if (zdc de).isNone then .ready else .done,pending:=zdc de,fn:=fn4,tmps:=vs4,params:=ps2,assign:=a2,body:=b2,defers:=D4}))/\Sym.lo xs2.next (.d (.bool (zga de))) /\
        Sm (w'.putObj b4 (.loop {state:=if (zdc de).isNone then .ready else .done,pending:=zdc de,fn:=fn4,tmps:=vs4,params:=ps2,assign:=a2,body:=b2,defers:=D4})) (Ex X β' ((xs2.set id (.raw (.lp ps2 a2 b2 (zgw de) (zdc de)) cells2)).own.filter (z2y n (reach xs2.look 1000 (List.range n) [])))) β' (.d (.bool (zga de))) v:=by
       have est:(if (zdc de).isNone then LoopState.ready else .done)=zgw de:=by cases de <;> rfl
       have ebo:(zdc de).isNone=zga de:=by cases de <;> rfl
       rw[est];rw[H.own] at m1;exact⟨β4,_,rfl,m1,by simp[Sym.lo],by simp[Sm,R,ebo]⟩
      cases e' <;> cases de <;> simp only[exM] at Hd
      .exact⟨_,_,K,J⟩
      .subst Hd;exact⟨_,_,K,J⟩
      .exact⟨_,_,K,J⟩
     .cases h
    .cases h
   .cases h
  .cases h
 .cases h
end
end Go.V
namespace Go.V
variable [Dr] [Ov]
open Go.RowKit
section
variable {P:Program} {Γ:XG} {call:Caller} {run:Runner} {X:Nat->Prop} {w0:Base} {st:St} {xs xs':XS} {β:Nat->Value} {a:Act} {w:World}
theorem yhk(H:Ag st xs)(G:Mods X w0 st β a w){ids:List Nat}{own0:List (Nat×Obj')}(F:nodupB ids=true)(E:z2x xs.look ids 0 ids=some own0):Fits st ids own0:=by
 obtain⟨q1,q2,q3⟩:=zqb E (λj x K=>by simp[rho,K])
 refine⟨zi8 F,?_,by rw[q1,List.range_eq_range'],zu5 λi o hmem=>?_⟩
 .intro id hid
  obtain⟨o,J⟩:=q3 id hid;rw[<-H.look] at J;exact(G.obj J).1
 .obtain⟨o',L,M,O⟩:=q2 i o hmem
  obtain⟨Q,T⟩:=z9y O;rw[H.look,M,Q];exact⟨L,T⟩
theorem zw7{ids:List Nat}{own0:List (Nat×Obj')}(G:Fits st ids own0){aS:List Sym}{vs:List Value}(H:zm1 ids aS=true)(hs:Sms w (Ex X β st.own) β aS vs):
  Sms w (Ex (outOf X β ids st.own) (λi=>β (rho ids i)) own0) (λi=>β (rho ids i)) (rens (zcf ids) aS) vs/\Sym.los ids.length (rens (zcf ids) aS):=by
 obtain⟨F,h2⟩:=zhc H
 have E:Ex (outOf X β ids st.own) (λi=>β (rho ids i)) own0=Ex X β st.own:=funext λb=>propext (G.ex b)
 rw[<-F] at hs
 rw[E]
 exact⟨zhm (ρ:=rho ids) (β:=λi=>β (rho ids i)) (β':=β) (m:=ids.length) (λ_ _=>rfl) h2 hs,h2⟩
theorem yhl{b:Nat}{args:Array Value}{fn:FuncId}{tmps:Array Value}{aS bd:Code}(h:(Instr.yield b args).run P w = .ok (.round b fn tmps aS bd) w):
  (do let d <-Deferred.ofValue (.func (.yield b) #[] #[]) args;invoke d.target d.args:Sem Next).run P w = .ok (.round b fn tmps aS bd) w:=by
 simp[go_sem,Deferred.ofValue,invoke,h]
theorem yhm(W:zhp P run)(G:Ag st xs)(hm:Mods X w0 st β a w){o:Oper}{f:Operand}{args:Array Operand}{ts:Array TypeId}(ho:o.op = .call {callee:=.value f,args,argTypes:=ts})
  {id k:Nat} (hy:st.val f = .yd id) (hd:xdst o.dst k=true) (V:∀ t,o.dst=some t->t<st.n) (h:z9w run xs id (args.toList.map st.val) o.dst=some xs') (r:Option Nat) (n:Nat) (ms:List Deferred)
  {N:Act->World->Prop} {Q:Exit->Act->World->Prop} (hN:∀ a' w' st' β',Ag st' xs'->Mods X w0 st' β' a' w'->N {a' with defers:=ms} w'):o.wpIn (FW r) n P {a with defers:=ms} w N Q:=by
 unfold z9w at h
 simp only at h
 generalize reach xs.look 1000 (ze0 (.yd id::args.toList.map st.val) []) (ze0 (.yd id::args.toList.map st.val) [])=ids at h
 split at h
 .rename_i own0 hp
  rw[zaf,Bool.and_eq_true] at hp;obtain⟨⟨hn,O⟩,hp⟩:=hp;simp only[zm1,Bool.and_eq_true] at O;obtain⟨F,E⟩:=O;have hid:id∈ids:=by simpa only [innB,any_beq] using F
  split at h
  .rename_i R hR
   cases h;have hf:=yhk G hm hn hp;obtain⟨Y,Z⟩:=zw7 hf E (Sms.zly hm args.toList).1;obtain⟨b,hb,H⟩:=z2u W Z hR (outOf X β ids st.own) (inBase β ids w) (λi=>β (rho ids i)) w _ rfl (hm.zt7 hf) Y
   rw[(zcn hid).1] at hb;have hv:=(hm.val f).2;rw[hy] at hv;simp only[Sm] at hv;obtain⟨b',T,hv⟩:=hv;rw[hb] at T;cases T;obtain⟨fn,tmps,aS,bd,A,K⟩:=H r (n-1);have J:∀ c,o.op≠.defer c:=λc e=>by rw[ho] at e;cases e
   unfold Oper.wpIn;refine⟨λ_ _=>trivial,?_⟩
   rw[Oper.semAt_eq _ _ _ J];have B:({a with defers:=ms}:Act).eval=a.eval:=rfl
   rw[B];have L:(execOp a.eval o).run P w = .ok (.round b fn tmps aS bd) w:=by
    have e3:Array.map a.eval args=(args.toList.map a.eval).toArray:=Array.ext' (by simp)
    simp only[execOp,ho,resolve,hv];rw[e3];exact yhl A
   rw[L];simp only[Oper.uponIn];refine⟨λhd=>by simp[FW,Fence.wide] at hd,K.mono λe w' he=>?_⟩
   obtain⟨β1,v,rfl,C,I,S⟩:=he;obtain⟨h1,h2⟩:=hm.zoe hf C;obtain⟨q1,q2⟩:=h2 R.s v I S;have M:(({a with defers:=ms}:Act).put o.dst v) = {a.put o.dst v with defers:=ms}:=by cases o.dst <;> rfl
   show N (({a with defers:=ms}:Act).put o.dst v) w'
   rw[M];refine hN _ w' ((st.after ids R.nx R.own R.mv).put o.dst (ren (rho' ids st.next) R.s)) _ ?_ (h1.za1 V q1 q2)
   rw[G.next];exact(G.after hm.still.1 ids R.nx R.own R.mv).put hd _
  .cases h
 .cases h
theorem z2v(O:XGood P Γ)(T:zbe P call)(V:zhp P run)(H:Ag st xs){ms:List Nat}(Y:MX X w0 ms st β a w){o:Oper}(h:zw9 Γ call run o xs=some xs')(r:Option Nat)(n:Nat){N:Act->World->Prop}{Q:Exit->Act->World->Prop}
  (Z:∀ a' w' st' β',Ag st' xs'->MX X w0 ms st' β' a' w'->N a' w'):o.wpIn (FW r) n P a w N Q:=by
 unfold zw9 at h
 split at h
 .rename_i f args ts A
  split at h
  .rename_i id B
   rw[zaf] at h;obtain⟨C,h⟩:=h;rw[<-H.val] at h B;obtain⟨⟨X',w0',I,K,J⟩,F,L⟩:=Y;have M:∀ t,o.dst=some t->t<st.n:=λt e=>by rw[H.n];exact(zgy C).1 t e
   have:=yhm V H K A B C M h r n (ms.map mark++w0.dfs) (N:=N) (Q:=Q) λa' w' st' β' G E=>
    Z _ w' st' β' G ⟨⟨X',w0',I,by have e:=E.defers.trans I.dfs;cases a';simp only at e;subst e;exact E,J⟩,rfl,L⟩
   have e:({({a with defers:=w0.dfs}:Act) with defers:=ms.map mark++w0.dfs}:Act)=a:=by cases a;simp only at F;subst F;rfl
   rw[e] at this;exact this
  .exact z9r O T H Y h r n Z
 .exact z9r O T H Y h r n Z
theorem zw8{ms:List Nat}(H:MX X w0 ms st β a w){t:Nat}{b:Bool}(h:zac st.slots t=some (.d (.bool b))):a.tmps[t]?=some (.bool b):=zum H.plain h
theorem zzb(T:XGood P Γ)(V:zbe P call)(Y:zhp P run){all:List Oper}{ms:List Nat}{r:Option Nat}{n:Nat}{Q:Exit->Act->World->Prop}:∀ {l:List Oper} {st:St} {xs xs':XS} {β:Nat->Value} {a:Act} {w:World},
  Ag st xs->xops Γ call run all l xs=some xs'->MX X w0 ms st β a w->(∀ a' w' st' β',Ag st' xs'->MX X w0 ms st' β' a' w'->Q .normal a' w')->wpListIn (FW r) n P all.toArray Q l a w
 | [],st,xs,xs',β,a,w,H,h,Z,A=>by simp only[xops] at h;cases h;exact A a w st β H Z
 |o::l,st,xs,xs',β,a,w,H,h,Z,A=>by
  simp only[xops] at h;refine wpListIn_step λN' K=>?_
  have skip:∀ {h2:xdst o.dst xs.n=true},xops Γ call run all l (xs.put o.dst (.d (.val undef)))=some xs'->N' (a.put o.dst undef) w:=by
   intro B h;have M:∀ t,o.dst=some t->t<st.n:=λt e=>by rw[H.n];exact(zgy B).1 t e
   exact K _ w (zzb T V Y (H.put B _) h (Z.put M (by simp[Sym.lo]) (λE=>by simp[Sm,R])) A)
  split at h
  .rename_i F
   simp only[Region.wanted,F,if_true];split at h
   .rename_i xs1 C
    exact z2v T V Y H Z C r n λa' w' st' β' G J=>K a' w' (zzb T V Y G h J A)
   .cases h
  .rename_i j want F
   split at h
   .rename_i t I
    rw[<-H.slots] at h;split at h
    .rename_i b N
     have S:=zha (zea I) (zw8 Z N);simp only[Region.wanted,F,S];split at h
     .rename_i e
      have e:b=want:=by simpa using e
      subst e;simp only[beq_self_eq_true,if_true];split at h
      .rename_i xs1 C
       exact z2v T V Y H Z C r n λa' w' st' β' G J=>K a' w' (zzb T V Y G h J A)
      .cases h
     .rename_i e
      have:(some b==some want)=false:=by simpa using e
      simp only[this,Bool.false_eq_true,if_false];rw[zaf] at h;exact⟨λ_ _=>trivial,skip (h2:=h.1) h.2⟩
    .rename_i W
     obtain⟨O,L⟩:=Z.plain.slots t _ W;simp only[Sm,R] at L;have S:yielded all.toArray a.tmps j=none:=zdw (zea I) L
     simp only[Region.wanted,F,S];have:((none:Option Bool)==some want)=false:=rfl
     simp only[this,Bool.false_eq_true,if_false];rw[zaf] at h;exact⟨λ_ _=>trivial,skip (h2:=h.1) h.2⟩
    .cases h
   .cases h
def zf9(P:Program)(draw:List Oper->XS->Option XS):Prop:=∀ id (ops:List Oper) xs xs' st,Ag st xs->draw ops xs=some xs'->Triple P (.region id ops.toArray true) (λe' st'=>e' = .normal/\Ag st' xs') st
def ynj(X:Nat->Prop)(w0:Base)(ms:List Nat)(same:Bool)(e:DE)(xs':XS)(e':Exit)(a':Act)(w':World):Prop:=
 ∃ st' β' ms',exM e' e/\Ag st' xs'/\MX X w0 ms' st' β' a' w'/\(same=false->ms'=ms)
theorem z9t{f:XS->Option (DE×XS)}{c:Code}{r:Option Nat}{n:Nat}{ms:List Nat}
  (L:∀ xs st e xs' β a w,f xs=some (e,xs')->Ag st xs->MX X w0 ms st β a w->c.wpIn (FW r) n P (ynj X w0 ms false e xs') a w) {e:DE}:∀ {k:Nat} {st:St} {xs xs':XS} {β:Nat->Value} {a:Act} {w:World},yht f k xs=some (e,xs')->Ag st xs ->
  MX X w0 ms st β a w->Code.roundsIn (FW r) n P c (ynj X w0 ms false e xs') k a w
 |0,st,xs,xs',β,a,w,h,K,M=>by simp[yht] at h
 |k+1,st,xs,xs',β,a,w,h,K,M=>by
  simp only[yht] at h;rw[roundsIn_succ];cases G:f xs with
  |none=>rw[G] at h;cases h
  |some q=>
   obtain⟨e1,xs1⟩:=q;rw[G] at h;refine wpIn_mono (L xs st e1 xs1 β a w G K M) ?_
   rintro e2 a' w' ⟨st',β',ms',O,H,F,J⟩
   have E:=J rfl;subst E;cases e1 with
   |normal=>
    simp only at h
    cases e2 <;> simp only[exM] at O
    exact z9t L h H F
   |exit i=>
    simp only at h
    cases h;cases e2 <;> simp only[exM] at O
    subst O;exact⟨st',β',_,rfl,H,F,λ_=>rfl⟩
   |ret=>
    simp only at h
    cases h;cases e2 <;> simp only[exM] at O
    exact⟨st',β',_,trivial,H,F,λ_=>rfl⟩
def z2w(P:Program)(call:Caller):Prop:=∀ g ps aS bd e xs xs' st X w0 β a w n,yhu call xs g ps aS bd=some (e,xs')->Ag st xs->Mods X w0 st β a w->(Code.rangeFunc g ps aS bd).wpIn (FW none) n P (ynj X w0 [] true e xs') a w
theorem zfj(Y:XGood P Γ)(Z:zbe P call)(A:zhp P run){draw:List Oper->XS->Option XS}(J:zf9 P draw)(L:z2w P call):∀ {c:Code} {pl:Bool} {r:Option Nat} {xs xs':XS} {e:DE} {st:St},zek Γ call run draw c pl xs=some (e,xs')->Ag st xs->ylg P r pl c e xs' st
 |.skip,pl,r,xs,xs',e,st,h,G=>by simp only[zek] at h;cases h;exact λX w0 β a w ms n B C=>wpIn_skip ⟨st,β,ms,trivial,G,B,λ_=>rfl⟩
 |.region id ops d,pl,r,xs,xs',e,st,h,G=>by
  simp only[zek] at h;intro X w0 β a w ms n B C;cases d with
  |true=>
   simp only at h
   cases pl with
   |false=>simp only at h;cases h
   |true=>
    simp only at h
    split at h
    .rename_i xs1 I
     cases h;obtain⟨rfl,rfl⟩:=C rfl;have:=J id ops.toList xs _ st G I X w0 β a w B.nil
     rw[Array.toArray_toList] at this;refine wpIn_mono (wpIn_wide.2 this) ?_
     rintro e' a' w' ⟨de,st',β',N,⟨rfl,H⟩,K⟩
     exact⟨st',β',[],N,H,.of K,λ_=>rfl⟩
    .cases h
  |false=>
   simp only at h
   split at h
   .rename_i xs1 I
    cases h;refine wpIn_region_list ?_
    have:=zzb (P:=P) (X:=X) (w0:=w0) (all:=ops.toList) (r:=r) (n:=n) (Q:=λe' a' w'=>∃ st' β' ms',exM e' .normal/\Ag st' xs'/\MX X w0 ms' st' β' a' w'/\((pl&&zbo (.region id ops false))=false->ms'=ms)) Y Z A G I B
     (λa' w' st' β' H K=>⟨st',β',ms,trivial,H,K,λ_=>rfl⟩)
    simpa using this
   .cases h
 |.seq x y,pl,r,xs,xs',e,st,h,G=>by
  simp only[zek] at h;intro X w0 β a w ms n B C;cases S:zek Γ call run draw x pl xs with
  |none=>rw[S] at h;cases h
  |some q=>
   obtain⟨e1,xs1⟩:=q;rw[S] at h;refine wpIn_seq (wpIn_mono (zfj Y Z A J L S G X w0 β a w ms n B C) ?_)
   rintro e2 a' w' ⟨st',β',ms',N,H,K,M⟩
   have O:(pl&&zbo (.seq x y))=false->ms'=ms:=λW=>M (by simp only[zbo] at W;cases pl <;> simp_all)
   cases e1 with
   |normal=>
    simp only at h
    cases e2 <;> simp only[exM] at N
    refine wpIn_mono (zfj Y Z A J L h H X w0 β' a' w' ms' n K ?_) ?_
    .intro W
     simp only[Bool.and_eq_true,Bool.not_eq_true'] at W;obtain⟨I,h2⟩:=C W.1;exact⟨I,by rw[M (by rw[W.2];simp),h2]⟩
    .rintro e3 a3 w3 ⟨st3,β3,ms3,T,F,V,E⟩
     refine⟨st3,β3,ms3,T,F,V,λW=>?_⟩
     rw[E (by simp only[zbo] at W;cases pl <;> simp_all),O W]
   |exit i=>
    simp only at h
    cases h;cases e2 <;> simp only[exM] at N
    subst N;exact⟨st',β',ms',rfl,H,K,O⟩
   |ret=>
    simp only at h
    cases h;cases e2 <;> simp only[exM] at N
    exact⟨st',β',ms',trivial,H,K,O⟩
 |.cond c x y,pl,r,xs,xs',e,st,h,G=>by
  simp only[zek] at h;intro X w0 β a w ms n B C;rw[<-G.val] at h;have weaken:∀ {z:Code},(zbo z=true->zbo (.cond c x y)=true)->z.wpIn (FW r) n P (λe' a' w'=>∃ st' β' ms',exM e' e/\Ag st' xs'/\MX X w0 ms' st' β' a' w'/\((pl&&zbo z)=false->ms'=ms)) a w ->
    z.wpIn (FW r) n P (λe' a' w'=>∃ st' β' ms',exM e' e/\Ag st' xs'/\MX X w0 ms' st' β' a' w'/\((pl&&zbo (.cond c x y))=false->ms'=ms)) a w:=by
   intro z hz hw;refine wpIn_mono hw ?_
   rintro e3 a3 w3 ⟨st3,β3,ms3,T,F,V,E⟩
   exact⟨st3,β3,ms3,T,F,V,λW=>E (by cases pl <;> cases hq:zbo z <;> simp_all)⟩
  split at h
  .rename_i hb
   have hv:=(B.plain.val c).2;rw[hb] at hv;simp only[Sm,R] at hv;exact wpIn_cond_true hv (weaken (λe=>by simp[zbo,e]) (zfj Y Z A J L h G X w0 β a w ms n B C))
  .rename_i hb
   have hv:=(B.plain.val c).2;rw[hb] at hv;simp only[Sm,R] at hv;exact wpIn_cond_false hv (weaken (λe=>by simp[zbo,e]) (zfj Y Z A J L h G X w0 β a w ms n B C))
  .cases h
 |.block id c,pl,r,xs,xs',e,st,h,G=>by
  simp only[zek] at h;intro X w0 β a w ms n B C;cases S:zek Γ call run draw c pl xs with
  |none=>rw[S] at h;simp[zgx] at h
  |some q=>
   obtain⟨e1,xs1⟩:=q;rw[S] at h;refine wpIn_block (wpIn_mono (zfj Y Z A J L S G X w0 β a w ms n B C) ?_)
   rintro e2 a' w' ⟨st',β',ms',N,H,K,M⟩
   cases e1 with
   |normal=>
    simp only[zgx] at h;cases h;cases e2 <;> simp only[exM] at N
    exact⟨st',β',ms',trivial,H,K,M⟩
   |exit i=>
    simp only[zgx] at h;cases e2 <;> simp only[exM] at N
    subst N;simp only[Exit.inBlock];split at h
    .rename_i e;rw[beq_iff] at e;cases h
     rw[if_pos e];exact⟨st',β',ms',trivial,H,K,M⟩
    .rename_i e;cases h
     rw[if_neg (λe'=>by rw[beq_iff.2 e'] at e;cases e)];exact⟨st',β',ms',rfl,H,K,M⟩
   |ret=>
    simp only[zgx] at h;cases h;cases e2 <;> simp only[exM] at N
    exact⟨st',β',ms',trivial,H,K,M⟩
 |.exit id,pl,r,xs,xs',e,st,h,G=>by simp only[zek] at h;cases h;exact λX w0 β a w ms n B C=>wpIn_exit ⟨st,β,ms,rfl,G,B,λ_=>rfl⟩
 |.ret,pl,r,xs,xs',e,st,h,G=>by simp only[zek] at h;cases h;exact λX w0 β a w ms n B C=>wpIn_ret ⟨st,β,ms,trivial,G,B,λ_=>rfl⟩
 |.loop c,pl,r,xs,xs',e,st,h,G=>by
  simp only[zek] at h;intro X w0 β a w ms n B C;refine wpIn_mono (wpIn_loop_rounds _ (z9t (P:=P) (X:=X) (w0:=w0) (r:=r) (n:=n) (ms:=ms) (λxs st e xs' β a w h G B=>?_) h G B)) ?_
  .refine wpIn_mono (zfj Y Z A J L h G X w0 β a w ms n B (λW=>C (by cases pl <;> simp_all))) ?_
   rintro e3 a3 w3 ⟨st3,β3,ms3,T,F,V,E⟩
   exact⟨st3,β3,ms3,T,F,V,λ_=>E (by cases pl <;> cases zbo c <;> rfl)⟩
  .rintro e3 a3 w3 ⟨st3,β3,ms3,T,F,V,E⟩
   exact⟨st3,β3,ms3,T,F,V,λ_=>E rfl⟩
 |.scope c,pl,r,xs,xs',e,st,h,G=>by
  cases pl with
  |false=>simp only[zek] at h;cases h
  |true=>
   simp only[zek] at h;intro X w0 β a w ms n B C;obtain⟨rfl,rfl⟩:=C rfl;refine wpIn_wide.2 (wp_scope_straight ((wpIn_wide (n:=n)).1 (wpIn_mono (zfj Y Z A J L h G X w0 β a w [] n B C) ?_)))
   rintro e' a' w' ⟨st',β',ms',N,hq⟩
   cases e' <;> first | (cases e <;> exact N.elim) | exact⟨st',β',ms',N,hq⟩
 |.label l,pl,r,xs,xs',e,st,h,G=>by simp only[zek] at h;cases h;exact λX w0 β a w ms n B C=>wpIn_label ⟨st,β,ms,trivial,G,B,λ_=>rfl⟩
 |.rangeFunc g ps aS bd,pl,r,xs,xs',e,st,h,G=>by
  cases pl with
  |false=>simp only[zek] at h;cases h
  |true=>
   simp only[zek] at h;intro X w0 β a w ms n B C;obtain⟨rfl,rfl⟩:=C rfl;refine wpIn_mono (L g ps aS bd e xs xs' st X w0 β a w n h G B.nil) ?_
   rintro e' a' w' ⟨st',β',ms',N,H,K,_⟩
   exact⟨st',β',ms',N,H,K,λW=>by simp[zbo] at W⟩
 |.goto ..,pl,r,xs,xs',e,st,h,G=>by simp only[zek] at h;cases h
 |.refuse ..,pl,r,xs,xs',e,st,h,G=>by simp only[zek] at h;cases h
end
end Go.V
namespace Go.V
variable [Dr] [Ov]
open Go.RowKit
section
variable {P:Program} {Γ:XG} {call:Caller} {run:Runner} {X:Nat->Prop} {w0:Base} {st:St} {xs xs':XS} {β:Nat->Value} {a:Act} {w w':World}
theorem zdi.re{N N' E:Nat->Prop}{id:Nat}{ob:Obj'}(H:∀ b,blk (β id)=some b->N' b)(h:zdi w N E β id ob):zdi w N' E β id ob:=by
 cases ob with
 |box T cells=>obtain⟨b,vs,G,h2,F⟩:=h;exact⟨b,vs,G,H b (by rw[G];rfl),F⟩
 |arr T sz rows=>obtain⟨xs,G,h2,F⟩:=h;exact⟨xs,⟨G.1,λb K=>⟨H b K,(G.2 b K).2⟩⟩,h2,F⟩
 |map T rows=>obtain⟨r,es,clock,G,h2,F⟩:=h;exact⟨r,es,clock,G,H r (by rw[G];rfl),F⟩
 |raw k cells=>obtain⟨b,fn,D,vs,G,h2,F⟩:=h;exact⟨b,fn,D,vs,G,H b (by rw[G];exact k.zj5 b),F⟩
def zmz(w':World)(st:St)(β:Nat->Value)(β0:Nat->Value)(ds:List Deferred):Base:=⟨w',λb=>∃ id o,(id,o)∈st.own/\blk (β id)=some b,β0,ds⟩
theorem Mods.yhn(J:Mods X w0 st β a w){X':Nat->Prop}(F:∀ b,X' b->X b\/(w.heap.size<=b/\b<w'.heap.size))(L:∀ b,X b->X' b)(K:w.heap.size<=w'.heap.size)
  (H:∀ b,b<w.heap.size->¬X b->w'.heap[b]?=w.heap[b]?):Mods X' (zmz w' st β w0.β0 w0.dfs) st β a w':=by
 have G:∀ {id o b},(id,o)∈st.own->blk (β id)=some b->b<w.heap.size/\¬X b:=λh M=>⟨J.lt _ (.inr ⟨_,_,h,M⟩),λO=>J.outer.1 _ O (J.may h M)⟩
 have E:Over w (Ex X β st.own) w' (Ex X' β st.own):=by
  intro b M Q;refine⟨?_,H b M (λO=>Q (.inl O))⟩
  rintro(h | h)
  .rcases F b h with h | h
   .exact Q (.inl h)
   .omega
  .exact Q (.inr h)
 refine⟨⟨?_,J.glob.over E⟩,⟨J.still.1,J.still.2⟩,J.one,J.defers,J.size,Kept.refl _,J.keys,?_,J.apart,?_⟩
 .rintro b M (h | ⟨id,o,T,h2⟩)
  .rcases F b M with V | V
   .have:=J.lt b (.inl V);have h:w'.heap.size<=b:=h;omega
   .have h:w'.heap.size<=b:=h;omega
  .obtain⟨q1,q2⟩:=G T h2
   rcases F b M with V | V
   .exact q2 V
   .omega
 .intro id o h
  obtain⟨q1,q2,q3⟩:=J.own id o h;refine⟨q1,q2,zdi.re (λb M=>.inr ⟨id,o,h,M⟩) (zdi.over (m:=st.next) (λ_ _=>rfl) E q1 q2 (λb M=>?_) q3)⟩
  obtain⟨g1,g2⟩:=G h M;exact H b g1 g2
 .intro t s h
  obtain⟨q1,q2⟩:=J.slots t s h;exact⟨q1,Sm.over (m:=st.next) (λ_ _=>rfl) E q1 q2⟩
theorem Mods.under(H:Mods X w0 st β a w){X':Nat->Prop}(G:∀ b,X b->X' b)(F:Kept w0 w'):Under X w0 X' (zmz w' st β w0.β0 w0.dfs):=by
 refine⟨H.outer,G,?_,F,rfl,rfl⟩
 rintro b (h | ⟨id,o,E,h2⟩)
 .exact .inl (Nat.le_trans F.size h)
 .exact H.may E h2
theorem zrg(G:Ag st xs)(E:Mods X w0 st β a w):∀ (k t:Nat),t+k=a.tmps.size->Sms w (Ex X β st.own) β (ze1 xs k t) (a.tmps.toList.drop t)/\Sym.los st.next (ze1 xs k t)
 |0,t,h=>by
  simp only[ze1];rw[List.drop_eq_nil_of_le (by simp;omega)]
  exact⟨by simp[Sms],by simp[Sym.los]⟩
 |k+1,t,h=>by
  obtain⟨K,h2⟩:=zrg G E k (t+1) (by omega)
  have F:t<a.tmps.toList.length:=by simp;omega
  rw[List.drop_eq_getElem_cons F];simp only[ze1];have J:a.tmps.getD t undef=a.tmps.toList[t]:=by
   have H:t<a.tmps.size:=by simpa using F
   simp[H]
  cases hs:xs.get t with
  |none=>
   refine⟨?_,?_⟩
   .simp only[Sms];exact⟨_,_,rfl,by simp[Sm],K⟩
   .simp only[Sym.los];exact⟨by simp[Sym.lo],h2⟩
  |some s=>
   rw[<-G.slots] at hs;obtain⟨q1,q2⟩:=E.slots t s hs;rw[J] at q2;refine⟨?_,?_⟩
   .simp only[Sms];exact⟨_,_,rfl,q2,K⟩
   .simp only[Sym.los];exact⟨q1,h2⟩
theorem ykl(M:zbe P call)(O:Mods X w0 st β a w){ids:List Nat}{own0:List (Nat×Obj')}{aS:List Sym}{vs:List Value}{g:Nat}{R:XR}(Q:Fits st ids own0)(G:zm1 ids aS=true)(hs:Sms w (Ex X β st.own) β aS vs)
  (T:call g (rens (zcf ids) aS) own0 ids.length=some R):callable P g=true/\Calls P g vs.toArray w λe w'=>∃ v β',e = .returned v/\Mods X w0 (st.after ids R.nx R.own R.mv) β' a w'/\∀ id∈ids,zcf ids id∉R.mv->β' id=β id:=by
 obtain⟨F,E⟩:=zw7 Q G hs
 obtain⟨K,V⟩:=M _ _ _ _ _ T E
 refine⟨K,(V (outOf X β ids st.own) (inBase β ids w) (λi=>β (rho ids i)) w _ rfl (O.zt7 Q) F).mono λe w' Y=>?_⟩
 obtain⟨β1,v,rfl,H,J,L⟩:=Y
 refine⟨v,_,rfl,(O.zoe Q H).1,λid hid hmv=>?_⟩
 obtain⟨e1,e2⟩:=zyy hid
 have e3:zcf ids id=ids.idxOf id:=by
  have:=zcn hid
  rw[<-zpy Q.1 this.2,this.1]
 unfold zlo
 rw[if_pos hid,<-e3]
 have:=H.still.2 (zcf ids id) (by rw[e3];exact e2) hmv
 rw[this]
 show β (rho ids (zcf ids id))=β id
 rw[e3,e1]
theorem Mods.filt(E:Mods X w0 st β a w)(p:Nat×Obj'->Bool):Mods X w0 {st with own:=st.own.filter p} β a w:=by
 have H:∀ id o,(id,o)∈st.own.filter p->(id,o)∈st.own:=λid o h=>(List.mem_filter.1 h).1
 have F:Over w (Ex X β st.own) w (Ex X β (st.own.filter p)):=Over.less (λb K=>K.elim .inl λ⟨i,x,J,e⟩=>.inr ⟨i,x,H i x J,e⟩)
 refine⟨E.outer,E.still,E.one,E.defers,E.size,E.below,E.keys.sublist (List.Sublist.map _ List.filter_sublist),?_,λi x j y c J L e1 e2=>E.apart i x j y c (H i x J) (H j y L) e1 e2,?_⟩
 .intro id o G
  obtain⟨q1,q2,q3⟩:=E.own id o (H id o G);exact⟨q1,q2,zdi.over (m:=st.next) (λ_ _=>rfl) F q1 q2 (λ_ _=>rfl) q3⟩
 .intro t s h
  obtain⟨q1,q2⟩:=E.slots t s h;exact⟨q1,zpr (id:=0) (rows:=.bool true) F q2⟩
theorem zm0{id:Nat}{o:Obj'}:∀ {l:List (Nat×Obj')},(aset id o l).filter (λx=>!Nat.beq x.1 id)=l.filter (λx=>!Nat.beq x.1 id)
 | []=>by simp only[aset,List.filter_cons];rw[show Nat.beq id id=true from beq_iff.2 rfl];rfl
 |(k,u)::r=>by
  simp only[aset];by_cases e:k=id
  .subst e;rw[if_pos rfl];simp only[List.filter_cons];rw[show Nat.beq k k=true from beq_iff.2 rfl];rfl
  .rw[if_neg e];simp only[List.filter_cons];rw[zm0]
theorem zp6(hc:zbe P call):z2w P call:=by
 intro g ps aS bd e xs xs' st X w0 β a w n h Q hm
 unfold yhu at h
 split at h
 .rename_i gf caps H
  simp only at h
  generalize Ha:reach _ 1000 _ _=ids at h;split at h
  .rename_i own0 hp
   rw[zaf,Bool.and_eq_true] at hp;obtain⟨⟨hn,B⟩,hp⟩:=hp;split at h
   .rename_i RR hR
    rw[zaf] at h;obtain⟨H6,h⟩:=h;refine wpIn_rangeFunc (F:=FW none) ?_
    intro fn _
    -- the block of the deferred calls, the record
    have H7:Below w.heap.size w (w.alloc (.deferred (some []))):=zbn w _
    have Hb:∀ b,(X b\/b=w.heap.size)->X b\/(w.heap.size<=b/\b<(w.alloc (.deferred (some []))).heap.size):=λb hb=>hb.elim .inl λe=>.inr ⟨by omega,by simp;omega⟩
    have T:Mods (λb=>X b\/b=w.heap.size) (zmz (w.alloc (.deferred (some []))) st β w0.β0 w0.dfs) st β a (w.alloc (.deferred (some []))):=
     hm.yhn Hb (λb=>.inl) (by simp) (λb hb _=>H7.block b hb)
    have hu:=hm.under (X':=λb=>X b\/b=w.heap.size) (λb=>.inl) (hm.below.next H7)
    have hD:(w.alloc (.deferred (some []))).heap[w.heap.size]?=some (.deferred (some [])):=World.alloc_heap_new w _
    obtain⟨E,Y⟩:=zrg Q T xs.n 0 (by rw[<-Q.n,<-hm.size];omega)
    rw[List.drop_zero] at E;generalize Hc:(λb=>X b\/b=w.heap.size)=X' at T hu E
    have C:X' w.heap.size:=by rw[<-Hc];exact .inr rfl
    generalize H8:w.alloc (.deferred (some []))=w1 at T hu hD E;generalize I:zmz w1 st β w0.β0 w0.dfs=w0' at T hu;have N:w0'.w=w1:=by rw[<-I];rfl
    have S:w1.heap.size=w.heap.size+1:=by rw[<-H8];simp
    let rcd:Loop:={state:=.ready,pending:=none,fn,tmps:=a.tmps,params:=ps,assign:=aS,body:=bd,defers:=w.heap.size}
    have Z:Mods X' w0' (st.new (.raw (.lp ps aS bd .ready none) (ze1 xs xs.n 0))) (λi=>if i=st.next then .pointer (some ⟨w1.heap.size,0,none⟩) else β i) a (w1.alloc (.loop rcd)):=by
     refine T.new (zbn w1 _) rfl Y (λb hb=>by simp[blk] at hb;omega) ?_
     refine⟨w1.heap.size,fn,w.heap.size,a.tmps.toList,by simp[RK.ptr],.inl T.below.size,?_,?_⟩
     .have:=World.alloc_heap_new w1 (.loop rcd)
      simpa[RK.at,rcd] using this
     .refine Sms.over (m:=st.next) (λid h=>by simp;intro e;omega) ?_ Y E
      intro b hb he;refine⟨?_,(zbn w1 _).block b hb⟩
      rintro(h | h)
      .exact he h
      .simp[blk] at h;omega
    have K:Ag (st.new (.raw (.lp ps aS bd .ready none) (ze1 xs xs.n 0))) (xs.new (.raw (.lp ps aS bd .ready none) (ze1 xs xs.n 0))):=Q.new _
    generalize W:st.new (.raw (.lp ps aS bd .ready none) (ze1 xs xs.n 0))=st2 at Z K;have A:st2.val g=st.val g:=by rw[<-W];rfl
    rw[<-Q.val] at H
    -- the iterator
    have hv:=(Z.val g).2;rw[A] at hv;obtain⟨lb,Hd,He⟩:∃ lb:List Value,a.eval g = .func (.func gf) #[] lb.toArray/\Sms (w1.alloc (.loop rcd)) (Ex X' (λi=>if i=st.next then .pointer (some ⟨w1.heap.size,0,none⟩) else β i) st2.own) (λi=>if i=st.next then .pointer (some ⟨w1.heap.size,0,none⟩) else β i) caps lb:=by
     cases hf:st.val g <;> rw[hf] at H hv <;> simp only[zbm] at H
     case d x=>
      cases x <;> simp only[zbm] at H
      case fn f' l=>
       simp at H;obtain⟨rfl,rfl⟩:=H
       simp only[Sm,R] at hv;obtain⟨vs,h1,h2⟩:=hv;exact⟨vs,h1,Sms.zd1 h2⟩
      all_goals cases H
     case fn f' l=>
      simp at H;obtain⟨rfl,rfl⟩:=H
      simp only[Sm] at hv;exact hv
     all_goals cases H
    have Hf:Sms (w1.alloc (.loop rcd)) (Ex X' (λi=>if i=st.next then .pointer (some ⟨w1.heap.size,0,none⟩) else β i) st2.own) (λi=>if i=st.next then .pointer (some ⟨w1.heap.size,0,none⟩) else β i) (.yd xs.next::caps) (.func (.yield w1.heap.size) #[] #[]::lb):=by
     simp only[Sms];refine⟨_,_,rfl,?_,He⟩
     simp only[Sm];exact⟨w1.heap.size,by rw[<-Q.next];simp,rfl⟩
    have hf:=yhk K Z hn hp;obtain⟨V,J⟩:=ykl hc Z hf B Hf hR;have H0:xs.next∈ids:=by
     simp only[zm1,Bool.and_eq_true,innB,any_beq] at B;exact B.1
    have H1:zcf ids xs.next∉RR.mv:=λH2=>by
     rw[any_beq.2 H2] at H6;cases H6
    refine⟨w1.heap.size,[mark w.heap.size],w1.alloc (.loop rcd),{target:=.fn (.func gf) lb.toArray,args:=#[.func (.yield w1.heap.size) #[] #[]]},w1.alloc (.loop rcd),gf,(.func (.yield w1.heap.size) #[] #[]::lb).toArray,w1.alloc (.loop rcd),?_,?_,λ_ _=>trivial,?_,λhd=>by simp[FW,Fence.wide] at hd,?_⟩
    .have:=run_enterLoop_outer (P:=P) (w:=w) fn a.tmps ps aS bd
     rw[H8,<-S] at this;exact this
    .simp only[resolve,Hd]
     simp[go_sem]
    .unfold callable at V
     cases H3:P.funcs[gf]? with
     |none=>simp[H3] at V
     |some fnn=>
      simp[H3] at V;have e1:¬fnn.body=none:=by intro e;rw[e] at V;simp at V
      simp[invoke,callFunc,H3,e1,V.1]
    .refine zp5 (J.mono λe' w3 he=>?_)
     obtain⟨v,β3,rfl,H9,hβ3⟩:=he;have G:=K.after Z.still.1 ids RR.nx RR.own RR.mv;generalize Hg:st2.after ids RR.nx RR.own RR.mv=st3 at H9 G;generalize Hh:(xs.new (.raw (.lp ps aS bd .ready none) (ze1 xs xs.n 0))).after ids RR.nx RR.own RR.mv=xs3 at G h;unfold z3a at h;rw[<-G.look] at h;split at h
     .rename_i ps1 a1 b1 s1 pend cells1 Hi
      obtain⟨b,fn',D',vs',hb,hh,Hj⟩:=zfe (s':=.exhausted) (pd':=pend) H9 Hi;have Hk:b=w1.heap.size:=by
       have:=hβ3 xs.next H0 H1
       rw[hb] at this;simp[Q.next] at this;exact this
      subst Hk;have Hl:=Hj.filt (λx=>!Nat.beq x.1 xs.next)
      have L:Ag {st3 with own:=(aset xs.next (.raw (.lp ps1 a1 b1 .exhausted pend) cells1) st3.own).filter λx=>!Nat.beq x.1 xs.next} {xs3 with own:=xs3.own.filter λx=>!Nat.beq x.1 xs.next}:=by
       rw[zm0,G.own];exact⟨G.n,G.next,rfl,G.base,G.moved,G.slots⟩
      have H4:MX X w0 [w.heap.size] {st3 with own:=(aset xs.next (.raw (.lp ps1 a1 b1 .exhausted pend) cells1) st3.own).filter λx=>!Nat.beq x.1 xs.next} β3 {a with defers:=[mark w.heap.size]++a.defers} _:=
       ⟨⟨X',w0',hu,by
        have e:({({a with defers:=[mark w.heap.size]++a.defers}:Act) with defers:=w0.dfs}:Act)=a:=by have:=hm.defers;cases a;simp only at this;subst this;rfl
        rw[e];exact Hl,λD H5=>by
         have:D=w.heap.size:=by simpa using H5
         subst this;exact⟨C,by rw[N];exact hD⟩⟩,by rw[hm.defers];rfl,by simp,λD H5=>by
         have:D=w.heap.size:=by simpa using H5
         subst this;exact .inl hm.below.size⟩
      have M:s1≠.busy->(Instr.endLoop w1.heap.size).run P w3 = .ok pend _:=λO=>run_endLoop (P:=P) hh O
      split at h
      .cases h
      .rename_i _ _ O
       cases h;exact⟨none,_,M O,⟨_,β3,_,trivial,L,H4,λhh=>by cases hh⟩⟩
      .rename_i _ _ O
       cases h;exact⟨some .ret,_,M O,wpIn_ret ⟨_,β3,_,trivial,L,H4,λhh=>by cases hh⟩⟩
      .rename_i _ _ i O
       cases h;exact⟨some (.exit i),_,M O,wpIn_exit ⟨_,β3,_,rfl,L,H4,λhh=>by cases hh⟩⟩
      .cases h
     .cases h
   .cases h
  .cases h
 .cases h
theorem MX.take{D:Nat}{ms:List Nat}(V:MX X w0 (D::ms) st β a w):w.heap[D]?=some (.deferred (some []))/\MX X w0 ms st β {a with defers:=ms.map mark++w0.dfs} (w.putObj D (.deferred none)):=by
 obtain⟨⟨X',w0',Y,G,E⟩,Z,K,F⟩:=V
 have A:=E D (by simp)
 have M:¬w0'.may D:=G.outer.1 D A.1
 have B:w.heap[D]?=some (.deferred (some [])):=(G.below.block D M).trans A.2
 have T:=(Array.getElem?_eq_some_iff.1 B).1
 have H:∀ b,b≠D->(w.putObj D (.deferred none)).heap[b]?=w.heap[b]?:=λb C=>World.putObj_heap_other C
 have J:(w.putObj D (.deferred none)).heap.size=w.heap.size:=by simp
 have I:Kept w0 (w.putObj D (.deferred none)):=(Y.kept.trans' G.below Y.may).turn rfl rfl rfl (by rw[J];exact Nat.le_refl _) (λk _ I=>H k (λe=>I (by rw[e];exact F D (by simp)))) (λ_=>Nat.le_refl _)
 have O:=G.yhn (w':=w.putObj D (.deferred none)) (X':=X') (λb h=>.inl h) (λb h=>h) (by rw[J];exact Nat.le_refl _) (λb _ hx=>H b (λe=>hx (by rw[e];exact A.1)))
 refine⟨B,⟨⟨X',zmz (w.putObj D (.deferred none)) st β w0'.β0 w0'.dfs,⟨Y.outer,Y.x,?_,I,Y.β0,Y.dfs⟩,?_,?_⟩,rfl,(List.nodup_cons.1 K).2,λD' h=>F D' (List.mem_cons_of_mem _ h)⟩⟩
 .rintro b (h | ⟨id,o,N,h2⟩)
  .exact .inl (Nat.le_trans I.size h)
  .exact Y.may b (G.may N h2)
 .exact O
 .intro D' L
  have Q:D'≠D:=λe=>(List.nodup_cons.1 K).1 (e▸L)
  have N:=E D' (List.mem_cons_of_mem _ L);refine⟨N.1,?_⟩
  show(w.putObj D (.deferred none)).heap[D']?=_
  rw[H D' Q];exact(G.below.block D' (G.outer.1 D' N.1)).trans N.2
theorem zux{fn:Func}{R:Ending->World->Prop}{n:Nat}(G:w0.dfs=[]):∀ {ms:List Nat} {a:Act} {w:World},MX X w0 ms st β a w ->
  (∀ a' w',a'.tmps=a.tmps->Mods X w0 st β a' w'->∃ v,(results fn a.tmps).run P w' = .ok v w'/\R (.returned v) w')->LeavesInM Fence.wide n P fn a.tmps R (ms.map mark) .returning w
 | [],a,w,F,E=>by
  obtain⟨v,K,h2⟩:=E a w rfl F.nil;exact⟨v,K,h2⟩
 |D::ms,a,w,F,E=>by
  obtain⟨J,H⟩:=F.take;have:=zux (fn:=fn) (R:=R) (n:=n) G H (λa' w' e h=>E a' w' e h)
  exact⟨by simp,.inl ⟨D,_,rfl,run_takeDeferred J,this⟩⟩
theorem yck(hg:XGood P Γ)(hc:zbe P call)(hr:zhp P run){draw:List Oper->XS->Option XS}(V:zf9 P draw):zbe P (xfun Γ call run draw):=by
 intro f args own n r h hl
 unfold xfun at h
 split at h
 .rename_i g hk
  exact hg.kc hk h hl
 split at h
 .rename_i d hk
  cases h;unfold ylh at hk;split at hk
  .rename_i g ds Y hds
   exact zvu (hg.kn Y hk) hds
  .cases hk
 .split at h
  .rename_i ntmps c rs Z
   obtain⟨A,fn,hf,hb,B,C⟩:=hg.fn Z;split at h
   .rename_i de xs0 hx
    unfold xend at h;generalize hL:ycl Γ xs0 rs=L at h;generalize I:xs0.frzs L=xs at h;split at h
    .rename_i l M
     rw[zaf] at h;simp only[Bool.and_eq_true,beq_iff,zbu] at h;obtain⟨⟨⟨⟨K,N⟩,G⟩,E⟩,h⟩:=h;cases h;refine⟨A,λX w0 β w vs hβ hm hs=>(callsIn_wide (n:=0)).1 (callsIn_of_wp_marks (F:=Fence.wide) (n:=0) hf hb trivial ?_)⟩
     have hT:=zfj (r:=none) hg hc hr V (zp6 hc) hx (Ag.init args own n ntmps E);rw[B];refine wpIn_mono (hT X w0 _ _ w [] 0 (.of (hm.initC hs hl)) (λ_=>⟨rfl,rfl⟩)) ?_
     have fin:∀ {st' β' ms' a' w'},Ag st' xs0->MX X w0 ms' st' β' a' w'->LeavesInM Fence.wide 0 P fn a'.tmps (λe w'=>∃ β' v,e = .returned v/\Mods X w0 (zbt (xs.own.filter (z2y n (reach xs.look 1000 (zot (tupS l) []++List.range n) (zot (tupS l) [])))) n xs.next xs.moved) β' act0 w'/\Sym.lo xs.next (tupS l) /\
        Sm w' (Ex X β' (xs.own.filter (z2y n (reach xs.look 1000 (zot (tupS l) []++List.range n) (zot (tupS l) []))))) β' (tupS l) v) a'.defers .returning w':=by
      intro st0 β' ms' a' w' O J;rw[J.defers,show w0.dfs=[] from hm.defers.symm,List.append_nil]
      refine zux hm.defers.symm J λa2 w2 ea Q=>?_
      have T:=Q.frzs (l:=L);have H:Ag (st0.frzs L) xs:=by rw[<-I];exact O.frzs
      obtain⟨us,q1,q2⟩:=zf8 T (zza hg H M);rw[<-C] at q1;rw[<-ea];have S:=zgv fn a2.tmps q1;obtain⟨m1,m2⟩:=T.final hm.defers.symm (z2y n (reach xs.look 1000 (zot (tupS l) []++List.range n) (zot (tupS l) []))) (n:=n) (nx:=xs.next) (mv:=xs.moved) (by rw[H.base];exact G) H.next (λid h1 h2=>H.moved id (by rw[H.base,G];exact h1) h2)
      rw[H.own] at m1 m2;refine⟨_,S,β',_,rfl,m1,yhj N,m2 _ _ ?_⟩
      rw[<-H.own];unfold tupS;split
      .rename_i x
       simp only[Sms] at q2;obtain⟨u,us',rfl,e,rfl⟩:=q2;simpa using e
      .rename_i W
       have E:us.length≠1:=by
        rw[q2.length];intro e;cases l with
        |nil=>simp at e
        |cons d r=>
         cases r with
         |nil=>exact W d rfl
         |cons _ _=>simp at e
       simp only[E];simp only[Sm];exact⟨us,rfl,q2⟩
     rintro e a' w' ⟨st',β',ms',he,H,J,_⟩
     cases e <;> cases de <;> simp only[exM] at he <;> simp only[ykn] at K
     .exact fin H J
     .cases K
     .exact fin H J
    .cases h
   .cases h
  .cases h
theorem zp7(F:XGood P Γ){draw:Caller->List Oper->XS->Option XS}(H:∀ call,zbe P call->zf9 P (draw call)):∀ k,zbe P (xenv Γ draw k).1/\zhp P (xenv Γ draw k).2
 |0=>⟨λf args own n r h _=>by simp[xenv] at h,λc xs e xs' st l h=>by simp[xenv] at h⟩
 |k+1=>by
  obtain⟨E,h2⟩:=zp7 F H k;exact⟨yck F E h2 (H _ E),λc xs e xs' st l h G=>zfj (r:=some l) F E h2 (H _ E) (zp6 E) h G⟩
theorem zuy(G:XGood P Γ){draw:Caller->List Oper->XS->Option XS}(H:∀ call,zbe P call->zf9 P (draw call))(k:Nat):zbe P (z3b Γ draw k):=(zp7 G H k).1
theorem zuz{o:Oper}(h:zw9 Γ call (λ_ _=>none) o xs=some xs'):zzf Γ call o xs=some xs':=by
 unfold zw9 at h
 split at h
 .split at h
  .rw[zaf] at h
   have h:=h.2;unfold z9w at h;simp only at h
   split at h
   .have H:∀ id args own n,z2z (λ_ _=>none) id args own n=none:=by
     intro id args own n;unfold z2z;split
     .split
      .rename_i h1;rw[zaf] at h1;cases h1.2
      .rfl
     .rfl
    rw[H] at h;cases h
   .cases h
  .exact h
 .exact h
end
end Go.V

/- A program logic of my own over the kit: part X14. It needs no conditions. -/
import Derived.Test.YtgglheknmlfghaaGreatX4
import Derived.LoopNIn
import Derived.OrdersIn
import Derived.TacticsIn
import Derived.RangeFuncLeaves
import Derived.RangeFuncCalls
import Derived.RangeFuncRecord
set_option linter.unusedVariables false
set_option linter.unusedSimpArgs false
set_option linter.unusedSectionVars false
namespace Go.V
variable [Dr] [Ov]
open Go.RowKit
def FW (r:Option Nat):Fence:={Fence.wide with round:=r}
theorem zm5 {r:Option Nat} {n:Nat} {P:Program} {f:FuncId} {args:Array Value} {w:World} {R:Ending→World→Prop} (h:Calls P f args w R):CallsIn (FW r) n P f args w R:=by
 cases r with
 | none=>exact callsIn_wide.2 h
 | some l=>exact CallsIn.inRound l (callsIn_wide.2 h)
section
variable {P:Program} {Γ:XG} {call:Caller} {X:Nat→Prop} {w0:Base} {st:St} {xs xs':XS} {β:Nat→Value} {a:Act} {w:World}
theorem z9t {o:Oper} {K:St→Prop} (hg:Goes P X w0 o a w K) (hdef : ∀ c,o.op≠.defer c) (ha:a.defers=[]) (r:Option Nat) (n:Nat) (ms:List Deferred) {N:Act→World→Prop} {Q:Exit→Act→World→Prop}
  (hN : ∀ a' w' st' β',K st'→Mods X w0 st' β' a' w'→N {a' with defers:=ms} w'):o.wpIn (FW r) n P {a with defers:=ms} w N Q:=by
 have h:=hg (fun a' w'=>a'.defers=[]∧N {a' with defers:=ms} w') (fun _ _ _=>False) fun a' w' st' β' hk hm=>⟨hm.defers,hN a' w' st' β' hk hm⟩
 unfold Oper.wp at h
 unfold Oper.wpIn
 refine ⟨fun _ _=>trivial,?_⟩
 rw [Oper.semAt_eq _ _ _ hdef]
 have hev:({a with defers:=ms}:Act).eval=a.eval:=rfl
 rw [hev]
 have hput : ∀ v,(({a with defers:=ms}:Act).put o.dst v) = {a.put o.dst v with defers:=ms}:=by intro v;cases o.dst <;> rfl
 generalize (execOp a.eval o).run P w=res at h
 cases res with
 | ok x w'=>
  cases x with
  | value v=>simp only [Oper.upon] at h;simp only [Oper.uponIn];rw [hput];exact h.2
  | skip=>simp only [Oper.upon] at h;simp only [Oper.uponIn];rw [hput];exact h.2
  | enter f args=>
   simp only [Oper.upon] at h;simp only [Oper.uponIn];refine ⟨fun hd=>by simp [FW,Fence.wide] at hd,zm5 (h.mono fun e w'' he=>?_)⟩
   cases e with
   | returned v=>simp only at he ⊢;rw [hput];exact he.2
   | panicked chain=>exact he.elim
   | outgrown=>obtain ⟨_,_,h⟩:=he;exact h.elim
  | row row args=>
   simp only [Oper.upon] at h;simp only [Oper.uponIn];refine ⟨fun hd=>by simp [FW,Fence.wide] at hd,fun c cs _=>?_⟩
   obtain ⟨v,w'',h1,h2⟩:=h c cs;refine ⟨v,w'',by show N _ w'';rw [hput];exact h1.2,?_⟩
   have:Machine.fenced P (FW r)=Machine.fenced P Fence.wide:=rfl
   rw [this];exact stepsIn_wide.2 h2
  | defer d=>
   simp only [Oper.upon] at h;have h1:(({a with defers:=d::a.defers}:Act).put o.dst undef).defers=[]:=h.1
   have h2:(({a with defers:=d::a.defers}:Act).put o.dst undef).defers=d::a.defers:=by cases o.dst <;> rfl
   rw [h2] at h1;cases h1
  | round=>exact h.elim
  | _=>exact h.elim
 | halt x w'=>cases x <;> first | exact h.elim | (simp only [Oper.upon] at h)
def mark (D:Nat):Deferred:={target:=.collected D,args:=#[]}
structure Under (X:Nat→Prop) (w0:Base) (X':Nat→Prop) (w0':Base):Prop where
 outer:(∀ b,X b→¬ w0.may b)∧Glob w0.w (fun b=>X b∨w0.foot b)
 x : ∀ b,X b→X' b
 may : ∀ b,w0'.may b→w0.may b
 kept:Kept w0 w0'.w
 β0:w0'.β0=w0.β0
structure MX (X:Nat→Prop) (w0:Base) (ms:List Nat) (st:St) (β:Nat→Value) (a:Act) (w:World):Prop where
 mods : ∃ X' w0',Under X w0 X' w0'∧Mods X' w0' st β {a with defers:=[]} w∧∀ D∈ms,X' D∧w0'.w.heap[D]?=some (.deferred (some []))
 defers:a.defers=ms.map mark
 nd:ms.Nodup∧∀ D∈ms,w0.may D
theorem zc9.wk {N N' E E':Nat→Prop} (hN : ∀ b,N b→N' b) (hov:Over w E w E') {id:Nat} {ob:Obj'} (h:zc9 w N E β id ob):zc9 w N' E' β id ob:=by
 cases ob with
 | box T cells=>
  obtain ⟨b,vs,h1,h2,h3,h4,h5⟩:=h;exact ⟨b,vs,h1,hN b h2,h3,zhg (id:=0) (rows:=.bool true) hov h4,h5⟩
 | arr T sz rows=>
  obtain ⟨xs,h1,h2,h3⟩:=h;exact ⟨xs,⟨h1.1,fun b hb=>⟨hN b (h1.2 b hb).1,(h1.2 b hb).2⟩⟩,zae.over hov _ _ h2,h3⟩
 | map T rows=>
  obtain ⟨r,es,clock,h1,h2,h3,h4⟩:=h;exact ⟨r,es,clock,h1,hN r h2,h3,zci.over hov _ _ h4⟩
 | raw k cells=>
  obtain ⟨b,fn,D,vs,h1,h2,h3,h4⟩:=h;exact ⟨b,fn,D,vs,h1,hN b h2,h3,zhg (id:=0) (rows:=.bool true) hov h4⟩
theorem Kept.trans' {B B':Base} {w:World} (h1:Kept B B'.w) (h2:Kept B' w) (hmay : ∀ b,B'.may b→B.may b):Kept B w:=
 ⟨h2.os.trans h1.os,h2.tape.trans h1.tape,h2.output.trans h1.output,Nat.le_trans h1.size h2.size,fun k hk=>(h2.block k (fun h=>hk (hmay k h))).trans (h1.block k hk),h1.drawn.trans h2.drawn⟩
theorem Under.back {X':Nat→Prop} {w0':Base} (hu:Under X w0 X' w0') (hm:Mods X' w0' st β a w):Mods X w0 st β a w:=by
 have hov:Over w (Ex X' β st.own) w (Ex X β st.own):=Over.less fun b hb=>hb.elim (fun h=>.inl (hu.x b h)) .inr
 refine ⟨hu.outer,⟨hm.still.1,fun id h1 h2=>by rw [← hu.β0];exact hm.still.2 id h1 h2⟩,hm.one,hm.defers,hm.size,hu.kept.trans' hm.below hu.may,hm.keys,?_,hm.apart,?_⟩
 ·intro id o h
  obtain ⟨q1,q2,q3⟩:=hm.own id o h;exact ⟨q1,q2,q3.wk hu.may hov⟩
 ·intro t s h
  obtain ⟨q1,q2⟩:=hm.slots t s h;exact ⟨q1,zmv (id:=0) (rows:=.bool true) hov q2⟩
theorem Under.refl (hm:Mods X w0 st β a w):Under X w0 X w0:=⟨hm.outer,fun _ h=>h,fun _ h=>h,Kept.refl _,rfl⟩
theorem MX.of (hm:Mods X w0 st β a w):MX X w0 [] st β a w:=by
 have e:({a with defers:=[]}:Act)=a:=by have:=hm.defers;cases a;simp only at this;subst this;rfl
 exact ⟨⟨X,w0,.refl hm,by rw [e];exact hm,fun D h=>by cases h⟩,hm.defers,List.nodup_nil,fun D h=>by cases h⟩
theorem MX.plain {ms:List Nat} (h:MX X w0 ms st β a w):Mods X w0 st β {a with defers:=[]} w:=by
 obtain ⟨⟨X',w0',hu,hm,_⟩,_⟩:=h
 exact hu.back hm
theorem MX.nil (h:MX X w0 [] st β a w):Mods X w0 st β a w:=by
 have e:({a with defers:=[]}:Act)=a:=by have:=h.defers;cases a;simp only [List.map_nil] at this;subst this;rfl
 rw [← e];exact h.plain
theorem z9u {look:Nat→Option Obj'} {ρ:Operand→Sym} {c:Call}:xop Γ look ρ (.defer c)=none:=rfl
theorem zzu {o:Oper} (h:zxs Γ call o xs=some xs') : ∀ c,o.op≠.defer c:=by
 intro c e
 unfold zxs at h
 rw [e] at h
 simp [z9u,zau] at h
 split at h <;> cases h
theorem z1p (hg:XGood P Γ) (hc:zbn P call) (hag:Ag st xs) {ms:List Nat} (hm:MX X w0 ms st β a w) {o:Oper} (h:zxs Γ call o xs=some xs') (r:Option Nat) (n:Nat) {N:Act→World→Prop} {Q:Exit→Act→World→Prop}
  (hN : ∀ a' w' st' β',Ag st' xs'→MX X w0 ms st' β' a' w'→N a' w'):o.wpIn (FW r) n P a w N Q:=by
 obtain ⟨⟨X',w0',hu,hm',hms⟩,hd,hnd⟩:=hm
 have:=z9t (zkx hg hc hag hm' h) (zzu h) rfl r n (ms.map mark) (N:=N) (Q:=Q) fun a' w' st' β' hag' hm2=>
  hN _ w' st' β' hag' ⟨⟨X',w0',hu,by have e:=hm2.defers;cases a';simp only at e;subst e;exact hm2,hms⟩,rfl,hnd⟩
 have e:({({a with defers:=[]}:Act) with defers:=ms.map mark}:Act)=a:=by cases a;simp only at hd;subst hd;rfl
 rw [e] at this
 exact this
theorem MX.put {ms:List Nat} (hm:MX X w0 ms st β a w) {dst:Option Tmp} {s:Sym} {v:Value} (hd : ∀ t,dst=some t→t<st.n) (hl:Sym.lo st.next s) (hs : ∀ E,Sm w E β s v):MX X w0 ms (st.put dst s) β (a.put dst v) w:=by
 obtain ⟨⟨X',w0',hu,hm',hms⟩,hdf,hnd⟩:=hm
 have e:({a.put dst v with defers:=[]}:Act)=({a with defers:=[]}:Act).put dst v:=by cases dst <;> rfl
 exact ⟨⟨X',w0',hu,by rw [e];exact hm'.za0 hd hl (hs _),hms⟩,by cases dst <;> exact hdf,hnd⟩
theorem zxn : ∀ {k:Nat} {l:List Sym} {tr:Tr} {t:Nat},k+l.length<4095→Tr.get dep (zuv k l tr) t=if k≤t∧t<k+l.length then l[t-k]? else Tr.get dep tr t
 | k,[],tr,t,h=>by simp only [zuv,List.length_nil];rw [if_neg (by omega)]
 | k,s::r,tr,t,h=>by
  simp only [zuv,List.length_cons] at h ⊢;rw [zxn (by omega),Tr.get_put dep tr k s t (by simp [dep];omega)]
  by_cases h1:k+1≤t∧t<k+1+r.length
  ·rw [if_pos h1,if_pos (by omega)]
   have:t-k=(t-(k+1))+1:=by omega
   rw [this,List.getElem?_cons_succ]
  ·rw [if_neg h1]
   by_cases h2:k=t
   ·rw [if_pos h2,if_pos (by omega)];subst h2;simp
   ·rw [if_neg h2,if_neg (by omega)]
theorem zn2 : ∀ {k:Nat} {l:List Sym} {t:Nat},zab (zd0 k l) t=if k≤t∧t<k+l.length then l[t-k]? else none
 | k,[],t=>by simp only [zd0,zab,List.length_nil];rw [if_neg (by omega)]
 | k,s::r,t=>by
  simp only [zd0,zab,List.length_cons];rw [zn2];by_cases h2:k=t
  ·rw [if_pos h2,if_pos (by omega)];subst h2;simp
  ·rw [if_neg h2]
   by_cases h1:k+1≤t∧t<k+1+r.length
   ·rw [if_pos h1,if_pos (by omega)]
    have:t-k=(t-(k+1))+1:=by omega
    rw [this,List.getElem?_cons_succ]
   ·rw [if_neg h1,if_neg (by omega)]
theorem Ag.init (args:List Sym) (own:List (Nat×Obj')) (n ntmps:Nat) (h:args.length<4000):Ag (initC ntmps args own n) ⟨args.length+(ntmps-args.length),n,zuv 0 args .leaf,own,n,[]⟩:=by
 refine ⟨rfl,rfl,rfl,rfl,by simp [initC],fun t=>?_⟩
 show zab (zd0 0 args) t=Tr.get dep (zuv 0 args .leaf) t
 rw [zn2,zxn (by omega),Tr.zhr]
theorem Ag.init' (cells:List Sym) (own:List (Nat×Obj')) (n:Nat) (h:cells.length<4000):Ag (initC 0 cells own n) ⟨cells.length,n,zuv 0 cells .leaf,own,n,[]⟩:=by
 have:=Ag.init cells own n 0 h
 simpa using this
theorem z1q (hg:XGood P Γ) (hag:Ag st xs) : ∀ {rs:List ResultVar} {l:List Sym},z4q Γ xs rs=some l→zhn P st rs=some l
 | [],l,h=>by simpa [z4q,zhn] using h
 | v::r,l,h=>by
  simp only [z4q] at h;split at h
  ·rename_i s l' h1 h2
   cases h;simp only [zhn];rw [z1q hg hag h2];have:znz P st v=some s:=by
    cases v with
    | tmp t=>simp only [znz,xres] at h1 ⊢;rw [hag.slots];exact h1
    | cell ad T=>
     simp only [znz,xres] at h1 ⊢;rw [hag.slots,hag.look];split at h1
     ·rename_i id off ti ha ht
      rw [ha,hg.ti ht];exact h1
     ·cases h1
   rw [this]
  ·cases h
mutual
theorem z9v {m:Nat} : ∀ {s:Sym},loB m s=true→Sym.lo m s
 | .bp i o,h=>by simp only [loB,zb9] at h;simpa [Sym.lo] using h
 | .ar i,h=>by simp only [loB,zb9] at h;simpa [Sym.lo] using h
 | .ap i _ _ _,h=>by simp only [loB,zb9] at h;simpa [Sym.lo] using h
 | .aS i _ _ _,h=>by simp only [loB,zb9] at h;simpa [Sym.lo] using h
 | .av i _ _ _,h=>by simp only [loB,zb9] at h;simpa [Sym.lo] using h
 | .yd i,h=>by simp only [loB,zb9] at h;simpa [Sym.lo] using h
 | .mp i,h=>by simp only [loB,zb9] at h;simpa [Sym.lo] using h
 | .tup l,h=>by simp only [loB] at h;simp only [Sym.lo];exact zix h
 | .agg l,h=>by simp only [loB] at h;simp only [Sym.lo];exact zix h
 | .fn _ l,h=>by simp only [loB] at h;simp only [Sym.lo];exact zix h
 | .d _,_=>by simp [Sym.lo]
 | .nils,_=>by simp [Sym.lo]
 | .junk,_=>by simp [Sym.lo]
theorem zix {m:Nat} : ∀ {l:List Sym},losB m l=true→Sym.los m l
 | [],_=>by simp [Sym.los]
 | s::r,h=>by simp only [losB,Bool.and_eq_true] at h;simp only [Sym.los];exact ⟨z9v h.1,zix h.2⟩
end
theorem Mods.final (hm:Mods X w0 st β a w) (p:Nat×Obj'→Bool) {n nx:Nat} {mv:List Nat} (hn:st.base=n) (hx:st.next=nx) (hmv : ∀ id,id<n→id∈st.moved→id∈mv) :
  Mods X w0 (zde (st.own.filter p) n nx mv) β act0 w∧∀ s v,Sm w (Ex X β st.own) β s v→Sm w (Ex X β (st.own.filter p)) β s v:=by
 have hsub : ∀ id o,(id,o)∈st.own.filter p→(id,o)∈st.own:=fun id o h=>(List.mem_filter.1 h).1
 have hov:Over w (Ex X β st.own) w (Ex X β (st.own.filter p)):=Over.less (fun b hb=>hb.elim .inl fun ⟨i,x,hx,e⟩=>.inr ⟨i,x,hsub i x hx,e⟩)
 subst hn;subst hx
 refine ⟨⟨hm.outer,⟨hm.still.1,fun i h1 h2=>hm.still.2 i h1 (fun h=>h2 (hmv i h1 h))⟩,hm.one,rfl,rfl,hm.below,?_,?_,?_,by intro t s ht;simp [zde,zab] at ht⟩,fun s v h=>zmv (id:=0) (rows:=.bool true) hov h⟩
 ·exact hm.keys.sublist (List.Sublist.map _ List.filter_sublist)
 ·intro id o hmem
  obtain ⟨q1,q2,q3⟩:=hm.own id o (hsub id o hmem);exact ⟨q1,q2,zc9.over (m:=st.next) (fun _ _=>rfl) hov q1 q2 (fun _ _=>rfl) q3⟩
 ·exact fun i x j y c hx hy e1 e2=>hm.apart i x j y c (hsub i x hx) (hsub j y hy) e1 e2
end
end Go.V
namespace Go.V
variable [Dr] [Ov]
open Go.RowKit
def ydd (P:Program) (r:Option Nat) (pl:Bool) (c:Code) (e:DE) (xs':XS) (st:St):Prop:=
 ∀ (X:Nat→Prop) (w0:Base) (β:Nat→Value) (a:Act) (w:World) (ms:List Nat) (n:Nat),MX X w0 ms st β a w→(pl=true→r=none∧ms=[]) →
  c.wpIn (FW r) n P (fun e' a' w'=>∃ st' β' ms',exM e' e∧Ag st' xs'∧MX X w0 ms' st' β' a' w'∧((pl&&zbm c)=false→ms'=ms)) a w
def zkt (P:Program) (run:Runner):Prop:=∀ c xs e xs' st l,run c xs=some (e,xs')→Ag st xs→ydd P (some l) false c e xs' st
def zqm (P:Program) (id:Nat) (args:List Sym) (own:List (Nat×Obj')) (n:Nat) (s:Sym) (nx:Nat) (own':List (Nat×Obj')) (mv:List Nat):Prop:=
 ∀ (X:Nat→Prop) (w0:Base) (β:Nat→Value) (w:World) (vs:List Value),w0.β0=β→Mods X w0 (zde own n n []) β act0 w→Sms w (Ex X β own) β args vs →
  ∃ b,β id = .pointer (some ⟨b,0,none⟩)∧∀ (r:Option Nat) (m:Nat),YieldAt (FW r) m P b vs.toArray w fun e w'=>∃ β' v,e = .returned v∧Mods X w0 (zde own' n nx mv) β' act0 w'∧Sym.lo nx s∧Sm w' (Ex X β' own') β' s v
section
variable {P:Program} {Γ:XG} {call:Caller} {run:Runner} {X:Nat→Prop} {w0:Base} {st:St} {xs xs':XS} {β:Nat→Value} {a:Act} {w:World}
theorem z1r : ∀ {ps:List Nat} {ss:List Sym} {vs:List Value} {st:St} {xs:XS} {a:Act},Ag st xs→Mods X w0 st β a w→(∀ p∈ps,p<st.n∧p+1<4096)→Sym.los st.next ss→Sms w (Ex X β st.own) β ss vs→ps.length=ss.length →
  ∃ st',Ag st' {xs with slots:=z1u ps ss xs.slots}∧Mods X w0 st' β {a with tmps:=(ps.zip vs).foldl (fun t (p,v)=>t.setIfInBounds p v) a.tmps} w
 | [],[],vs,st,xs,a,hag,hm,_,_,_,_=>⟨st,by simpa [z1u] using hag,by simpa using hm⟩
 | p::ps,s::ss,vs,st,xs,a,hag,hm,hp,hl,hs,hlen=>by
  simp only [Sms] at hs;obtain ⟨v,vs',rfl,h1,h2⟩:=hs;simp only [Sym.los] at hl;have hm':=hm.za0 (dst:=some p) (s:=s) (v:=v) (fun t e=>by cases e;exact (hp p (by simp)).1) hl.1 h1
  have hag':Ag (st.put (some p) s) (xs.put (some p) s):=by
   refine ⟨hag.n,hag.next,hag.own,hag.base,hag.moved,fun u=>?_⟩
   show (if p=u then some s else zab st.slots u)=Tr.get dep (Tr.put dep xs.slots p s) u
   rw [Tr.get_put dep xs.slots p s u (by simpa [dep] using (hp p (by simp)).2),hag.slots];rfl
  obtain ⟨st',g1,g2⟩:=z1r (ps:=ps) (ss:=ss) (vs:=vs') hag' hm' (fun q hq=>hp q (List.mem_cons_of_mem _ hq)) hl.2 h2 (by simpa using hlen)
  exact ⟨st',g1,g2⟩
theorem zeh (hm:Mods X w0 st β a w) {id:Nat} {ps:Array Tmp} {aS bd:Code} {s s':LoopState} {pd pd':Option Code} {cells:List Sym} (hob:st.look id=some (.raw (.lp ps aS bd s pd) cells)) :
  ∃ b fn D vs,β id = .pointer (some ⟨b,0,none⟩)∧w.heap[b]?=some (.loop {state:=s,pending:=pd,fn,tmps:=vs,params:=ps,assign:=aS,body:=bd,defers:=D}) ∧
   Mods X w0 {st with own:=aset id (.raw (.lp ps aS bd s' pd') cells) st.own} β a (w.putObj b (.loop {state:=s',pending:=pd',fn,tmps:=vs,params:=ps,assign:=aS,body:=bd,defers:=D})):=by
 obtain ⟨hid,hlo,b,fn,D,vs,hb,hN,hh,hs⟩:=hm.obj hob
 have hlt:=(Array.getElem?_eq_some_iff.1 hh).1
 refine ⟨b,fn,D,vs.toArray,hb,hh,?_⟩
 have hsame : ∀ c,c≠b→(w.putObj b (.loop {state:=s',pending:=pd',fn,tmps:=vs.toArray,params:=ps,assign:=aS,body:=bd,defers:=D})).heap[c]?=w.heap[c]?:=fun c hc=>World.putObj_heap_other hc
 have hbE:Ex X β st.own b:=.inr ⟨id,_,zaw hob,by rw [hb];rfl⟩
 have hov:=zlk hbE hsame
 refine hm.update hob (b:=b) (by rw [hb];rfl) hN hsame (by simp) rfl rfl rfl (fun _=>Nat.le_refl _) hlo ?_
 exact ⟨b,fn,D,vs,hb,hN,World.putObj_heap_same hlt,Sms.over (m:=st.next) (fun _ _=>rfl) hov hlo hs⟩
theorem zxo (hr:zkt P run) {id:Nat} {args:List Sym} {own:List (Nat×Obj')} {n:Nat} {R:XR} (hl:Sym.los n args) (h:zxu run id args own n=some R):zqm P id args own n R.s R.nx R.own R.mv:=by
 unfold zxu at h
 rw [zf3] at h
 split at h
 ·rename_i ps aS bd cells hob
  split at h
  ·rename_i xs1 h1
   rw [zac] at h1;simp only [Bool.and_eq_true,beq_iff,List.all_eq_true,zb9] at h1;obtain ⟨⟨⟨hps,hpl⟩,hcl⟩,h1⟩:=h1;split at h
   ·rename_i ps1 a1 b1 cells1 hg1
    rw [zac] at hg1;simp only [Bool.and_eq_true,beq_iff,Bool.not_eq_true',zb9] at hg1;obtain ⟨⟨⟨hb1,hmv1⟩,hidn⟩,hlk1⟩:=hg1;split at h
    ·rename_i de xs2 h2
     split at h
     ·rename_i ps2 a2 b2 cells2 hlk2
      rw [zac] at h;simp only [Bool.and_eq_true,beq_iff,Bool.not_eq_true'] at h;obtain ⟨⟨hb2,hmv2⟩,h⟩:=h;cases h;intro X w0 β w vs hβ hm hs;have hob':(zde own n n []).look id=some (.raw (.lp ps aS bd .ready none) cells):=hob
      obtain ⟨hid,hlo,b,fn,D,vs0,hb,hN,hh,hs0⟩:=hm.obj hob';refine ⟨b,hb,fun r m=>?_⟩
      have hlen:=hs.length;have hy:=run_yield (P:=P) (args:=vs.toArray) hh (by simp [hlen,hps])
      refine ⟨fn,_,aS,bd,hy,roundIn_of_wpIn trivial ?_⟩
      -- the round's frame
      have hm0:=hm.initC (ntmps:=0) hs0 hlo;have hag0:=Ag.init' cells own n hcl;obtain ⟨st1,hag1,hm1⟩:=z1r (ps:=ps.toList) (ss:=args) (vs:=vs) hag0 hm0 (fun p hp=>⟨by have:=hpl p hp;simpa [initC] using this,by have:=hpl p hp;omega⟩) hl hs (by simp [hps])
      have hact:({tmps:=(ps.zip vs.toArray).foldl (fun tmps (t,a)=>tmps.setIfInBounds t a) vs0.toArray,defers:=[]}:Act) =
        {({tmps:=vs0.toArray++Array.replicate (0-vs0.toArray.size) undef,defers:=[]}:Act) with tmps:=(ps.toList.zip vs).foldl (fun t (p,v)=>t.setIfInBounds p v) (vs0.toArray++Array.replicate (0-vs0.toArray.size) undef)}:=by
       congr 1
       rw [← Array.foldl_toList];simp
      rw [hact];have hrun1:=hr aS _ .normal xs1 st1 b h1 hag1 X w0 β _ w [] m (.of hm1) (fun e=>by cases e)
      have efw:(FW r).inRound b=FW (some b):=rfl
      rw [efw];refine wpIn_mono hrun1 ?_
      rintro e' a' w' ⟨st2,β2,ms2,he,hag2,hmx2,hms2⟩
      have hms2':ms2=[]:=hms2 rfl
      subst hms2';cases e' <;> simp only [exM] at he
      have hm2:=hmx2.nil;have same : ∀ {st':St} {xs':XS} {β':Nat→Value} {a':Act} {w':World},Mods X w0 st' β' a' w'→Ag st' xs'→xs'.base=n→xs'.moved.any (Nat.beq id)=false→β' id=β id:=by
       intro st' xs' β' a' w' hm' hag' hb' hmv';have hbase:st'.base=n:=by rw [hag'.base];exact hb'
       rw [hm'.still.2 id (by rw [hbase];exact hidn) (fun hmem=>by
        have:=hag'.moved id (by rw [hbase];exact hidn) hmem
        rw [any_beq.2 this] at hmv';cases hmv'),hβ]
      have hob2:st2.look id=some (.raw (.lp ps1 a1 b1 .ready none) cells1):=by rw [hag2.look];exact hlk1
      obtain ⟨b',fn',D',vs',hbb,hh',hm3⟩:=zeh (s':=.busy) (pd':=none) hm2 hob2;have ebb:b'=b:=by
       have:=same hm2 hag2 hb1 hmv1
       rw [hbb,hb] at this;simpa using this
      subst ebb;refine ⟨_,run_beginRound hh' rfl,?_⟩
      have hag3:Ag {st2 with own:=aset id (.raw (.lp ps1 a1 b1 .busy none) cells1) st2.own} (xs1.set id (.raw (.lp ps1 a1 b1 .busy none) cells1)):=hag2.set id _
      have hrun2:=hr _ _ de xs2 _ b' h2 hag3 X w0 β2 a' _ [] m (.of hm3) (fun e=>by cases e)
      refine wpIn_mono hrun2 ?_
      rintro e' a' w' ⟨st4,β4,ms4,he',hag4,hmx4,hms4⟩
      have hms4':ms4=[]:=hms4 rfl
      subst hms4';have hm4:=hmx4.nil;have hob4:st4.look id=some (.raw (.lp ps2 a2 b2 .busy none) cells2):=by rw [hag4.look];exact hlk2
      obtain ⟨b4,fn4,D4,vs4,hbb4,hh4,hm5⟩:=zeh (s':=zfo de) (pd':=zcx de) hm4 hob4;have ebb4:b4=b':=by
       have:=same hm4 hag4 hb2 hmv2
       rw [hbb4,hb] at this;simpa using this
      subst ebb4;have hag5:Ag {st4 with own:=aset id (.raw (.lp ps2 a2 b2 (zfo de) (zcx de)) cells2) st4.own} (xs2.set id (.raw (.lp ps2 a2 b2 (zfo de) (zcx de)) cells2)):=hag4.set id _
      obtain ⟨m1,m2⟩:=hm5.final (zxt n (reach xs2.look 1000 (List.range n) [])) (n:=n) (nx:=xs2.next) (mv:=xs2.moved) (by rw [hag5.base];exact hb2) hag5.next (fun i h1 h2=>hag5.moved i (by rw [hag5.base];show i<xs2.base;omega) h2)
      have hend:=run_endRound (P:=P) (zcx de) hh4;have hfin : ∃ β' v,Ending.returned (.bool (zcx de).isNone) = .returned v∧Mods X w0 (zde ((xs2.set id (.raw (.lp ps2 a2 b2 (zfo de) (zcx de)) cells2)).own.filter (zxt n (reach xs2.look 1000 (List.range n) []))) n xs2.next xs2.moved) β' act0
        (w'.putObj b4 (.loop {state:=if (zcx de).isNone then .ready else .done,pending:=zcx de,fn:=fn4,tmps:=vs4,params:=ps2,assign:=a2,body:=b2,defers:=D4}))∧Sym.lo xs2.next (.d (.bool (ze6 de))) ∧
        Sm (w'.putObj b4 (.loop {state:=if (zcx de).isNone then .ready else .done,pending:=zcx de,fn:=fn4,tmps:=vs4,params:=ps2,assign:=a2,body:=b2,defers:=D4})) (Ex X β' ((xs2.set id (.raw (.lp ps2 a2 b2 (zfo de) (zcx de)) cells2)).own.filter (zxt n (reach xs2.look 1000 (List.range n) [])))) β' (.d (.bool (ze6 de))) v:=by
       have est:(if (zcx de).isNone then LoopState.ready else .done)=zfo de:=by cases de <;> rfl
       have ebo:(zcx de).isNone=ze6 de:=by cases de <;> rfl
       rw [est];rw [hag5.own] at m1;exact ⟨β4,_,rfl,m1,by simp [Sym.lo],by simp [Sm,R,ebo]⟩
      cases e' <;> cases de <;> simp only [exM] at he'
      ·exact ⟨_,_,hend,hfin⟩
      ·subst he';exact ⟨_,_,hend,hfin⟩
      ·exact ⟨_,_,hend,hfin⟩
     ·cases h
    ·cases h
   ·cases h
  ·cases h
 ·cases h
end
end Go.V
namespace Go.V
variable [Dr] [Ov]
open Go.RowKit
section
variable {P:Program} {Γ:XG} {call:Caller} {run:Runner} {X:Nat→Prop} {w0:Base} {st:St} {xs xs':XS} {β:Nat→Value} {a:Act} {w:World}
theorem z9w (hag:Ag st xs) (hm:Mods X w0 st β a w) {ids:List Nat} {own0:List (Nat×Obj')} (hn:nodupB ids=true) (hp:zxr xs.look ids 0 ids=some own0):Fits st ids own0:=by
 obtain ⟨q1,q2,q3⟩:=zm9 hp (fun j x hj=>by simp [rho,hj])
 refine ⟨zht hn,?_,by rw [q1,List.range_eq_range'],zqu fun i o hmem=>?_⟩
 ·intro id hid
  obtain ⟨o,ho⟩:=q3 id hid;rw [← hag.look] at ho;exact (hm.obj ho).1
 ·obtain ⟨o',h3,h4,h5⟩:=q2 i o hmem
  obtain ⟨h6,h7⟩:=z1x h5;rw [hag.look,h4,h6];exact ⟨h3,h7⟩
theorem zsy {ids:List Nat} {own0:List (Nat×Obj')} (hf:Fits st ids own0) {aS:List Sym} {vs:List Value} (hin:zkw ids aS=true) (hs:Sms w (Ex X β st.own) β aS vs) :
  Sms w (Ex (outOf X β ids st.own) (fun i=>β (rho ids i)) own0) (fun i=>β (rho ids i)) (rens (zby ids) aS) vs∧Sym.los ids.length (rens (zby ids) aS):=by
 obtain ⟨h1,h2⟩:=zf4 hin
 have hE:Ex (outOf X β ids st.own) (fun i=>β (rho ids i)) own0=Ex X β st.own:=funext fun b=>propext (hf.ex b)
 rw [← h1] at hs
 rw [hE]
 exact ⟨zgb (ρ:=rho ids) (β:=fun i=>β (rho ids i)) (β':=β) (m:=ids.length) (fun _ _=>rfl) h2 hs,h2⟩
theorem z9x {b:Nat} {args:Array Value} {fn:FuncId} {tmps:Array Value} {aS bd:Code} (h:(Instr.yield b args).run P w = .ok (.round b fn tmps aS bd) w) :
  (do let d ← Deferred.ofValue (.func (.yield b) #[] #[]) args;invoke d.target d.args:Sem Next).run P w = .ok (.round b fn tmps aS bd) w:=by
 simp [go_sem,Deferred.ofValue,invoke,h]
theorem z9y (hr:zkt P run) (hag:Ag st xs) (hm:Mods X w0 st β a w) {o:Oper} {f:Operand} {args:Array Operand} {ts:Array TypeId} (ho:o.op = .call {callee:=.value f,args,argTypes:=ts})
  {id k:Nat} (hy:st.val f = .yd id) (hd:xdst o.dst k=true) (hdn : ∀ t,o.dst=some t→t<st.n) (h:z1v run xs id (args.toList.map st.val) o.dst=some xs') (r:Option Nat) (n:Nat) (ms:List Deferred)
  {N:Act→World→Prop} {Q:Exit→Act→World→Prop} (hN : ∀ a' w' st' β',Ag st' xs'→Mods X w0 st' β' a' w'→N {a' with defers:=ms} w'):o.wpIn (FW r) n P {a with defers:=ms} w N Q:=by
 unfold z1v at h
 simp only at h
 generalize reach xs.look 1000 (zd4 (.yd id::args.toList.map st.val) []) (zd4 (.yd id::args.toList.map st.val) [])=ids at h
 split at h
 ·rename_i own0 hp
  rw [zac,Bool.and_eq_true] at hp;obtain ⟨⟨hn,hin⟩,hp⟩:=hp;simp only [zkw,Bool.and_eq_true] at hin;obtain ⟨hin1,hin2⟩:=hin;have hid:id∈ids:=by simpa only [innB,any_beq] using hin1
  split at h
  ·rename_i R hR
   cases h;have hf:=z9w hag hm hn hp;obtain ⟨hs1,hl1⟩:=zsy hf hin2 (Sms.zjz hm args.toList).1;obtain ⟨b,hb,hround⟩:=zxo hr hl1 hR (outOf X β ids st.own) (inBase β ids w) (fun i=>β (rho ids i)) w _ rfl (hm.zp4 hf) hs1
   rw [(zb3 hid).1] at hb;have hv:=(hm.val f).2;rw [hy] at hv;simp only [Sm] at hv;obtain ⟨b',hb',hv⟩:=hv;rw [hb] at hb';cases hb';obtain ⟨fn,tmps,aS,bd,hyr,hrnd⟩:=hround r (n-1);have hdef : ∀ c,o.op≠.defer c:=fun c e=>by rw [ho] at e;cases e
   unfold Oper.wpIn;refine ⟨fun _ _=>trivial,?_⟩
   rw [Oper.semAt_eq _ _ _ hdef];have hev:({a with defers:=ms}:Act).eval=a.eval:=rfl
   rw [hev];have hrun:(execOp a.eval o).run P w = .ok (.round b fn tmps aS bd) w:=by
    have e3:Array.map a.eval args=(args.toList.map a.eval).toArray:=Array.ext' (by simp)
    simp only [execOp,ho,resolve,hv];rw [e3];exact z9x hyr
   rw [hrun];simp only [Oper.uponIn];refine ⟨fun hd=>by simp [FW,Fence.wide] at hd,hrnd.mono fun e w' he=>?_⟩
   obtain ⟨β1,v,rfl,hm1,hsl,hsm⟩:=he;obtain ⟨h1,h2⟩:=hm.zlt hf hm1;obtain ⟨q1,q2⟩:=h2 R.s v hsl hsm;have hput:(({a with defers:=ms}:Act).put o.dst v) = {a.put o.dst v with defers:=ms}:=by cases o.dst <;> rfl
   show N (({a with defers:=ms}:Act).put o.dst v) w'
   rw [hput];refine hN _ w' ((st.after ids R.nx R.own R.mv).put o.dst (ren (rho' ids st.next) R.s)) _ ?_ (h1.za0 hdn q1 q2)
   rw [hag.next];exact (hag.after hm.still.1 ids R.nx R.own R.mv).put hd _
  ·cases h
 ·cases h
theorem zxp (hg:XGood P Γ) (hc:zbn P call) (hr:zkt P run) (hag:Ag st xs) {ms:List Nat} (hm:MX X w0 ms st β a w) {o:Oper} (h:zs5 Γ call run o xs=some xs') (r:Option Nat) (n:Nat) {N:Act→World→Prop} {Q:Exit→Act→World→Prop}
  (hN : ∀ a' w' st' β',Ag st' xs'→MX X w0 ms st' β' a' w'→N a' w'):o.wpIn (FW r) n P a w N Q:=by
 unfold zs5 at h
 split at h
 ·rename_i f args ts ho
  split at h
  ·rename_i id hy
   rw [zac] at h;obtain ⟨hd,h⟩:=h;rw [← hag.val] at h hy;obtain ⟨⟨X',w0',hu,hm',hms⟩,hdf,hnd⟩:=hm;have hdn : ∀ t,o.dst=some t→t<st.n:=fun t e=>by rw [hag.n];exact (zge hd).1 t e
   have:=z9y hr hag hm' ho hy hd hdn h r n (ms.map mark) (N:=N) (Q:=Q) fun a' w' st' β' hag' hm2=>
    hN _ w' st' β' hag' ⟨⟨X',w0',hu,by have e:=hm2.defers;cases a';simp only at e;subst e;exact hm2,hms⟩,rfl,hnd⟩
   have e:({({a with defers:=[]}:Act) with defers:=ms.map mark}:Act)=a:=by cases a;simp only at hdf;subst hdf;rfl
   rw [e] at this;exact this
  ·exact z1p hg hc hag hm h r n hN
 ·exact z1p hg hc hag hm h r n hN
theorem zsz {ms:List Nat} (hm:MX X w0 ms st β a w) {t:Nat} {b:Bool} (h:zab st.slots t=some (.d (.bool b))):a.tmps[t]?=some (.bool b):=zqf hm.plain h
theorem zur (hg:XGood P Γ) (hc:zbn P call) (hr:zkt P run) {all:List Oper} {ms:List Nat} {r:Option Nat} {n:Nat} {Q:Exit→Act→World→Prop} : ∀ {l:List Oper} {st:St} {xs xs':XS} {β:Nat→Value} {a:Act} {w:World},
  Ag st xs→xops Γ call run all l xs=some xs'→MX X w0 ms st β a w→(∀ a' w' st' β',Ag st' xs'→MX X w0 ms st' β' a' w'→Q .normal a' w')→wpListIn (FW r) n P all.toArray Q l a w
 | [],st,xs,xs',β,a,w,hag,h,hm,hN=>by simp only [xops] at h;cases h;exact hN a w st β hag hm
 | o::l,st,xs,xs',β,a,w,hag,h,hm,hN=>by
  simp only [xops] at h;refine wpListIn_step fun N' hN'=>?_
  have skip : ∀ {h2:xdst o.dst xs.n=true},xops Γ call run all l (xs.put o.dst (.d (.val undef)))=some xs'→N' (a.put o.dst undef) w:=by
   intro hd h;have hdt : ∀ t,o.dst=some t→t<st.n:=fun t e=>by rw [hag.n];exact (zge hd).1 t e
   exact hN' _ w (zur hg hc hr (hag.put hd _) h (hm.put hdt (by simp [Sym.lo]) (fun E=>by simp [Sm,R])) hN)
  split at h
  ·rename_i hgd
   simp only [Region.wanted,hgd,if_true];split at h
   ·rename_i xs1 h1
    exact zxp hg hc hr hag hm h1 r n fun a' w' st' β' hag' hm'=>hN' a' w' (zur hg hc hr hag' h hm' hN)
   ·cases h
  ·rename_i j want hgd
   split at h
   ·rename_i t ht
    rw [← hag.slots] at h;split at h
    ·rename_i b hb
     have hy:=zf2 (zdo ht) (zsz hm hb);simp only [Region.wanted,hgd,hy];split at h
     ·rename_i e
      have e:b=want:=by simpa using e
      subst e;simp only [beq_self_eq_true,if_true];split at h
      ·rename_i xs1 h1
       exact zxp hg hc hr hag hm h1 r n fun a' w' st' β' hag' hm'=>hN' a' w' (zur hg hc hr hag' h hm' hN)
      ·cases h
     ·rename_i e
      have:(some b==some want)=false:=by simpa using e
      simp only [this,Bool.false_eq_true,if_false];rw [zac] at h;exact ⟨fun _ _=>trivial,skip (h2:=h.1) h.2⟩
    ·rename_i hv
     obtain ⟨hs1,hs2⟩:=hm.plain.slots t _ hv;simp only [Sm,R] at hs2;have hy:yielded all.toArray a.tmps j=none:=zdf (zdo ht) hs2
     simp only [Region.wanted,hgd,hy];have:((none:Option Bool)==some want)=false:=rfl
     simp only [this,Bool.false_eq_true,if_false];rw [zac] at h;exact ⟨fun _ _=>trivial,skip (h2:=h.1) h.2⟩
    ·cases h
   ·cases h
def zl5 (P:Program) (draw:List Oper→XS→Option XS):Prop:=∀ id (ops:List Oper) xs xs' st,Ag st xs→draw ops xs=some xs'→Triple P (.region id ops.toArray true) (fun e' st'=>e' = .normal∧Ag st' xs') st
def yey (X:Nat→Prop) (w0:Base) (ms:List Nat) (same:Bool) (e:DE) (xs':XS) (e':Exit) (a':Act) (w':World):Prop:=
 ∃ st' β' ms',exM e' e∧Ag st' xs'∧MX X w0 ms' st' β' a' w'∧(same=false→ms'=ms)
theorem z1s {f:XS→Option (DE×XS)} {c:Code} {r:Option Nat} {n:Nat} {ms:List Nat}
  (hf : ∀ xs st e xs' β a w,f xs=some (e,xs')→Ag st xs→MX X w0 ms st β a w→c.wpIn (FW r) n P (yey X w0 ms false e xs') a w) {e:DE} : ∀ {k:Nat} {st:St} {xs xs':XS} {β:Nat→Value} {a:Act} {w:World},z97 f k xs=some (e,xs')→Ag st xs →
  MX X w0 ms st β a w→Code.roundsIn (FW r) n P c (yey X w0 ms false e xs') k a w
 | 0,st,xs,xs',β,a,w,h,hag,hm=>by simp [z97] at h
 | k+1,st,xs,xs',β,a,w,h,hag,hm=>by
  simp only [z97] at h;rw [roundsIn_succ];cases hfx:f xs with
  | none=>rw [hfx] at h;cases h
  | some q=>
   obtain ⟨e1,xs1⟩:=q;rw [hfx] at h;refine wpIn_mono (hf xs st e1 xs1 β a w hfx hag hm) ?_
   rintro e2 a' w' ⟨st',β',ms',he,hag',hm',hms⟩
   have hms':=hms rfl;subst hms';cases e1 with
   | normal=>
    simp only at h
    cases e2 <;> simp only [exM] at he
    exact z1s hf h hag' hm'
   | exit i=>
    simp only at h
    cases h;cases e2 <;> simp only [exM] at he
    subst he;exact ⟨st',β',_,rfl,hag',hm',fun _=>rfl⟩
   | ret=>
    simp only at h
    cases h;cases e2 <;> simp only [exM] at he
    exact ⟨st',β',_,trivial,hag',hm',fun _=>rfl⟩
def zxq (P:Program) (call:Caller):Prop:=∀ g ps aS bd e xs xs' st X w0 β a w n,z98 call xs g ps aS bd=some (e,xs')→Ag st xs→Mods X w0 st β a w→(Code.rangeFunc g ps aS bd).wpIn (FW none) n P (yey X w0 [] true e xs') a w
theorem ze5 (hg:XGood P Γ) (hc:zbn P call) (hr:zkt P run) {draw:List Oper→XS→Option XS} (hdr:zl5 P draw) (hrg:zxq P call) : ∀ {c:Code} {pl:Bool} {r:Option Nat} {xs xs':XS} {e:DE} {st:St},zei Γ call run draw c pl xs=some (e,xs')→Ag st xs→ydd P r pl c e xs' st
 | .skip,pl,r,xs,xs',e,st,h,hag=>by simp only [zei] at h;cases h;exact fun X w0 β a w ms n hm hp=>wpIn_skip ⟨st,β,ms,trivial,hag,hm,fun _=>rfl⟩
 | .region id ops d,pl,r,xs,xs',e,st,h,hag=>by
  simp only [zei] at h;intro X w0 β a w ms n hm hp;cases d with
  | true=>
   simp only at h
   cases pl with
   | false=>simp only at h;cases h
   | true=>
    simp only at h
    split at h
    ·rename_i xs1 h1
     cases h;obtain ⟨rfl,rfl⟩:=hp rfl;have:=hdr id ops.toList xs _ st hag h1 X w0 β a w hm.nil
     rw [Array.toArray_toList] at this;refine wpIn_mono (wpIn_wide.2 this) ?_
     rintro e' a' w' ⟨de,st',β',he,⟨rfl,hag'⟩,hm'⟩
     exact ⟨st',β',[],he,hag',.of hm',fun _=>rfl⟩
    ·cases h
  | false=>
   simp only at h
   split at h
   ·rename_i xs1 h1
    cases h;refine wpIn_region_list ?_
    have:=zur (P:=P) (X:=X) (w0:=w0) (all:=ops.toList) (r:=r) (n:=n) (Q:=fun e' a' w'=>∃ st' β' ms',exM e' .normal∧Ag st' xs'∧MX X w0 ms' st' β' a' w'∧((pl&&zbm (.region id ops false))=false→ms'=ms)) hg hc hr hag h1 hm
     (fun a' w' st' β' hag' hm'=>⟨st',β',ms,trivial,hag',hm',fun _=>rfl⟩)
    simpa using this
   ·cases h
 | .seq x y,pl,r,xs,xs',e,st,h,hag=>by
  simp only [zei] at h;intro X w0 β a w ms n hm hp;cases hx:zei Γ call run draw x pl xs with
  | none=>rw [hx] at h;cases h
  | some q=>
   obtain ⟨e1,xs1⟩:=q;rw [hx] at h;refine wpIn_seq (wpIn_mono (ze5 hg hc hr hdr hrg hx hag X w0 β a w ms n hm hp) ?_)
   rintro e2 a' w' ⟨st',β',ms',he,hag',hm',hms⟩
   have hms2:(pl&&zbm (.seq x y))=false→ms'=ms:=fun hh=>hms (by simp only [zbm] at hh;cases pl <;> simp_all)
   cases e1 with
   | normal=>
    simp only at h
    cases e2 <;> simp only [exM] at he
    refine wpIn_mono (ze5 hg hc hr hdr hrg h hag' X w0 β' a' w' ms' n hm' ?_) ?_
    ·intro hh
     simp only [Bool.and_eq_true,Bool.not_eq_true'] at hh;obtain ⟨h1,h2⟩:=hp hh.1;exact ⟨h1,by rw [hms (by rw [hh.2];simp),h2]⟩
    ·rintro e3 a3 w3 ⟨st3,β3,ms3,he3,hag3,hm3,hms3⟩
     refine ⟨st3,β3,ms3,he3,hag3,hm3,fun hh=>?_⟩
     rw [hms3 (by simp only [zbm] at hh;cases pl <;> simp_all),hms2 hh]
   | exit i=>
    simp only at h
    cases h;cases e2 <;> simp only [exM] at he
    subst he;exact ⟨st',β',ms',rfl,hag',hm',hms2⟩
   | ret=>
    simp only at h
    cases h;cases e2 <;> simp only [exM] at he
    exact ⟨st',β',ms',trivial,hag',hm',hms2⟩
 | .cond c x y,pl,r,xs,xs',e,st,h,hag=>by
  simp only [zei] at h;intro X w0 β a w ms n hm hp;rw [← hag.val] at h;have weaken : ∀ {z:Code},(zbm z=true→zbm (.cond c x y)=true)→z.wpIn (FW r) n P (fun e' a' w'=>∃ st' β' ms',exM e' e∧Ag st' xs'∧MX X w0 ms' st' β' a' w'∧((pl&&zbm z)=false→ms'=ms)) a w →
    z.wpIn (FW r) n P (fun e' a' w'=>∃ st' β' ms',exM e' e∧Ag st' xs'∧MX X w0 ms' st' β' a' w'∧((pl&&zbm (.cond c x y))=false→ms'=ms)) a w:=by
   intro z hz hw;refine wpIn_mono hw ?_
   rintro e3 a3 w3 ⟨st3,β3,ms3,he3,hag3,hm3,hms3⟩
   exact ⟨st3,β3,ms3,he3,hag3,hm3,fun hh=>hms3 (by cases pl <;> cases hq:zbm z <;> simp_all)⟩
  split at h
  ·rename_i hb
   have hv:=(hm.plain.val c).2;rw [hb] at hv;simp only [Sm,R] at hv;exact wpIn_cond_true hv (weaken (fun e=>by simp [zbm,e]) (ze5 hg hc hr hdr hrg h hag X w0 β a w ms n hm hp))
  ·rename_i hb
   have hv:=(hm.plain.val c).2;rw [hb] at hv;simp only [Sm,R] at hv;exact wpIn_cond_false hv (weaken (fun e=>by simp [zbm,e]) (ze5 hg hc hr hdr hrg h hag X w0 β a w ms n hm hp))
  ·cases h
 | .block id c,pl,r,xs,xs',e,st,h,hag=>by
  simp only [zei] at h;intro X w0 β a w ms n hm hp;cases hx:zei Γ call run draw c pl xs with
  | none=>rw [hx] at h;simp [zfp] at h
  | some q=>
   obtain ⟨e1,xs1⟩:=q;rw [hx] at h;refine wpIn_block (wpIn_mono (ze5 hg hc hr hdr hrg hx hag X w0 β a w ms n hm hp) ?_)
   rintro e2 a' w' ⟨st',β',ms',he,hag',hm',hms⟩
   cases e1 with
   | normal=>
    simp only [zfp] at h;cases h;cases e2 <;> simp only [exM] at he
    exact ⟨st',β',ms',trivial,hag',hm',hms⟩
   | exit i=>
    simp only [zfp] at h;cases e2 <;> simp only [exM] at he
    subst he;simp only [Exit.inBlock];split at h
    ·rename_i e;rw [beq_iff] at e;cases h
     rw [if_pos e];exact ⟨st',β',ms',trivial,hag',hm',hms⟩
    ·rename_i e;cases h
     rw [if_neg (fun e'=>by rw [beq_iff.2 e'] at e;cases e)];exact ⟨st',β',ms',rfl,hag',hm',hms⟩
   | ret=>
    simp only [zfp] at h;cases h;cases e2 <;> simp only [exM] at he
    exact ⟨st',β',ms',trivial,hag',hm',hms⟩
 | .exit id,pl,r,xs,xs',e,st,h,hag=>by simp only [zei] at h;cases h;exact fun X w0 β a w ms n hm hp=>wpIn_exit ⟨st,β,ms,rfl,hag,hm,fun _=>rfl⟩
 | .ret,pl,r,xs,xs',e,st,h,hag=>by simp only [zei] at h;cases h;exact fun X w0 β a w ms n hm hp=>wpIn_ret ⟨st,β,ms,trivial,hag,hm,fun _=>rfl⟩
 | .loop c,pl,r,xs,xs',e,st,h,hag=>by
  simp only [zei] at h;intro X w0 β a w ms n hm hp;refine wpIn_mono (wpIn_loop_rounds _ (z1s (P:=P) (X:=X) (w0:=w0) (r:=r) (n:=n) (ms:=ms) (fun xs st e xs' β a w h hag hm=>?_) h hag hm)) ?_
  ·refine wpIn_mono (ze5 hg hc hr hdr hrg h hag X w0 β a w ms n hm (fun hh=>hp (by cases pl <;> simp_all))) ?_
   rintro e3 a3 w3 ⟨st3,β3,ms3,he3,hag3,hm3,hms3⟩
   exact ⟨st3,β3,ms3,he3,hag3,hm3,fun _=>hms3 (by cases pl <;> cases zbm c <;> rfl)⟩
  ·rintro e3 a3 w3 ⟨st3,β3,ms3,he3,hag3,hm3,hms3⟩
   exact ⟨st3,β3,ms3,he3,hag3,hm3,fun _=>hms3 rfl⟩
 | .scope c,pl,r,xs,xs',e,st,h,hag=>by
  cases pl with
  | false=>simp only [zei] at h;cases h
  | true=>
   simp only [zei] at h;intro X w0 β a w ms n hm hp;obtain ⟨rfl,rfl⟩:=hp rfl;refine wpIn_wide.2 (wp_scope_straight ((wpIn_wide (n:=n)).1 (wpIn_mono (ze5 hg hc hr hdr hrg h hag X w0 β a w [] n hm hp) ?_)))
   rintro e' a' w' ⟨st',β',ms',he,hq⟩
   cases e' <;> first | (cases e <;> exact he.elim) | exact ⟨st',β',ms',he,hq⟩
 | .label l,pl,r,xs,xs',e,st,h,hag=>by simp only [zei] at h;cases h;exact fun X w0 β a w ms n hm hp=>wpIn_label ⟨st,β,ms,trivial,hag,hm,fun _=>rfl⟩
 | .rangeFunc g ps aS bd,pl,r,xs,xs',e,st,h,hag=>by
  cases pl with
  | false=>simp only [zei] at h;cases h
  | true=>
   simp only [zei] at h;intro X w0 β a w ms n hm hp;obtain ⟨rfl,rfl⟩:=hp rfl;refine wpIn_mono (hrg g ps aS bd e xs xs' st X w0 β a w n h hag hm.nil) ?_
   rintro e' a' w' ⟨st',β',ms',he,hag',hm',_⟩
   exact ⟨st',β',ms',he,hag',hm',fun hh=>by simp [zbm] at hh⟩
 | .goto ..,pl,r,xs,xs',e,st,h,hag=>by simp only [zei] at h;cases h
 | .refuse ..,pl,r,xs,xs',e,st,h,hag=>by simp only [zei] at h;cases h
end
end Go.V
namespace Go.V
variable [Dr] [Ov]
open Go.RowKit
section
variable {P:Program} {Γ:XG} {call:Caller} {run:Runner} {X:Nat→Prop} {w0:Base} {st:St} {xs xs':XS} {β:Nat→Value} {a:Act} {w w':World}
theorem zc9.re {N N' E:Nat→Prop} {id:Nat} {ob:Obj'} (hN : ∀ b,blk (β id)=some b→N' b) (h:zc9 w N E β id ob):zc9 w N' E β id ob:=by
 cases ob with
 | box T cells=>obtain ⟨b,vs,h1,h2,h3⟩:=h;exact ⟨b,vs,h1,hN b (by rw [h1];rfl),h3⟩
 | arr T sz rows=>obtain ⟨xs,h1,h2,h3⟩:=h;exact ⟨xs,⟨h1.1,fun b hb=>⟨hN b hb,(h1.2 b hb).2⟩⟩,h2,h3⟩
 | map T rows=>obtain ⟨r,es,clock,h1,h2,h3⟩:=h;exact ⟨r,es,clock,h1,hN r (by rw [h1];rfl),h3⟩
 | raw k cells=>obtain ⟨b,fn,D,vs,h1,h2,h3⟩:=h;exact ⟨b,fn,D,vs,h1,hN b (by rw [h1];rfl),h3⟩
def zku (w':World) (st:St) (β:Nat→Value) (β0:Nat→Value):Base:=⟨w',fun b=>∃ id o,(id,o)∈st.own∧blk (β id)=some b,β0⟩
theorem Mods.z9z (hm:Mods X w0 st β a w) {X':Nat→Prop} (hX2 : ∀ b,X' b→X b∨(w.heap.size≤b∧b<w'.heap.size)) (hX : ∀ b,X b→X' b) (hsz:w.heap.size≤w'.heap.size)
  (hsame : ∀ b,b<w.heap.size→¬ X b→w'.heap[b]?=w.heap[b]?):Mods X' (zku w' st β w0.β0) st β a w':=by
 have hown : ∀ {id o b},(id,o)∈st.own→blk (β id)=some b→b<w.heap.size∧¬ X b:=fun h hb=>⟨hm.lt _ (.inr ⟨_,_,h,hb⟩),fun hx=>hm.outer.1 _ hx (hm.may h hb)⟩
 have hov:Over w (Ex X β st.own) w' (Ex X' β st.own):=by
  intro b hb he;refine ⟨?_,hsame b hb (fun hx=>he (.inl hx))⟩
  rintro (h | h)
  ·rcases hX2 b h with h | h
   ·exact he (.inl h)
   ·omega
  ·exact he (.inr h)
 refine ⟨⟨?_,hm.glob.over hov⟩,⟨hm.still.1,hm.still.2⟩,hm.one,hm.defers,hm.size,Kept.refl _,hm.keys,?_,hm.apart,?_⟩
 ·rintro b hb (h | ⟨id,o,h1,h2⟩)
  ·rcases hX2 b hb with h' | h'
   ·have:=hm.lt b (.inl h');have h:w'.heap.size≤b:=h;omega
   ·have h:w'.heap.size≤b:=h;omega
  ·obtain ⟨q1,q2⟩:=hown h1 h2
   rcases hX2 b hb with h' | h'
   ·exact q2 h'
   ·omega
 ·intro id o h
  obtain ⟨q1,q2,q3⟩:=hm.own id o h;refine ⟨q1,q2,zc9.re (fun b hb=>.inr ⟨id,o,h,hb⟩) (zc9.over (m:=st.next) (fun _ _=>rfl) hov q1 q2 (fun b hb=>?_) q3)⟩
  obtain ⟨g1,g2⟩:=hown h hb;exact hsame b g1 g2
 ·intro t s h
  obtain ⟨q1,q2⟩:=hm.slots t s h;exact ⟨q1,Sm.over (m:=st.next) (fun _ _=>rfl) hov q1 q2⟩
theorem Mods.under (hm:Mods X w0 st β a w) {X':Nat→Prop} (hX : ∀ b,X b→X' b) (hk:Kept w0 w'):Under X w0 X' (zku w' st β w0.β0):=by
 refine ⟨hm.outer,hX,?_,hk,rfl⟩
 rintro b (h | ⟨id,o,h1,h2⟩)
 ·exact .inl (Nat.le_trans hk.size h)
 ·exact hm.may h1 h2
theorem zn3 (hag:Ag st xs) (hm:Mods X w0 st β a w) : ∀ (k t:Nat),t+k=a.tmps.size→Sms w (Ex X β st.own) β (zd5 xs k t) (a.tmps.toList.drop t)∧Sym.los st.next (zd5 xs k t)
 | 0,t,h=>by
  simp only [zd5];rw [List.drop_eq_nil_of_le (by simp;omega)]
  exact ⟨by simp [Sms],by simp [Sym.los]⟩
 | k+1,t,h=>by
  obtain ⟨h1,h2⟩:=zn3 hag hm k (t+1) (by omega)
  have hlt:t<a.tmps.toList.length:=by simp;omega
  rw [List.drop_eq_getElem_cons hlt];simp only [zd5];have hg:a.tmps.getD t undef=a.tmps.toList[t]:=by
   have hlt':t<a.tmps.size:=by simpa using hlt
   simp [hlt']
  cases hs:xs.get t with
  | none=>
   refine ⟨?_,?_⟩
   ·simp only [Sms];exact ⟨_,_,rfl,by simp [Sm],h1⟩
   ·simp only [Sym.los];exact ⟨by simp [Sym.lo],h2⟩
  | some s=>
   rw [← hag.slots] at hs;obtain ⟨q1,q2⟩:=hm.slots t s hs;rw [hg] at q2;refine ⟨?_,?_⟩
   ·simp only [Sms];exact ⟨_,_,rfl,q2,h1⟩
   ·simp only [Sym.los];exact ⟨q1,h2⟩
theorem ycr (hc:zbn P call) (hm:Mods X w0 st β a w) {ids:List Nat} {own0:List (Nat×Obj')} {aS:List Sym} {vs:List Value} {g:Nat} {R:XR} (hf:Fits st ids own0) (hin:zkw ids aS=true) (hs:Sms w (Ex X β st.own) β aS vs)
  (hR:call g (rens (zby ids) aS) own0 ids.length=some R):callable P g=true∧Calls P g vs.toArray w fun e w'=>∃ v β',e = .returned v∧Mods X w0 (st.after ids R.nx R.own R.mv) β' a w'∧∀ id∈ids,zby ids id∉R.mv→β' id=β id:=by
 obtain ⟨hs1,hl1⟩:=zsy hf hin hs
 obtain ⟨hcb,hp⟩:=hc _ _ _ _ _ hR hl1
 refine ⟨hcb,(hp (outOf X β ids st.own) (inBase β ids w) (fun i=>β (rho ids i)) w _ rfl (hm.zp4 hf) hs1).mono fun e w' he=>?_⟩
 obtain ⟨β1,v,rfl,hm1,hsl,hsm⟩:=he
 refine ⟨v,_,rfl,(hm.zlt hf hm1).1,fun id hid hmv=>?_⟩
 obtain ⟨e1,e2⟩:=zuf hid
 have e3:zby ids id=ids.idxOf id:=by
  have:=zb3 hid
  rw [← zm2 hf.1 this.2,this.1]
 unfold zjt
 rw [if_pos hid,← e3]
 have:=hm1.still.2 (zby ids id) (by rw [e3];exact e2) hmv
 rw [this]
 show β (rho ids (zby ids id))=β id
 rw [e3,e1]
theorem Mods.filt (hm:Mods X w0 st β a w) (p:Nat×Obj'→Bool):Mods X w0 {st with own:=st.own.filter p} β a w:=by
 have hsub : ∀ id o,(id,o)∈st.own.filter p→(id,o)∈st.own:=fun id o h=>(List.mem_filter.1 h).1
 have hov:Over w (Ex X β st.own) w (Ex X β (st.own.filter p)):=Over.less (fun b hb=>hb.elim .inl fun ⟨i,x,hx,e⟩=>.inr ⟨i,x,hsub i x hx,e⟩)
 refine ⟨hm.outer,hm.still,hm.one,hm.defers,hm.size,hm.below,hm.keys.sublist (List.Sublist.map _ List.filter_sublist),?_,fun i x j y c hx hy e1 e2=>hm.apart i x j y c (hsub i x hx) (hsub j y hy) e1 e2,?_⟩
 ·intro id o hmem
  obtain ⟨q1,q2,q3⟩:=hm.own id o (hsub id o hmem);exact ⟨q1,q2,zc9.over (m:=st.next) (fun _ _=>rfl) hov q1 q2 (fun _ _=>rfl) q3⟩
 ·intro t s h
  obtain ⟨q1,q2⟩:=hm.slots t s h;exact ⟨q1,zmv (id:=0) (rows:=.bool true) hov q2⟩
theorem zkv {id:Nat} {o:Obj'} : ∀ {l:List (Nat×Obj')},(aset id o l).filter (fun x=>!Nat.beq x.1 id)=l.filter (fun x=>!Nat.beq x.1 id)
 | []=>by simp only [aset,List.filter_cons];rw [show Nat.beq id id=true from beq_iff.2 rfl];rfl
 | (k,u)::r=>by
  simp only [aset];by_cases e:k=id
  ·subst e;rw [if_pos rfl];simp only [List.filter_cons];rw [show Nat.beq k k=true from beq_iff.2 rfl];rfl
  ·rw [if_neg e];simp only [List.filter_cons];rw [zkv]
theorem zs3 (hc:zbn P call):zxq P call:=by
 intro g ps aS bd e xs xs' st X w0 β a w n h hag hm
 unfold z98 at h
 split at h
 ·rename_i gf caps hcal
  simp only at h
  generalize hids:reach _ 1000 _ _=ids at h;split at h
  ·rename_i own0 hp
   rw [zac,Bool.and_eq_true] at hp;obtain ⟨⟨hn,hin⟩,hp⟩:=hp;split at h
   ·rename_i RR hR
    rw [zac] at h;obtain ⟨hmv,h⟩:=h;refine wpIn_rangeFunc (F:=FW none) ?_
    intro fn _
    -- the block of the deferred calls, the record
    have hb1:Below w.heap.size w (w.alloc (.deferred (some []))):=zbj w _
    have hX2 : ∀ b,(X b∨b=w.heap.size)→X b∨(w.heap.size≤b∧b<(w.alloc (.deferred (some []))).heap.size):=fun b hb=>hb.elim .inl fun e=>.inr ⟨by omega,by simp;omega⟩
    have hm1:Mods (fun b=>X b∨b=w.heap.size) (zku (w.alloc (.deferred (some []))) st β w0.β0) st β a (w.alloc (.deferred (some []))):=
     hm.z9z hX2 (fun b=>.inl) (by simp) (fun b hb _=>hb1.block b hb)
    have hu:=hm.under (X':=fun b=>X b∨b=w.heap.size) (fun b=>.inl) (hm.below.next hb1)
    have hD:(w.alloc (.deferred (some []))).heap[w.heap.size]?=some (.deferred (some [])):=World.alloc_heap_new w _
    obtain ⟨hsl1,hsl2⟩:=zn3 hag hm1 xs.n 0 (by rw [← hag.n,← hm.size];omega)
    rw [List.drop_zero] at hsl1;generalize hX':(fun b=>X b∨b=w.heap.size)=X' at hm1 hu hsl1
    have hX'D:X' w.heap.size:=by rw [← hX'];exact .inr rfl
    generalize hw1:w.alloc (.deferred (some []))=w1 at hm1 hu hD hsl1;generalize hw0':zku w1 st β w0.β0=w0' at hm1 hu;have hw0w:w0'.w=w1:=by rw [← hw0'];rfl
    have hsz1:w1.heap.size=w.heap.size+1:=by rw [← hw1];simp
    let rcd:Loop:={state:=.ready,pending:=none,fn,tmps:=a.tmps,params:=ps,assign:=aS,body:=bd,defers:=w.heap.size}
    have hm2:Mods X' w0' (st.new (.raw (.lp ps aS bd .ready none) (zd5 xs xs.n 0))) (fun i=>if i=st.next then .pointer (some ⟨w1.heap.size,0,none⟩) else β i) a (w1.alloc (.loop rcd)):=by
     refine hm1.new (zbj w1 _) rfl hsl2 (fun b hb=>by simp [blk] at hb;omega) ?_
     refine ⟨w1.heap.size,fn,w.heap.size,a.tmps.toList,by simp,.inl hm1.below.size,?_,?_⟩
     ·have:=World.alloc_heap_new w1 (.loop rcd)
      simpa [RK.obj,rcd] using this
     ·refine Sms.over (m:=st.next) (fun id h=>by simp;intro e;omega) ?_ hsl2 hsl1
      intro b hb he;refine ⟨?_,(zbj w1 _).block b hb⟩
      rintro (h | h)
      ·exact he h
      ·simp [blk] at h;omega
    have hag2:Ag (st.new (.raw (.lp ps aS bd .ready none) (zd5 xs xs.n 0))) (xs.new (.raw (.lp ps aS bd .ready none) (zd5 xs xs.n 0))):=hag.new _
    generalize hst2:st.new (.raw (.lp ps aS bd .ready none) (zd5 xs xs.n 0))=st2 at hm2 hag2;have hval2:st2.val g=st.val g:=by rw [← hst2];rfl
    rw [← hag.val] at hcal
    -- the iterator
    have hv:=(hm2.val g).2;rw [hval2] at hv;obtain ⟨lb,hev,hlb⟩ : ∃ lb:List Value,a.eval g = .func (.func gf) #[] lb.toArray∧Sms (w1.alloc (.loop rcd)) (Ex X' (fun i=>if i=st.next then .pointer (some ⟨w1.heap.size,0,none⟩) else β i) st2.own) (fun i=>if i=st.next then .pointer (some ⟨w1.heap.size,0,none⟩) else β i) caps lb:=by
     cases hf:st.val g <;> rw [hf] at hcal hv <;> simp only [zbi] at hcal
     case d x=>
      cases x <;> simp only [zbi] at hcal
      case fn f' l=>
       simp at hcal;obtain ⟨rfl,rfl⟩:=hcal
       simp only [Sm,R] at hv;obtain ⟨vs,h1,h2⟩:=hv;exact ⟨vs,h1,Sms.zf9 h2⟩
      all_goals cases hcal
     case fn f' l=>
      simp at hcal;obtain ⟨rfl,rfl⟩:=hcal
      simp only [Sm] at hv;exact hv
     all_goals cases hcal
    have hs2:Sms (w1.alloc (.loop rcd)) (Ex X' (fun i=>if i=st.next then .pointer (some ⟨w1.heap.size,0,none⟩) else β i) st2.own) (fun i=>if i=st.next then .pointer (some ⟨w1.heap.size,0,none⟩) else β i) (.yd xs.next::caps) (.func (.yield w1.heap.size) #[] #[]::lb):=by
     simp only [Sms];refine ⟨_,_,rfl,?_,hlb⟩
     simp only [Sm];exact ⟨w1.heap.size,by rw [← hag.next];simp,rfl⟩
    have hf:=z9w hag2 hm2 hn hp;obtain ⟨hcb,hcalls⟩:=ycr hc hm2 hf hin hs2 hR;have hidl:xs.next∈ids:=by
     simp only [zkw,Bool.and_eq_true,innB,any_beq] at hin;exact hin.1
    have hmv':zby ids xs.next∉RR.mv:=fun hmem=>by
     rw [any_beq.2 hmem] at hmv;cases hmv
    refine ⟨w1.heap.size,[mark w.heap.size],w1.alloc (.loop rcd),{target:=.fn (.func gf) lb.toArray,args:=#[.func (.yield w1.heap.size) #[] #[]]},w1.alloc (.loop rcd),gf,(.func (.yield w1.heap.size) #[] #[]::lb).toArray,w1.alloc (.loop rcd),?_,?_,fun _ _=>trivial,?_,fun hd=>by simp [FW,Fence.wide] at hd,?_⟩
    ·have:=run_enterLoop_outer (P:=P) (w:=w) fn a.tmps ps aS bd
     rw [hw1,← hsz1] at this;exact this
    ·simp only [resolve,hev]
     simp [go_sem]
    ·unfold callable at hcb
     cases hfn:P.funcs[gf]? with
     | none=>simp [hfn] at hcb
     | some fnn=>
      simp [hfn] at hcb;have e1:¬ fnn.body=none:=by intro e;rw [e] at hcb;simp at hcb
      simp [invoke,callFunc,hfn,e1,hcb.1]
    ·refine zm5 (hcalls.mono fun e' w3 he=>?_)
     obtain ⟨v,β3,rfl,hm3,hβ3⟩:=he;have hag3:=hag2.after hm2.still.1 ids RR.nx RR.own RR.mv;generalize hst3:st2.after ids RR.nx RR.own RR.mv=st3 at hm3 hag3;generalize hxs3:(xs.new (.raw (.lp ps aS bd .ready none) (zd5 xs xs.n 0))).after ids RR.nx RR.own RR.mv=xs3 at hag3 h;unfold zxv at h;rw [← hag3.look] at h;split at h
     ·rename_i ps1 a1 b1 s1 pend cells1 hlk
      obtain ⟨b,fn',D',vs',hb,hh,hm4⟩:=zeh (s':=.exhausted) (pd':=pend) hm3 hlk;have hbl:b=w1.heap.size:=by
       have:=hβ3 xs.next hidl hmv'
       rw [hb] at this;simp [hag.next] at this;exact this
      subst hbl;have hm5:=hm4.filt (fun x=>!Nat.beq x.1 xs.next)
      have hag5:Ag {st3 with own:=(aset xs.next (.raw (.lp ps1 a1 b1 .exhausted pend) cells1) st3.own).filter fun x=>!Nat.beq x.1 xs.next} {xs3 with own:=xs3.own.filter fun x=>!Nat.beq x.1 xs.next}:=by
       rw [zkv,hag3.own];exact ⟨hag3.n,hag3.next,rfl,hag3.base,hag3.moved,hag3.slots⟩
      have hmx:MX X w0 [w.heap.size] {st3 with own:=(aset xs.next (.raw (.lp ps1 a1 b1 .exhausted pend) cells1) st3.own).filter fun x=>!Nat.beq x.1 xs.next} β3 {a with defers:=[mark w.heap.size]++a.defers} _:=
       ⟨⟨X',w0',hu,by
        have e:({({a with defers:=[mark w.heap.size]++a.defers}:Act) with defers:=[]}:Act)=a:=by have:=hm.defers;cases a;simp only at this;subst this;rfl
        rw [e];exact hm5,fun D hD'=>by
         have:D=w.heap.size:=by simpa using hD'
         subst this;exact ⟨hX'D,by rw [hw0w];exact hD⟩⟩,by rw [hm.defers];rfl,by simp,fun D hD'=>by
         have:D=w.heap.size:=by simpa using hD'
         subst this;exact .inl hm.below.size⟩
      have hend:s1≠.busy→(Instr.endLoop w1.heap.size).run P w3 = .ok pend _:=fun hne=>run_endLoop (P:=P) hh hne
      split at h
      ·cases h
      ·rename_i _ _ hne
       cases h;exact ⟨none,_,hend hne,⟨_,β3,_,trivial,hag5,hmx,fun hh=>by cases hh⟩⟩
      ·rename_i _ _ hne
       cases h;exact ⟨some .ret,_,hend hne,wpIn_ret ⟨_,β3,_,trivial,hag5,hmx,fun hh=>by cases hh⟩⟩
      ·rename_i _ _ i hne
       cases h;exact ⟨some (.exit i),_,hend hne,wpIn_exit ⟨_,β3,_,rfl,hag5,hmx,fun hh=>by cases hh⟩⟩
      ·cases h
     ·cases h
   ·cases h
  ·cases h
 ·cases h
end
end Go.V
namespace Go.V
variable [Dr] [Ov]
open Go.RowKit
section
variable {P:Program} {Γ:XG} {call:Caller} {run:Runner} {X:Nat→Prop} {w0:Base} {st:St} {xs xs':XS} {β:Nat→Value} {a:Act} {w w':World}
theorem MX.take {D:Nat} {ms:List Nat} (hm:MX X w0 (D::ms) st β a w):w.heap[D]?=some (.deferred (some []))∧MX X w0 ms st β {a with defers:=ms.map mark} (w.putObj D (.deferred none)):=by
 obtain ⟨⟨X',w0',hu,hm',hms⟩,hd,hnd,hmay⟩:=hm
 have hD:=hms D (by simp)
 have hnm:¬ w0'.may D:=hm'.outer.1 D hD.1
 have hh:w.heap[D]?=some (.deferred (some [])):=(hm'.below.block D hnm).trans hD.2
 have hlt:=(Array.getElem?_eq_some_iff.1 hh).1
 have hsame : ∀ b,b≠D→(w.putObj D (.deferred none)).heap[b]?=w.heap[b]?:=fun b hb=>World.putObj_heap_other hb
 have hsz:(w.putObj D (.deferred none)).heap.size=w.heap.size:=by simp
 have hk:Kept w0 (w.putObj D (.deferred none)):=(hu.kept.trans' hm'.below hu.may).turn rfl rfl rfl (by rw [hsz];exact Nat.le_refl _) (fun k _ hk=>hsame k (fun e=>hk (by rw [e];exact hmay D (by simp)))) (fun _=>Nat.le_refl _)
 have hm2:=hm'.z9z (w':=w.putObj D (.deferred none)) (X':=X') (fun b h=>.inl h) (fun b h=>h) (by rw [hsz];exact Nat.le_refl _) (fun b _ hx=>hsame b (fun e=>hx (by rw [e];exact hD.1)))
 refine ⟨hh,⟨⟨X',zku (w.putObj D (.deferred none)) st β w0'.β0,⟨hu.outer,hu.x,?_,hk,hu.β0⟩,?_,?_⟩,rfl,(List.nodup_cons.1 hnd).2,fun D' h=>hmay D' (List.mem_cons_of_mem _ h)⟩⟩
 ·rintro b (h | ⟨id,o,h1,h2⟩)
  ·exact .inl (Nat.le_trans hk.size h)
  ·exact hu.may b (hm'.may h1 h2)
 ·exact hm2
 ·intro D' hD'
  have hne:D'≠D:=fun e=>(List.nodup_cons.1 hnd).1 (e▸hD')
  have h1:=hms D' (List.mem_cons_of_mem _ hD');refine ⟨h1.1,?_⟩
  show (w.putObj D (.deferred none)).heap[D']?=_
  rw [hsame D' hne];exact (hm'.below.block D' (hm'.outer.1 D' h1.1)).trans h1.2
theorem zqn {fn:Func} {R:Ending→World→Prop} {n:Nat} : ∀ {ms:List Nat} {a:Act} {w:World},MX X w0 ms st β a w →
  (∀ a' w',a'.tmps=a.tmps→Mods X w0 st β a' w'→∃ v,(results fn a.tmps).run P w' = .ok v w'∧R (.returned v) w')→LeavesInM Fence.wide n P fn a.tmps R (ms.map mark) .returning w
 | [],a,w,hm,hR=>by
  obtain ⟨v,h1,h2⟩:=hR a w rfl hm.nil;exact ⟨v,h1,h2⟩
 | D::ms,a,w,hm,hR=>by
  obtain ⟨hh,hm'⟩:=hm.take;have:=zqn (fn:=fn) (R:=R) (n:=n) hm' (fun a' w' e h=>hR a' w' e h)
  exact ⟨by simp,.inl ⟨D,_,rfl,run_takeDeferred hh,this⟩⟩
theorem z4p (hg:XGood P Γ) (hc:zbn P call) (hr:zkt P run) {draw:List Oper→XS→Option XS} (hdr:zl5 P draw):zbn P (xfun Γ call run draw):=by
 intro f args own n r h hl
 unfold xfun at h
 split at h
 ·rename_i g hk
  exact hg.kc hk h hl
 split at h
 ·rename_i d hk
  cases h;unfold ydf at hk;split at hk
  ·rename_i g ds hkn hds
   exact zrk (hg.kn hkn hk) hds
  ·cases hk
 ·split at h
  ·rename_i ntmps c rs hfn
   obtain ⟨hcb,fn,hf,hb,hnt,hrs⟩:=hg.fn hfn;split at h
   ·rename_i de xs0 hx
    unfold xend at h;generalize hL:ygc Γ xs0 rs=L at h;generalize hxs:xs0.frzs L=xs at h;split at h
    ·rename_i l hres
     rw [zac] at h;simp only [Bool.and_eq_true,beq_iff,zb9] at h;obtain ⟨⟨⟨⟨hret,hlo⟩,hbase⟩,hlen⟩,h⟩:=h;cases h;refine ⟨hcb,fun X w0 β w vs hβ hm hs=>(callsIn_wide (n:=0)).1 (callsIn_of_wp_marks (F:=Fence.wide) (n:=0) hf hb trivial ?_)⟩
     have hT:=ze5 (r:=none) hg hc hr hdr (zs3 hc) hx (Ag.init args own n ntmps hlen);rw [hnt];refine wpIn_mono (hT X w0 _ _ w [] 0 (.of (hm.initC hs hl)) (fun _=>⟨rfl,rfl⟩)) ?_
     have fin : ∀ {st' β' ms' a' w'},Ag st' xs0→MX X w0 ms' st' β' a' w'→LeavesInM Fence.wide 0 P fn a'.tmps (fun e w'=>∃ β' v,e = .returned v∧Mods X w0 (zde (xs.own.filter (zxt n (reach xs.look 1000 (zl6 (tupS l) []++List.range n) (zl6 (tupS l) [])))) n xs.next xs.moved) β' act0 w'∧Sym.lo xs.next (tupS l) ∧
        Sm w' (Ex X β' (xs.own.filter (zxt n (reach xs.look 1000 (zl6 (tupS l) []++List.range n) (zl6 (tupS l) []))))) β' (tupS l) v) a'.defers .returning w':=by
      intro st0 β' ms' a' w' hag0 hmx;rw [hmx.defers];refine zqn hmx fun a2 w2 ea hm20=>?_
      have hm2:=hm20.frzs (l:=L);have hag':Ag (st0.frzs L) xs:=by rw [← hxs];exact hag0.frzs
      obtain ⟨us,q1,q2⟩:=zho hm2 (z1q hg hag' hres);rw [← hrs] at q1;rw [← ea];have hr':=zhm fn a2.tmps q1;obtain ⟨m1,m2⟩:=hm2.final (zxt n (reach xs.look 1000 (zl6 (tupS l) []++List.range n) (zl6 (tupS l) []))) (n:=n) (nx:=xs.next) (mv:=xs.moved) (by rw [hag'.base];exact hbase) hag'.next (fun id h1 h2=>hag'.moved id (by rw [hag'.base,hbase];exact h1) h2)
      rw [hag'.own] at m1 m2;refine ⟨_,hr',β',_,rfl,m1,z9v hlo,m2 _ _ ?_⟩
      rw [← hag'.own];unfold tupS;split
      ·rename_i x
       simp only [Sms] at q2;obtain ⟨u,us',rfl,e,rfl⟩:=q2;simpa using e
      ·rename_i hne
       have hlen:us.length≠1:=by
        rw [q2.length];intro e;cases l with
        | nil=>simp at e
        | cons d r=>
         cases r with
         | nil=>exact hne d rfl
         | cons _ _=>simp at e
       simp only [hlen];simp only [Sm];exact ⟨us,rfl,q2⟩
     rintro e a' w' ⟨st',β',ms',he,hag',hmx,_⟩
     cases e <;> cases de <;> simp only [exM] at he <;> simp only [ygb] at hret
     ·exact fin hag' hmx
     ·cases hret
     ·exact fin hag' hmx
    ·cases h
   ·cases h
  ·cases h
theorem zs4 (hg:XGood P Γ) {draw:Caller→List Oper→XS→Option XS} (hdr : ∀ call,zbn P call→zl5 P (draw call)) : ∀ k,zbn P (xenv Γ draw k).1∧zkt P (xenv Γ draw k).2
 | 0=>⟨fun f args own n r h _=>by simp [xenv] at h,fun c xs e xs' st l h=>by simp [xenv] at h⟩
 | k+1=>by
  obtain ⟨h1,h2⟩:=zs4 hg hdr k;exact ⟨z4p hg h1 h2 (hdr _ h1),fun c xs e xs' st l h hag=>ze5 (r:=some l) hg h1 h2 (hdr _ h1) (zs3 h1) h hag⟩
theorem zzv (hg:XGood P Γ) {draw:Caller→List Oper→XS→Option XS} (hdr : ∀ call,zbn P call→zl5 P (draw call)) (k:Nat):zbn P (yct Γ draw k):=(zs4 hg hdr k).1
theorem zqo {o:Oper} (h:zs5 Γ call (fun _ _=>none) o xs=some xs'):zxs Γ call o xs=some xs':=by
 unfold zs5 at h
 split at h
 ·split at h
  ·rw [zac] at h
   have h:=h.2;unfold z1v at h;simp only at h
   split at h
   ·have hn : ∀ id args own n,zxu (fun _ _=>none) id args own n=none:=by
     intro id args own n;unfold zxu;split
     ·split
      ·rename_i h1;rw [zac] at h1;cases h1.2
      ·rfl
     ·rfl
    rw [hn] at h;cases h
   ·cases h
  ·exact h
 ·exact h
end
end Go.V

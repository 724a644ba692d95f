/- A program logic of my own over the kit: part V25. It needs no conditions. -/
import Derived.Test.YtknekjalbninmaaGreatV10
import Derived.Orders
set_option linter.unusedVariables false
set_option linter.unusedSimpArgs false
set_option linter.unusedSectionVars false
namespace Go.V
variable [Dr] [Ov]
open Go.RowKit
def lz{α:Type}(f:α->Prop):α->Prop:=f
def lz2{α β:Type}(f:α->β->Prop):α->β->Prop:=f
@[congr] theorem yo6{α:Type}(f:α->Prop):lz f=lz f:=rfl
@[congr] theorem yok{α β:Type}(f:α->β->Prop):lz2 f=lz2 f:=rfl
def zua(P:Program)(f:Nat)(args:List D)(T sz:Nat)(rows:List (List D)):Prop:=
 callable P f=true/\(∀ r∈rows,r.length=sz)/\∀ (w:World) (E:Nat->Prop) (vs:List Value),Seen w E->za9 w E args vs ->
  Calls P f vs.toArray w λe w'=>∃ v xs,e = .returned v/\Below w.heap.size w w'/\w'.ownsRow w.heap.size T sz v rows.length xs/\(∀ b,blk v=some b->zcz w' b)/\zah w' (λb=>E b\/blk v=some b) rows.flatten xs
def zf7(P:Program)(f:Nat)(args:List D)(Φ:D->Prop):Prop:=
 callable P f=true/\∀ (w:World) (E:Nat->Prop) (vs:List Value),Seen w E->za9 w E args vs ->
  Calls P f vs.toArray w λe w'=>∃ v r,e = .returned v/\Below w.heap.size w w'/\Φ r/\R w' E r v
def zd8(st:St)(f:Operand)(xs:List Operand):Option (Nat×List D×Bool):=
 match zbm (st.val f) with
 |some (g,caps)=>match zjm st.look (xs.map st.val++caps) with
  |some (ds,b)=>some (g,ds,b)
  |none=>none
 |none=>none
def zl4(P:Program)(st:St)(f:Operand)(xs:List Operand)(dst:Option Tmp)(K:St->Prop):Prop:=
 match zd8 st f xs with
 |some (g,ds,lent)=>(∃ r,zan P g ds r/\yog P g ds lent r/\K (st.put dst (.d r))) \/
  (∃ T sz rows,zua P g ds T sz rows/\(lent=true->D.scalars rows.flatten=true)/\K ((st.new (.arr T sz rows)).put dst (.ar st.next)))
 |none=>False
def z9e(P:Program)(st:St)(f:Operand)(xs:List Operand)(dst:Option Tmp)(K:St->Prop):Prop:=
 match zd8 st f xs with
 |some (g,ds,lent)=>∃ Φ:D->Prop,zf7 P g ds Φ/\∀ r,Φ r->(lent=true->r.scalar=true)/\K (st.put dst (.d r))
 |none=>False
def zai(P:Program)(st:St)(f:Operand)(xs:List Operand)(dst:Option Tmp)(K:St->Prop):Prop:=
 zl4 P st f xs dst K\/zl4 P (st.frzs (zf2 (xs.map st.val))) f xs dst K\/EMut P st f xs dst K\/ymq P st f xs dst K\/z9e P st f xs dst K\/∃ ids,EMut P (st.frzs ids) f xs dst K
def putK(st:St)(dst:Option Tmp)(K:St->Prop):Sym->Prop:=λs=>K (st.put dst s)
def dstB(dst:Option Tmp)(n:Nat):Bool:=match dst with
 |some t=>decide (t<n)
 |none=>true
def dop(P:Program)(o:Oper)(st:St)(K:St->Prop):Prop:=
 match o.op with
 |.box T x=>dstB o.dst st.n=true/\eBox st o.dst T (st.val x) K
 |.alloc T=>match TI.of P T with
  |some ti=>dstB o.dst st.n=true/\yfz st o.dst T ti K
  |none=>False
 |.assign (.const (.slice none 0 0))=>match TI.of P o.type with
  |some ⟨.slice e,_,_,_,_⟩=>match TI.of P e with
   |some te=>dstB o.dst st.n=true/\eNil st o.dst e te.size K
   |none=>False
  |_=>False
 |.buildSlice t n parts=>dstB o.dst st.n=true/\zt2 P st o.dst t n parts.toList K
 |.store t ad x=>match o.dst,TI.of P t with
  |none,some ti=>zlz st ti (st.val ad) (st.val x) K
  |_,_=>False
 |.makeSlice t l c=>dstB o.dst st.n=true/\yf5 P st o.dst t (st.val l) (st.val c) K
 |.makeMap t none=>dstB o.dst st.n=true/\zr5 st o.dst t K
 |.mapUpdate t m x v=>match o.dst with
  |none=>zie P st t (st.val m) (st.val x) (st.val v) K
  |some _=>False
 |.call {callee:=.builtin .append,args:=xs,argTypes:=ts}=>match xs.toList,ts.toList with
  | [s,x],[t,t']=>dstB o.dst st.n=true/\(zmr P st o.dst t t' (st.val s) (st.val x) K\/zr6 P st o.dst t t' (st.val s) (st.val x) K\/zr7 P st o.dst t t' (st.val s) (st.val x) K\/zr8 P st o.dst t t' (st.val s) (st.val x) K)
  |_,_=>False
 |.call {callee:=.builtin .copy,args:=xs,argTypes:=ts}=>match xs.toList,ts.toList with
  | [s,x],[t,_]=>dstB o.dst st.n=true/\yf4 P st o.dst t (st.val s) (st.val x) K
  |_,_=>False
 |.call {callee:=.builtin .cap,args:=xs,argTypes:=ts}=>match xs.toList,ts.toList with
  | [x],[t]=>dstB o.dst st.n=true/\eCap P st o.dst t (st.val x) K
  |_,_=>False
 |.call {callee:=.builtin .clear,args:=xs,argTypes:=ts}=>match xs.toList,ts.toList with
  | [x],[t]=>dstB o.dst st.n=true/\z1p P st o.dst t (st.val x) K
  |_,_=>False
 |.range t x=>dstB o.dst st.n=true/\z1r P st o.dst t (st.val x) K
 |.next x true=>dstB o.dst st.n=true/\yf6 st o.dst (st.val x) K
 |.convert s t x=>dstB o.dst st.n=true/\(sopB P st.look st.val (.convert s t x) (putK st o.dst K)\/zbs P st s t (st.val x) (putK st o.dst K))
 |.call {callee:=.value f,args:=xs,argTypes:=_}=>dstB o.dst st.n=true/\zai P st f xs.toList o.dst K
 |op=>dstB o.dst st.n=true/\sopB P st.look st.val op (putK st o.dst K)
def dops(P:Program)(all:List Oper):List Oper->St->(St->Prop)->Prop
 | [],st,K=>K st
 |o::r,st,K=>match o.guard with
  |none=>dop P o st (lz λst'=>dops P all r st' K)
  |some (j,want)=>match (all[j]?).bind (·.dst) with
   |some t=>match zac st.slots t with
    |some (.d (.bool b))=>(b=want->dop P o (st.put (some t) (.d (.bool want))) (lz λst'=>dops P all r st' K)) /\
     (b = !want->dstB o.dst st.n=true/\dops P all r ((st.put (some t) (.d (.bool !want))).put o.dst (.d (.val undef))) K)
    |some (.d (.val v))=>v=undef/\dstB o.dst st.n=true/\dops P all r (st.put o.dst (.d (.val undef))) K
    |_=>False
   |none=>False
inductive DE where
 |normal
 |exit (id:Nat)
 |ret
def exM:Exit->DE->Prop
 |.normal,.normal=>True
 |.exit i,.exit j=>i=j
 |.ret,.ret=>True
 |_,_=>False
def Triple(P:Program)(c:Code)(Q:DE->St->Prop)(st:St):Prop:=
 ∀ X w0 β a w,Mods X w0 st β a w->c.wp P (λe a' w'=>∃ de st' β',exM e de/\Q de st'/\Mods X w0 st' β' a' w') a w
def zog(k:St->Prop)(Q:DE->St->Prop):DE->St->Prop
 |.normal,st=>k st
 |e,st=>Q e st
def zb9(id:Nat)(Q:DE->St->Prop):DE->St->Prop
 |.exit j,st=>if j=id then Q .normal st else Q (.exit j) st
 |e,st=>Q e st
def zue(P:Program):Code->(DE->St->Prop)->St->Prop
 |.skip,Q,st=>Q .normal st
 |.region id ops draw,Q,st=>if draw=true then Triple P (.region id ops true) Q st else dops P ops.toList ops.toList st (Q .normal)
 |.seq x y,Q,st=>zue P x (zog (lz λst'=>zue P y Q st') Q) st
 |.cond c x y,Q,st=>match st.val c with
  |.d (.bool b)=>(b=true->zue P x Q st)/\(b=false->zue P y Q st)
  |_=>False
 |.block id c,Q,st=>zue P c (zb9 id Q) st
 |.exit id,Q,st=>Q (.exit id) st
 |.ret,Q,st=>Q .ret st
 |.loop c,Q,st=>Triple P (.loop c) Q st
 |c,Q,st=>Triple P c Q st
section
variable {P:Program} {X:Nat->Prop} {w0:Base} {st:St} {β:Nat->Value} {a:Act} {w w':World} {m:Nat} {k:Sym->Prop}
theorem zbq{dst:Option Tmp}{n:Nat}(h:dstB dst n=true):∀ t,dst=some t->t<n:=by
 intro t e;subst e;simpa[dstB] using h
theorem zkk(hm:Mods X w0 st β a w){o:Oper}{f:Operand}{args:Array Operand}{ts:Array TypeId}(ho:o.op = .call {callee:=.value f,args,argTypes:=ts})
  (hd:∀ t,o.dst=some t->t<st.n) {K:St->Prop} (h:zl4 P st f args.toList o.dst K):Goes P X w0 o a w K:=by
 unfold zl4 at h
 split at h
 .rename_i g ds lent F
  have A:=F;unfold zd8 at F;split at F
  .rename_i g' caps hc
   split at F
   .rename_i ds' b hl
    simp at F
    obtain⟨rfl,rfl,rfl⟩:=F;rcases h with⟨r,hp,O,hk⟩ | ⟨T,sz,rows,hp,O,hk⟩
    .refine Goes.zft hm hd (zmq hm ho ?_)
     unfold zn0 zqu;rw[hc];dsimp only;rw[hl];exact⟨r,hp,O,hk⟩
    .intro N Q hN
     obtain⟨H,B,hp⟩:=hp
     -- the same road aS zmq
     have hv:=(hm.val f).2;obtain⟨cs,C,I⟩:∃ cs:List Value,a.eval f = .func (.func g') #[] cs.toArray/\Sms w (Ex X β st.own) β caps cs:=by
      cases hf:st.val f <;> rw[hf] at hc hv <;> simp only[zbm] at hc
      case d x=>
       cases x <;> simp only[zbm] at hc
       case fn f' l=>
        simp at hc;obtain⟨rfl,rfl⟩:=hc
        simp only[Sm,R] at hv;obtain⟨vs,h1,h2⟩:=hv;exact⟨vs,h1,Sms.zd1 h2⟩
       all_goals cases hc
      case fn f' l=>
       simp at hc;obtain⟨rfl,rfl⟩:=hc
       simp only[Sm] at hv;exact hv
      all_goals cases hc
     have L:=(Sms.zly hm args.toList).1;have V:=Sms.append L I;obtain⟨hx,hex⟩:=ze8 hm hl V;unfold callable at H;cases Y:P.funcs[g']? with
     |none=>simp[Y] at H
     |some fn=>
      simp[Y] at H;have Z:(execOp a.eval o).run P w = .ok (.enter g' (args.toList.map a.eval++cs).toArray) w:=by
       have e1:¬fn.body=none:=by intro e;rw[e] at H;simp at H
       have e3:Array.map a.eval args++cs.toArray=(List.map a.eval args.toList++cs).toArray:=by simp
       rw[<-e3];simp[execOp,ho,resolve,C,Deferred.ofValue,invoke,callFunc,Y,e1,H.1]
      unfold Oper.wp;rw[Z];simp only[Oper.upon];have fin:∀ (w':World) (v:Value) (xs:List Value),Below w.heap.size w w'->w'.ownsRow w.heap.size T sz v rows.length xs->(∀ b,blk v=some b->zcz w' b)->zah w' (λb=>Ex X β st.own b\/blk v=some b) rows.flatten xs->N (a.put o.dst v) w':=by
       intro w' v xs hb E G J;have M:Owns w0.may w' T sz v rows.length xs:=Owns.yk4 E G λb hb=>.inl (Nat.le_trans hm.below.size hb)
       have S:=hm.new (o:=.arr T sz rows) hb (z5y E) trivial (λb W=>(E.lt b (by rw[zi0 E];exact W)).1) ⟨xs,by simpa using M,J,B⟩
       exact hN _ _ _ _ hk (S.za1 hd (by simp[Sym.lo,St.new]) (by simp[Sm]))
      cases b with
      |false=>
       refine(hp w (Ex X β st.own) _ hm.seen (hex rfl)).mono λe w' he=>?_
       obtain⟨v,xs,rfl,hb,E,G,J⟩:=he;exact fin w' v xs hb E G J
      |true=>
       refine(hp w X _ hm.yjr hx).mono λe w' he=>?_
       obtain⟨v,xs,rfl,hb,E,G,J⟩:=he;exact fin w' v xs hb E G (za9.cells (zfs (O rfl) J.vals) J.one)
   .cases F
  .cases F
 .exact h.elim
theorem z1z(V:Mods X w0 st β a w){o:Oper}{f:Operand}{args:Array Operand}{ts:Array TypeId}(Y:o.op = .call {callee:=.value f,args,argTypes:=ts})
  (Z:∀ t,o.dst=some t->t<st.n) {K:St->Prop} (h:z9e P st f args.toList o.dst K):Goes P X w0 o a w K:=by
 unfold z9e at h
 split at h
 .rename_i g ds lent G
  unfold zd8 at G;split at G
  .rename_i g' caps A
   split at G
   .rename_i ds' b B
    simp at G
    obtain⟨rfl,rfl,rfl⟩:=G;obtain⟨Φ,⟨H,C⟩,I⟩:=h;intro N Q S;have W:=(V.val f).2;obtain⟨cs,M,O⟩:∃ cs:List Value,a.eval f = .func (.func g') #[] cs.toArray/\Sms w (Ex X β st.own) β caps cs:=by
     cases hf:st.val f <;> rw[hf] at A W <;> simp only[zbm] at A
     case d x=>
      cases x <;> simp only[zbm] at A
      case fn f' l=>
       simp at A;obtain⟨rfl,rfl⟩:=A
       simp only[Sm,R] at W;obtain⟨vs,h1,h2⟩:=W;exact⟨vs,h1,Sms.zd1 h2⟩
      all_goals cases A
     case fn f' l=>
      simp at A;obtain⟨rfl,rfl⟩:=A
      simp only[Sm] at W;exact W
     all_goals cases A
    have F:=(Sms.zly V args.toList).1;have E:=Sms.append F O;obtain⟨hx,hex⟩:=ze8 V B E;unfold callable at H;cases J:P.funcs[g']? with
    |none=>simp[J] at H
    |some fn=>
     simp[J] at H;have L:(execOp a.eval o).run P w = .ok (.enter g' (args.toList.map a.eval++cs).toArray) w:=by
      have e1:¬fn.body=none:=by intro e;rw[e] at H;simp at H
      have e3:Array.map a.eval args++cs.toArray=(List.map a.eval args.toList++cs).toArray:=by simp
      rw[<-e3];simp[execOp,Y,resolve,M,Deferred.ofValue,invoke,callFunc,J,e1,H.1]
     unfold Oper.wp;rw[L];simp only[Oper.upon];cases b with
     |false=>
      refine(C w (Ex X β st.own) _ V.seen (hex rfl)).mono λe w' he=>?_
      obtain⟨v,r,rfl,hb,hΦ,hr⟩:=he;obtain⟨_,hK⟩:=I r hΦ;exact S _ _ _ _ hK (V.put hb Z (by simp[Sym.lo]) (by simpa[Sm] using hr))
     |true=>
      refine(C w X _ V.yjr hx).mono λe w' he=>?_
      obtain⟨v,r,rfl,hb,hΦ,hr⟩:=he;obtain⟨T,hK⟩:=I r hΦ;exact S _ _ _ _ hK (V.put hb Z (by simp[Sym.lo]) (by simpa[Sm] using zmp (T rfl) hr))
   .cases G
  .cases G
 .exact h.elim
theorem zc4(H:Mods X w0 st β a w){o:Oper}{K:St->Prop}(h:dop P o st K):Goes P X w0 o a w K:=by
 unfold dop at h
 split at h
 .rename_i T x G
  exact zwq H G (zbq h.1) h.2
 .rename_i T G
  split at h
  .rename_i ti F
   exact zqy H G F (zbq h.1) h.2
  .exact h.elim
 .rename_i G
  split at h
  .split at h
   .exact zwr H G (zbq h.1) h.2
   .exact h.elim
  .exact h.elim
 .rename_i t n parts G
  exact zq1 H G (zbq h.1) h.2
 .rename_i t ad x G
  split at h
  .rename_i ti E F
   exact zqz H G F E h
  .exact h.elim
 .rename_i t l c G
  exact zt4 H G (zbq h.1) h.2
 .rename_i t G
  exact zl1 H G (zbq h.1) h.2
 .rename_i t m x v G
  split at h
  .rename_i E
   exact zjh H G E h
  .exact h.elim
 .rename_i xs ts G
  split at h
  .rename_i s x t t' J F
   have e1:xs = #[s,x]:=by cases xs;simp at J;rw[J]
   have e2:ts = #[t,t']:=by cases ts;simp at F;rw[F]
   subst e1;subst e2;rcases h.2 with h2 | h2 | h2 | h2
   .exact zoa H G (zbq h.1) h2
   .exact zvj H G (zbq h.1) h2
   .exact zvk H G (zbq h.1) h2
   .exact zvl H G (zbq h.1) h2
  .exact h.elim
 .rename_i xs ts G
  split at h
  .rename_i s x t t' J F
   have e1:xs = #[s,x]:=by cases xs;simp at J;rw[J]
   have e2:ts = #[t,t']:=by cases ts;simp at F;rw[F]
   subst e1;subst e2;exact zt3 H G (zbq h.1) h.2
  .exact h.elim
 .rename_i xs ts G
  split at h
  .rename_i x t J F
   have e1:xs = #[x]:=by cases xs;simp at J;rw[J]
   have e2:ts = #[t]:=by cases ts;simp at F;rw[F]
   subst e1;subst e2;exact ybz H G (zbq h.1) h.2
  .exact h.elim
 .rename_i xs ts G
  split at h
  .rename_i x t J F
   have e1:xs = #[x]:=by cases xs;simp at J;rw[J]
   have e2:ts = #[t]:=by cases ts;simp at F;rw[F]
   subst e1;subst e2;exact zq3 H G (zbq h.1) h.2
  .exact h.elim
 .rename_i t x G
  exact zq5 H G (zbq h.1) h.2
 .rename_i x G
  exact zt5 H G (zbq h.1) h.2
 .rename_i s t x G
  rcases h.2 with h2 | h2
  .rw[<-G] at h2
   exact Goes.zft H (zbq h.1) (zfb H o h2)
  .exact Goes.zft H (zbq h.1) (zki H G h2)
 .rename_i f xs ts G
  obtain⟨E,h⟩:=h;rcases h with h | h | h | h | h | ⟨ids,h⟩
  .exact zkk H G (zbq E) h
  rotate_left
  .exact zlf H G (zbq E) h
  .exact z6a H G (zbq E) h
  .exact z1z H G (zbq E) h
  .exact zlf H.frzs G (by rw[(zkg _ st).2];exact zbq E) h
  .exact zkk H.frzs G (by rw[(zkg _ st).2];exact zbq E) h
 .exact Goes.zft H (zbq h.1) (zfb H o h.2)
theorem zea{all:List Oper}{j t:Nat}(h:(all[j]?).bind (·.dst)=some t):((all.toArray[j]?).bind (·.dst))=some t:=by simpa using h
theorem zdw{ops:Array Oper}{tmps:Array Value}{j t:Nat}(h:(ops[j]?).bind (·.dst)=some t)(G:tmps.getD t undef=undef):yielded ops tmps j=none:=by
 unfold yielded
 rw[h]
 by_cases H:t<tmps.size
 .have F:tmps[t]?=some undef:=by
   rw[Array.getElem?_eq_getElem H];simp[H] at G;rw[G]
  simp[F,undef]
 .simp[H]
theorem zii{all:List Oper}{N:Exit->Act->World->Prop}:∀ {l:List Oper} {st:St} {β:Nat->Value} {a:Act} {w:World} {K:St->Prop},Mods X w0 st β a w->dops P all l st K ->
  (∀ a' w' st' β',K st'->Mods X w0 st' β' a' w'->N .normal a' w')->wpList P all.toArray N l a w
 | [],st,β,a,w,K,Q,h,T=>wpList_nil (T a w st β h Q)
 |o::r,st,β,a,w,K,Q,h,T=>by
  simp only[dops] at h;refine wpList_step λN' E=>?_
  split at h
  .rename_i V
   simp only[Region.wanted,V,if_true];exact zc4 Q h N' _ λa' w' st' β' Y J=>E a' w' (zii J Y T)
  .rename_i j want V
   split at h
   .rename_i t Z
    split at h
    .rename_i b A
     obtain⟨M,H⟩:=Q.slots t _ A;simp only[Sm,R] at H;have G:t<a.tmps.size:=by
      rcases Nat.lt_or_ge t a.tmps.size with B | B
      .exact B
      .rw[show a.tmps.getD t undef=undef by simp[B]] at H;simp[undef] at H
     have C:yielded all.toArray a.tmps j=some b:=by
      unfold yielded;rw[zea Z];have O:a.tmps[t]?=some (.bool b):=by
       rw[Array.getElem?_eq_getElem G];simp[G] at H;rw[H]
      simp[O]
     have F:∀ v:Bool,b=v->Mods X w0 (st.put (some t) (.d (.bool v))) β a w:=by
      intro v I;have:=Q.za1 (dst:=some t) (s:=.d (.bool v)) (v:=.bool v) (λt' e=>by cases e;rw[<-Q.size];exact G) (by simp[Sym.lo]) (by simp[Sm,R])
      have e:a.put (some t) (.bool v)=a:=by
       cases a with
       |mk tmps defers=>
        simp only[Act.put,Act.mk.injEq,and_true];simp[G] at H;apply Array.ext_getElem?
        intro i;by_cases hi:t=i
        .subst hi;simp at G;simp[G,H,I]
        .simp[Array.getElem?_setIfInBounds,hi]
      rw[e] at this;exact this
     simp only[Region.wanted,V,C];by_cases L:b=want
     .subst L
      simp only[beq_self_eq_true,if_true];exact zc4 (F b rfl) (h.1 rfl) N' _ λa' w' st' β' Y J=>E a' w' (zii J Y T)
     .have S:b = !want:=by cases b <;> cases want <;> simp_all
      have:(some b==some want)=false:=by simp[L]
      simp only[this,Bool.false_eq_true,if_false];obtain⟨W,h2⟩:=h.2 S;exact E _ w (zii ((F (!want) S).za1 (zbq W) (by simp[Sym.lo]) (by simp[Sm,R])) h2 T)
    .rename_i v I
     obtain⟨rfl,W,h2⟩:=h;obtain⟨M,H⟩:=Q.slots t _ I;simp only[Sm,R] at H;have C:yielded all.toArray a.tmps j=none:=zdw (zea Z) H
     simp only[Region.wanted,V,C];have:((none:Option Bool)==some want)=false:=rfl
     simp only[this,Bool.false_eq_true,if_false];exact E _ w (zii (Q.za1 (zbq W) (by simp[Sym.lo]) (by simp[Sm,R])) h2 T)
    .exact h.elim
   .exact h.elim
theorem zc7:∀ {c:Code} {Q:DE->St->Prop} {st:St},zue P c Q st->Triple P c Q st
 |.skip,Q,st,h=>λX w0 β a w G=>wp_skip ⟨.normal,st,β,trivial,h,G⟩
 |.region id ops draw,Q,st,h=>by
  simp only[zue] at h;split at h
  .rename_i e;subst e;exact h
  .rename_i e
   have e:draw=false:=by simpa using e
   subst e;intro X w0 β a w G;refine wp_region_list ?_
   have:=zii (P:=P) (all:=ops.toList) (N:=λe a' w'=>∃ de st' β',exM e de/\Q de st'/\Mods X w0 st' β' a' w') G h (λa' w' st' β' F H=>⟨.normal,st',β',trivial,F,H⟩)
   simpa using this
 |.seq x y,Q,st,h=>by
  simp only[zue] at h;intro X w0 β a w G;refine wp_seq (wp_mono (zc7 h X w0 β a w G) ?_)
  rintro e a' w' ⟨de,st',β',E,K,H⟩
  cases e <;> cases de <;> simp only[exM] at E
  .exact zc7 K X w0 β' a' w' H
  .subst E;exact⟨.exit _,st',β',rfl,K,H⟩
  .exact⟨.ret,st',β',trivial,K,H⟩
 |.cond c x y,Q,st,h=>by
  simp only[zue] at h;intro X w0 β a w G;split at h
  .rename_i b hb
   have J:=(G.val c).2;rw[hb] at J;simp only[Sm,R] at J;refine wp_cond J ?_
   cases b
   .exact zc7 (h.2 rfl) X w0 β a w G
   .exact zc7 (h.1 rfl) X w0 β a w G
  .exact h.elim
 |.block id c,Q,st,h=>by
  simp only[zue] at h;intro X w0 β a w G;refine wp_block (wp_mono (zc7 h X w0 β a w G) ?_)
  rintro e a' w' ⟨de,st',β',E,K,H⟩
  cases e <;> cases de <;> simp only[exM] at E
  .exact⟨.normal,st',β',trivial,K,H⟩
  .subst E
   simp only[zb9] at K;simp only[Exit.inBlock];split
   .rename_i e;rw[if_pos e] at K;exact⟨.normal,st',β',trivial,K,H⟩
   .rename_i e;rw[if_neg e] at K;exact⟨.exit _,st',β',rfl,K,H⟩
  .exact⟨.ret,st',β',trivial,K,H⟩
 |.exit id,Q,st,h=>λX w0 β a w G=>wp_exit ⟨.exit id,st,β,rfl,h,G⟩
 |.ret,Q,st,h=>λX w0 β a w G=>wp_ret ⟨.ret,st,β,trivial,h,G⟩
 |.loop c,Q,st,h=>h
 |.rangeFunc ..,Q,st,h=>h
 |.scope ..,Q,st,h=>h
 |.label ..,Q,st,h=>h
 |.goto ..,Q,st,h=>h
 |.refuse ..,Q,st,h=>h
end
end Go.V
namespace Go.V
variable [Dr] [Ov]
open Go.RowKit
def z6c(st:St)(m:Nat):List (Nat×Sym)->Prop
 | []=>True
 |(t,s)::r=>(match zac st.slots t with |some s'=>s'=s |none=>False)/\Sym.lo m s/\z6c st m r
def z6d(st:St)(m:Nat):List (Nat×Obj')->Prop
 | []=>True
 |(id,o)::r=>(match zac st.own id with |some o'=>o'=o |none=>False)/\id<m/\o.lo m/\z6d st m r
def Weak(st st':St):Prop:=(st'.n=st.n/\st'.base=st.base/\st'.base<=st'.next/\∀ id∈st.moved,id∈st'.moved)/\(st'.own.map (·.1)).Nodup/\z6c st st'.next st'.slots/\z6d st st'.next st'.own
section
variable {P:Program} {X:Nat->Prop} {w0:Base} {st st':St} {β:Nat->Value} {a:Act} {w w':World}
theorem z14{m:Nat}:∀ {l:List (Nat×Sym)} {t:Nat} {s:Sym},z6c st m l->zac l t=some s->zac st.slots t=some s/\Sym.lo m s
 | [],t,s,_,h=>by simp[zac] at h
 |(k,u)::r,t,s,H,h=>by
  simp only[z6c] at H;simp only[zac] at h;split at h
  .rename_i e;subst e;simp at h;subst h
   refine⟨?_,H.2.1⟩
   have:=H.1
   split at this
   .rename_i s' hs;rw[hs,this]
   .exact this.elim
  .exact z14 H.2.2 h
theorem zoh{m:Nat}:∀ {l:List (Nat×Obj')} {id:Nat} {o:Obj'},z6d st m l->(id,o)∈l->zac st.own id=some o/\id<m/\o.lo m
 | [],id,o,_,h=>by cases h
 |(k,u)::r,id,o,H,h=>by
  simp only[z6d] at H;rcases List.mem_cons.1 h with e | h
  .cases e
   refine⟨?_,H.2.1,H.2.2.1⟩
   have:=H.1
   split at this
   .rename_i s' hs;rw[hs,this]
   .exact this.elim
  .exact zoh H.2.2.2 h
theorem Mods.weak(L:Mods X w0 st β a w)(h:Weak st st'):Mods X w0 st' β a w:=by
 obtain⟨⟨M,E,K,J⟩,O,hs,Q⟩:=h
 have H:∀ id o,(id,o)∈st'.own->(id,o)∈st.own:=λid o G=>za0 (zoh Q G).1
 have F:Over w (Ex X β st.own) w (Ex X β st'.own):=Over.less (λb T=>T.elim .inl λ⟨i,x,V,e⟩=>.inr ⟨i,x,H i x V,e⟩)
 refine⟨L.outer,⟨K,λi Y h2=>L.still.2 i (by rw[<-E];exact Y) (λh=>h2 (J i h))⟩,L.one,L.defers,by rw[M];exact L.size,L.below,O,?_,?_,?_⟩
 .intro id o G
  obtain⟨_,h2,Z⟩:=zoh Q G;obtain⟨q1,q2,q3⟩:=L.own id o (H id o G);exact⟨h2,Z,zdi.over (m:=st.next) (λ_ _=>rfl) F q1 q2 (λ_ _=>rfl) q3⟩
 .exact λi x j y c V A e1 e2=>L.apart i x j y c (H i x V) (H j y A) e1 e2
 .intro t s B
  obtain⟨Y,h2⟩:=z14 hs B;exact⟨h2,zpr (id:=0) (rows:=.bool true) F (L.slots t s Y).2⟩
def afterLoop{α:Type}(S:α->St)(inv:α->Prop)(μ:α->Nat)(x:α)(Q:DE->St->Prop):DE->St->Prop
 |.normal,st'=>∃ y,inv y/\μ y<μ x/\Weak st' (S y)
 |e,st'=>Q e st'
def z15(P:Program)(st:St):ResultVar->Option D
 |.tmp t=>match zac st.slots t with
  |some s=>match lend st.look s with
   |some (d,_)=>some d
   |none=>none
  |none=>none
 |.cell ad T=>match zac st.slots ad,TI.of P T with
  |some (.bp id off),some ti=>match st.look id with
   |some (.box _ cells)=>if ti.agg=true then (if off+ti.size<=cells.length then (match cellsD st.look ((cells.drop off).take ti.size) with
     |some ds=>some (.agg ds)
     |none=>none) else none)
    else (match cells.drop off with
     |s::_=>zyp st.look s
     | []=>none)
   |_=>none
  |_,_=>none
def zwy(P:Program)(st:St):List ResultVar->Option (List D)
 | []=>some []
 |v::r=>match z15 P st v,zwy P st r with
  |some d,some ds=>some (d::ds)
  |_,_=>none
def zvm(P:Program)(rs:List ResultVar)(r:D)(st:St):Prop:=
 match zwy P st rs with
 |some [d]=>d=r
 |some ds=>.tup ds=r
 |none=>False
def zy1(K:St->Prop):DE->St->Prop
 |.normal,st=>K st
 |.ret,st=>K st
 |.exit _,_=>False
def zlg:Nat->List D->List (Nat×Sym)
 |_,[]=>[]
 |k,d::r=>(k,.d d)::zlg (k+1) r
def zgu(ntmps:Nat)(args:List D):St:={n:=args.length+(ntmps-args.length),next:=0,slots:=zlg 0 args,own:=[]}
theorem zoi:∀ {k t:Nat} {l:List D} {s:Sym},zac (zlg k l) t=some s->∃ j d,t=k+j/\l[j]?=some d/\s = .d d
 |k,t,[],s,h=>by simp[zlg,zac] at h
 |k,t,d::r,s,h=>by
  simp only[zlg,zac] at h;split at h
  .rename_i e;simp at h;exact⟨0,d,by omega,by simp,h.symm⟩
  .obtain⟨j,d',H,h2,G⟩:=zoi h
   exact⟨j+1,d',by omega,by simpa using h2,G⟩
theorem Mods.init{E:Nat->Prop}{w:World}{vs:List Value}{args:List D}{ntmps:Nat}(F:Seen w E)(K:za9 w E args vs):
  Mods E (.of w) (zgu ntmps args) (λ_=>.pointer none) {tmps:=vs.toArray++Array.replicate (ntmps-vs.toArray.size) undef,defers:=[]} w:=by
 have J:=K.length
 refine⟨⟨λb L hm=>hm.elim (λh=>by have:w.heap.size<=b:=h;have:=F.1 b L;omega) (λh=>h),F.2.over (Over.less λb h=>h.elim id False.elim)⟩,⟨Nat.zero_le _,λi h=>by simp[zgu] at h⟩,λ_=>rfl,rfl,by simp[zgu,J],Kept.refl _,by simp[zgu],by simp[zgu],by simp[zgu],?_⟩
 intro t s M
 obtain⟨j,d,O,h2,Q⟩:=zoi M
 have e:t=j:=by omega
 subst e;subst Q
 obtain⟨v,T,G⟩:=K.get h2
 refine⟨by simp[Sym.lo],?_⟩
 have H:t<vs.length:=by
  rcases Nat.lt_or_ge t vs.length with h | h
  .exact h
  .simp[h] at T
 have V:(vs.toArray++Array.replicate (ntmps-vs.toArray.size) undef).getD t undef=v:=by
  rw[List.getElem?_eq_getElem H] at T;simp at T
  simp[Array.getElem?_append,H,T]
 simp only[V,Sm]
 exact R.over (Over.less (λb L=>L.elim (λh=>h) (λ⟨i,x,X,_⟩=>by simp[zgu] at X))) _ _ G
def zoj(tmps:Array Value):ResultVar->Sem Value
 |.tmp t=>pure (tmps.getD t undef)
 |.cell ad t=>do loadVar t (<-asAddr (tmps.getD ad undef))
theorem zgv(fn:Func)(tmps:Array Value){us:List Value}(h:(fn.results.toList.mapM (zoj tmps)).run P w = .ok us w):
  (results fn tmps).run P w = .ok (if h:us.length=1 then us[0] else .tuple us.toArray) w:=by
 have e:(λv:ResultVar=>(match v with | .tmp t=>(pure (tmps.getD t undef):Sem Value) | .cell ad t=>(do loadVar t (<-asAddr (tmps.getD ad undef)))))=zoj tmps:=by
  funext v;cases v <;> rfl
 unfold results
 rw[Array.mapM_eq_mapM_toList]
 simp only[Sem.run_bind,Sem.run_map]
 have H:=h
 rw[<-e] at H
 erw[H]
 simp
theorem z16(V:Mods X w0 st β a w){v:ResultVar}{d:D}(h:z15 P st v=some d):
  ∃ u,(zoj a.tmps v).run P w = .ok u w/\R w X d u:=by
 cases v with
 |tmp t=>
  simp only[z15] at h;split at h
  .rename_i s hs
   split at h
   .rename_i d' b Y
    simp at h;subst h
    exact⟨_,rfl,(zpo V Y (V.slots t s hs).2).1⟩
   .cases h
  .cases h
 |cell ad T=>
  simp only[z15] at h;split at h
  .rename_i id off ti hs Z
   split at h
   .rename_i T' cells J
    obtain⟨_,O,b,vs,A,K,B,G,C⟩:=V.obj J;have I:=(V.slots ad _ hs).2;simp only[Sm] at I;obtain⟨b',F,I⟩:=I;rw[A] at F;simp at F;rw[<-F] at I;have N:∀ (j:Nat) u,(vs.drop off)[j]?=some u->w.cell? ⟨b,off+j,none⟩=some u:=λj u S=>zn4 B (by simpa[List.getElem?_drop] using S)
    split at h
    .rename_i E
     split at h
     .rename_i hfit
      split at h
      .rename_i ds L
       simp at h;subst h
       have Q:=G.length;have W:=zhk (P:=P) (w:=w) Z E (b:=b) (off:=off) (vs:=(vs.drop off).take ti.size) (by simp;omega) (λj u S=>by
        rw[List.getElem?_take] at S;split at S
        .exact N j u S
        .cases S)
       refine⟨.agg ((vs.drop off).take ti.size).toArray,?_,?_⟩
       .simp only[zoj,I];simpa[asAddr,Instr.loadAt,Instr.sureAddr] using W
       .simp only[R]
        exact⟨_,rfl,zka V L (Sms.take ti.size (Sms.drop off G)) (λu hu=>C u (List.mem_of_mem_drop (List.mem_of_mem_take hu)))⟩
      .cases h
     .cases h
    .rename_i E
     cases hd:cells.drop off with
     |nil=>rw[hd] at h;cases h
     |cons s r=>
      rw[hd] at h;have H:=Sms.drop off G;rw[hd] at H;simp only[Sms] at H;obtain⟨u,us,hu,M,_⟩:=H;have W:=zhj (P:=P) (w:=w) Z (by simpa using E) (b:=b) (off:=off) (by simpa using N 0 u (by rw[hu];rfl))
      exact⟨u,by simp only[zoj,I];simpa[asAddr,Instr.loadAt,Instr.sureAddr] using W,ztv V h M⟩
   .cases h
  .cases h
theorem zkl(H:Mods X w0 st β a w):∀ {rs:List ResultVar} {ds:List D},zwy P st rs=some ds ->
  ∃ us:List Value,(rs.mapM (zoj a.tmps)).run P w = .ok us w/\za9 w X ds us
 | [],ds,h=>by simp[zwy] at h;subst h;exact⟨[],by simp,by simp[za9]⟩
 |v::r,ds,h=>by
  simp only[zwy] at h;split at h
  .rename_i d ds' G h2
   simp at h;subst h
   obtain⟨u,e1,e2⟩:=z16 H G;obtain⟨us,q1,q2⟩:=zkl H h2;refine⟨u::us,?_,by simp only[za9];exact⟨u,us,rfl,e2,q2⟩⟩
   simp only[List.mapM_cons,Sem.run_bind,e1,Result.andThen_ok,q1];rfl
  .cases h
theorem zdq(G:Mods X w0 st β a w){fn:Func}{r:D}(h:zvm P fn.results.toList r st):∃ v,(results fn a.tmps).run P w = .ok v w/\R w X r v:=by
 unfold zvm at h
 split at h
 .rename_i d F
  obtain⟨us,q1,q2⟩:=zkl G F;simp only[za9] at q2;obtain⟨u,us',rfl,e,rfl⟩:=q2;subst h;refine⟨u,?_,e⟩
  rw[zgv fn a.tmps q1];simp
 .rename_i ds H F
  obtain⟨us,q1,q2⟩:=zkl G F;subst h;refine⟨.tuple us.toArray,?_,by simp only[R];exact⟨us,rfl,q2⟩⟩
  have E:us.length≠1:=by
   rw[q2.length];intro e;cases ds with
   |nil=>simp at e
   |cons d r=>
    cases r with
    |nil=>exact H d rfl
    |cons _ _=>simp at e
  rw[zgv fn a.tmps q1];simp[E]
 .exact h.elim
def resF(rs:List ResultVar)(T sz:Nat)(rows:List (List D))(st:St):Prop:=
 match rs with
 | [.tmp t]=>match zac st.slots t with
  |some (.ar id)=>match st.look id with
   |some (.arr T' sz' rows')=>T'=T/\sz'=sz/\rows'=rows
   |_=>False
  |_=>False
 |_=>False
end
end Go.V
namespace Go.V
variable [Dr] [Ov]
open Go.RowKit
def Fun1(F:(Sym->Prop)->Prop):Prop:=∀ k,F k->∃ s,F (λs'=>s'=s)/\k s
section
variable (P:Program) (look:Nat->Option Obj') (ρ:Operand->Sym)
theorem ygb(ti:TI)(l:List D):Fun1 (headD ti l):=by
 intro k h
 unfold headD at h ⊢
 split at h
 .rename_i e;simp only[e,if_true];exact⟨_,⟨h.1,rfl⟩,h.2⟩
 .rename_i e;simp only[e]
  cases l with
  |nil=>exact h.elim
  |cons x _=>exact⟨_,rfl,h⟩
theorem ymr(ti:TI)(l:List Sym):Fun1 (zve ti l):=by
 intro k h
 unfold zve at h ⊢
 split at h
 .rename_i e;simp only[e,if_true];exact⟨_,⟨h.1,rfl⟩,h.2⟩
 .rename_i e;simp only[e]
  cases l with
  |nil=>exact h.elim
  |cons x _=>exact⟨_,rfl,h⟩
theorem yms(ti:TI)(s:Sym):Fun1 (zmn look ti s):=by
 intro k h
 cases s <;> simp only[zmn] at h ⊢
 case d x=>cases x <;> simp only[zmn] at h ⊢ <;> first | exact ygb ti _ k h | exact h.elim
 case bp id off=>
  cases H:look id with
  |none=>simp only[H] at h
  |some o=>cases o <;> simp only[H] at h ⊢;exact ymr ti _ k h
 case ap id sz i off=>
  cases H:look id with
  |none=>simp only[H] at h
  |some o=>
   cases o <;> simp only[H] at h ⊢
   obtain⟨G,h2,F⟩:=h;obtain⟨s,q1,q2⟩:=ygb ti _ k F;exact⟨s,⟨G,h2,q1⟩,q2⟩
theorem z18(kd:TK)(x:Sym)(f:Nat):Fun1 (zeg kd x f):=by
 intro k h
 cases kd <;> simp only[zeg] at h ⊢
 rename_i fs
 cases H:fs[f]? with
 |none=>simp only[H] at h
 |some y=>
  obtain⟨off,sz,b⟩:=y;simp only[H] at h ⊢;cases x <;> (try simp only at h ⊢)
  case d x=>cases x <;> (try simp only at h ⊢) <;> first | exact h.elim | exact⟨_,⟨h.1,rfl⟩,h.2⟩
  all_goals exact⟨_,⟨h.1,rfl⟩,h.2⟩
theorem yjv(kd:TK)(x:Sym)(f:Nat):Fun1 (zqr kd x f):=by
 intro k h
 cases kd <;> simp only[zqr] at h ⊢
 rename_i fs
 cases H:fs[f]? with
 |none=>simp only[H] at h
 |some y=>
  obtain⟨off,sz,b⟩:=y;simp only[H] at h ⊢;cases x <;> (try simp only at h ⊢)
  case d x=>
   cases x <;> (try simp only at h ⊢)
   case agg l=>
    cases b <;> simp only[if_true,Bool.false_eq_true,if_false] at h ⊢
    .cases G:l.drop off with
     |nil=>rw[G] at h;exact h.elim
     |cons y r=>rw[G] at h;exact⟨_,rfl,h⟩
    .exact⟨_,⟨h.1,rfl⟩,h.2⟩
  case agg l=>
   cases b <;> simp only[if_true,Bool.false_eq_true,if_false] at h ⊢
   .cases G:l.drop off with
    |nil=>rw[G] at h;exact h.elim
    |cons y r=>rw[G] at h;exact⟨_,rfl,h⟩
   .exact⟨_,⟨h.1,rfl⟩,h.2⟩
theorem z19(esz:Nat)(s s':Sym):Fun1 (zcs look esz s s'):=by
 intro k h
 unfold zcs at h ⊢
 split at h
 .exact⟨_,⟨h.1,h.2.1,rfl⟩,h.2.2⟩
 .rename_i id kd n
  cases H:look id with
  |none=>simp only[H] at h
  |some o=>cases o <;> simp only[H] at h ⊢;exact⟨_,⟨h.1,h.2.1,rfl⟩,h.2.2⟩
 .exact h.elim
theorem yjw(s s':Sym):Fun1 (zqs s s'):=by
 intro k h
 unfold zqs at h ⊢
 split at h
 .exact⟨_,⟨h.1,rfl⟩,h.2⟩
 .exact h.elim
theorem z6e(kd:IntKind)(n:Int):Fun1 (arith kd n):=by
 intro k h
 unfold arith at h ⊢
 cases kd <;> simp only at h ⊢ <;> first | exact⟨_,rfl,h⟩ | skip
 split at h
 .rename_i e;simp only[if_pos e];exact⟨_,rfl,h⟩
 .rename_i e;simp only[if_neg e];exact⟨_,⟨h.1,rfl⟩,h.2⟩
theorem yol(op:BinOp)(s s':Sym)(hs:∀ l,s≠.d (.sl l)):Fun1 (sbin op s s'):=by
 intro k h
 unfold sbin at h ⊢
 split at h
 .cases op <;> simp only[zpj] at h ⊢ <;> first
   |exact⟨_,⟨h.1,rfl⟩,h.2⟩
   |(obtain⟨H,h2⟩:=h;obtain⟨s,q1,q2⟩:=z6e _ _ k h2;exact⟨s,⟨H,q1⟩,q2⟩)
   |(obtain⟨H,h2,G⟩:=h;obtain⟨s,q1,q2⟩:=z6e _ _ k G;exact⟨s,⟨H,h2,q1⟩,q2⟩)
   |(obtain⟨H,h2,G⟩:=h;exact⟨_,⟨H,h2,rfl⟩,G⟩)
   |exact h.2.elim
   |exact h.elim
 .cases op <;> simp only[zpk] at h ⊢ <;> first | exact⟨_,⟨h.1,rfl⟩,h.2⟩ | exact⟨_,rfl,h⟩ | exact h.elim
 .cases op <;> simp only[zk6] at h ⊢ <;> first | exact⟨_,rfl,h⟩ | exact h.elim
 .exact absurd rfl (hs _)
 .cases op <;> simp only at h ⊢ <;> first | exact⟨_,rfl,h⟩ | exact h.elim
 .exact h.elim
theorem yph(op:UnOp)(s:Sym):Fun1 (sun op s):=by
 intro k h
 unfold sun at h ⊢
 split at h
 .cases op <;> simp only at h ⊢ <;> first | exact⟨_,rfl,h⟩ | exact h.elim
 .cases op <;> simp only at h ⊢ <;> first | exact z6e _ _ k h | exact h.elim
 .exact h.elim
theorem yb0(kd:TK)(s:Sym):Fun1 (zf5 kd s):=by
 intro k h
 unfold zf5 at h ⊢
 split at h
 .exact⟨_,rfl,h⟩
 .exact⟨_,rfl,h⟩
 .exact h.elim
theorem yb1(s:Sym)(i:Nat):Fun1 (zf6 s i):=by
 intro k h
 unfold zf6 at h ⊢
 split at h
 .split at h
  .rename_i hx;simp only[hx];exact⟨_,rfl,h⟩
  .exact h.elim
 .split at h
  .rename_i hx;simp only[hx];exact⟨_,rfl,h⟩
  .exact h.elim
 .exact h.elim
theorem yom(kd:TK)(s:Sym):Fun1 (slen look kd s):=by
 intro k h
 unfold slen at h ⊢
 split at h
 .exact⟨_,rfl,h⟩
 .exact⟨_,rfl,h⟩
 .exact⟨_,rfl,h⟩
 .split at h
  .rename_i hx;simp only[hx];exact⟨_,rfl,h⟩
  .exact h.elim
 .exact⟨_,rfl,h⟩
 .exact⟨_,rfl,h⟩
 .exact h.elim
theorem z2a(mx:Bool)(l:List Sym):Fun1 (ziu mx l):=by
 intro k h
 unfold ziu at h ⊢
 split at h
 .exact⟨_,rfl,h⟩
 .exact h.elim
theorem yjx(kd:TK)(s:Sym)(lo hi:Option Sym):Fun1 (zh4 P look kd s lo hi):=by
 intro k h
 unfold zh4 at h ⊢
 split at h
 .split at h
  .rename_i H h2;(try simp only[H,h2]);exact⟨_,⟨h.1,h.2.1,rfl⟩,h.2.2⟩
  .exact h.elim
 .split at h
  .rename_i h0;try simp only[h0]
   split at h
   .rename_i H h2;(try simp only[H,h2]);exact⟨_,⟨h.1,h.2.1,rfl⟩,h.2.2⟩
   .exact h.elim
  .exact h.elim
 .split at h
  .rename_i h0;try simp only[h0]
   split at h
   .rename_i H h2;(try simp only[H,h2]);exact⟨_,⟨h.1,h.2.1,rfl⟩,h.2.2⟩
   .exact h.elim
  .exact h.elim
 .split at h
  .rename_i H h2;(try simp only[H,h2]);exact⟨_,⟨h.1,rfl⟩,h.2⟩
  .exact h.elim
 .exact h.elim
theorem ygc(kd:TK)(s a b c:Sym):Fun1 (ziv P look kd s a b c):=by
 intro k h
 unfold ziv at h ⊢
 split at h
 .split at h
  .rename_i h0;try simp only[h0]
   exact⟨_,⟨h.1,h.2.1,rfl⟩,h.2.2⟩
  .exact h.elim
 .exact h.elim
theorem yon(s:Sym):Fun1 (snil s):=by
 intro k h
 unfold snil at h ⊢
 split at h <;> first | exact⟨_,rfl,h⟩ | exact h.elim
theorem ymt(c:Sym)(args:List Sym):Fun1 (zn0 P look c args):=by
 intro k h
 unfold zn0 at h ⊢
 split at h
 .unfold zqu at h ⊢
  split at h
  .rename_i hl;simp only[hl]
   obtain⟨r,H,h2,G⟩:=h;exact⟨_,⟨r,H,h2,rfl⟩,G⟩
  .exact h.elim
 .exact h.elim
theorem ymv(c x y:Sym):Fun1 (z5o c x y):=by
 intro k h
 unfold z5o at h ⊢
 split at h
 .exact⟨_,rfl,h⟩
 .exact h.elim
theorem ymw(ti:TI):Fun1 (zeroS ti):=by
 intro k h
 unfold zeroS at h ⊢
 split at h
 .rename_i hg;simp only[hg,if_true];exact⟨_,⟨h.1,rfl⟩,h.2⟩
 .rename_i hg;simp only[hg]
  split at h
  .exact⟨_,rfl,h⟩
  .exact h.elim
theorem ygd(kk:TK)(te:TI)(c:Bool)(m x:Sym):Fun1 (zgq look kk te c m x):=by
 intro k h
 unfold zgq at h ⊢
 split at h
 .rename_i rows y h1
  simp only[h1];obtain⟨h2,h⟩:=h;split at h
  .rename_i d hd;try simp only[hd]
   exact⟨_,⟨h2,rfl⟩,h⟩
  .rename_i hd;try simp only[hd]
   obtain⟨s,q1,q2⟩:=ymw te _ h;refine⟨_,⟨h2,?_⟩,q2⟩
   unfold zeroS at q1 ⊢;split at q1
   .rename_i hg;simp only[hg,if_true];exact⟨q1.1,by rw[q1.2]⟩
   .rename_i hg;simp only[hg]
    split at q1
    .rename_i v hv;rw[<-q1];rfl
    .exact q1.elim
  .exact h.elim
 .exact h.elim
theorem yjy(op:BinOp)(t:Nat)(x y:Sym):Fun1 (zqv P op t x y):=by
 intro k h
 unfold zqv at h ⊢
 split at h
 .split at h
  .rename_i hk;try simp only[hk]
   split at h
   .rename_i hr;try simp only[hr]
    split at h
    .exact⟨_,rfl,h⟩
    .exact⟨_,rfl,h⟩
    .exact h.elim
   .exact h.elim
  .exact h.elim
 .exact h.elim
theorem yjz(ti:TI)(parts:List (Nat×Sym)):Fun1 (zq0 ti parts):=by
 intro k h
 unfold zq0 at h ⊢
 split at h
 .rename_i fs hk
  obtain⟨H,h⟩:=h;split at h
  .rename_i out ho;simp only[ho];exact⟨_,⟨H,rfl⟩,h⟩
  .exact h.elim
 .exact h.elim
theorem yb2(P:Program)(t n:Nat)(parts:List (Nat×Sym)):Fun1 (ziz P t n parts):=by
 intro k h
 unfold ziz at h ⊢
 split at h
 .split at h
  .split at h
   .rename_i xs hxs
    obtain⟨H,h2,G,h⟩:=h;split at h
    .rename_i rows hr
     (try simp only[hr])
     exact⟨_,⟨H,h2,G,rfl⟩,h⟩
    .exact h.elim
   .exact h.elim
  .exact h.elim
 .exact h.elim
def ymx:Sym->Bool
 |.d (.sl _)=>false
 |_=>true
def opD(ρ:Operand->Sym):Op->Bool
 |.binOp _ _ x _ _=>ymx (ρ x)
 |_=>true
theorem yk9(op:Op)(H:opD ρ op=true):Fun1 (sopB P look ρ op):=by
 intro k h
 unfold sopB at h ⊢
 split at h
 .split at h
  .rename_i G;try simp only[G]
   exact yjz _ _ k h
  .exact h.elim
 .exact yb2 _ _ _ _ k h
 .split at h
  .rename_i hf;try simp only[hf]
   exact⟨_,rfl,h⟩
  .exact h.elim
 .unfold sop at h ⊢
  split at h
  .exact⟨_,rfl,h⟩
  .exact⟨_,rfl,h⟩
  .exact ymv _ _ _ k h
  .split at h
   .rename_i G;try simp only[G]
    exact yms _ _ _ k h
   .exact h.elim
  .split at h
   .rename_i G;try simp only[G]
    exact z18 _ _ _ k h
   .exact h.elim
  .split at h
   .rename_i G;try simp only[G]
    exact yjv _ _ _ k h
   .exact h.elim
  .split at h
   .split at h
    .exact z19 _ _ _ _ k h
    .exact h.elim
   .exact h.elim
  .split at h
   .rename_i G;try simp only[G]
    exact yjw _ _ k h
   .exact h.elim
  .split at h
   .rename_i G;try simp only[G]
    obtain⟨F,h2⟩:=h;obtain⟨s,q1,q2⟩:=yjx _ _ _ _ _ _ k h2;exact⟨s,⟨F,q1⟩,q2⟩
   .exact h.elim
  .split at h
   .rename_i G;try simp only[G]
    exact ygc _ _ _ _ _ _ _ k h
   .exact h.elim
  .split at h
   .rename_i G;try simp only[G]
    rcases h with h | h
    .obtain⟨F,h2⟩:=h
     obtain⟨s,q1,q2⟩:=yol _ _ _ (by intro l e;simp[opD,e,ymx] at H) k h2
     exact⟨s,.inl ⟨F,q1⟩,q2⟩
    .obtain⟨s,q1,q2⟩:=yjy _ _ _ _ _ k h
     exact⟨s,.inr q1,q2⟩
   .exact h.elim
  .exact yph _ _ k h
  .split at h
   .rename_i G ht';try simp only[G,ht']
    exact yb0 _ _ k h
   .exact h.elim
  .exact yb1 _ _ k h
  .split at h
   .split at h
    .rename_i F h2;try simp only[F,h2]
     obtain⟨E,h⟩:=h;obtain⟨s,q1,q2⟩:=ygd _ _ _ _ _ _ k h;exact⟨s,⟨E,q1⟩,q2⟩
    .exact h.elim
   .exact h.elim
  .exact yon _ k h
  .split at h
   .rename_i K J
    split at h
    .rename_i G;try simp only[K,J,G]
     exact yom _ _ _ k h
    .exact h.elim
   .exact h.elim
  .exact z2a _ _ k h
  .exact z2a _ _ k h
  .exact ymt _ _ _ _ k h
  .exact h.elim
end
end Go.V
namespace Go.V
variable [Dr] [Ov]
open Go.RowKit
def guards(all:List Oper)(t:Option Tmp):Bool:=match t with
 |some t=>all.any λo=>match o.guard with
  |some (j,_)=>(all[j]?).bind (·.dst)==some t
  |none=>false
 |none=>false
def splitB(g:Bool)(s:Sym)(k:Sym->Prop):Prop:=
 match g,s with
 |true,.d (.bool b)=>(b=true->k (.d (.bool true)))/\(b=false->k (.d (.bool false)))
 |_,s=>k s
def z9f(g:Bool)(k:Sym->Prop):Sym->Prop:=λs=>splitB g s k
def zmu(P:Program)(all:List Oper)(o:Oper)(st:St)(k:Sym->Prop):Prop:=
 match o.guard with
 |none=>opD st.val o.op=true/\sopB P st.look st.val o.op k
 |some (j,want)=>match (all[j]?).bind (·.dst) with
  |some t=>match zac st.slots t with
   |some (.d (.bool b))=>(b=want->opD st.val o.op=true/\sopB P st.look st.val o.op k)/\(b = !want->k (.d (.val undef)))
   |some (.d (.val v))=>v=undef/\k (.d (.val undef))
   |_=>False
  |none=>False
def zuf(P:Program)(all:List Oper):List Oper->St->(St->Prop)->Prop
 | [],st,K=>K st
 |o::r,st,K=>dstB o.dst st.n=true/\zmu P all o st (z9f (guards all o.dst) λs=>zuf P all r (st.put o.dst s) K)
def DStep(P:Program)(all:List Oper)(o:Oper)(st:St)(s:Sym):Prop:=zmu P all o st (λs'=>s'=s)
def Chain(P:Program)(all:List Oper):List Oper->List Sym->St->Prop
 | [],ss,_=>ss=[]
 |o::r,ss,st=>∃ s ss',ss=s::ss'/\dstB o.dst st.n=true/\DStep P all o st s/\Chain P all r ss' (st.put o.dst s)
def puts:List Oper->List Sym->St->St
 |o::r,s::ss,st=>puts r ss (st.put o.dst s)
 |_,_,st=>st
theorem yge{g:Bool}{k:Sym->Prop}{s:Sym}(h:z9f g k s):k s:=by
 unfold z9f splitB at h
 split at h
 .rename_i b;cases b
  .exact h.2 rfl
  .exact h.1 rfl
 .exact h
section
variable {P:Program} {X:Nat->Prop} {w0:Base} {st:St} {β:Nat->Value} {a:Act} {w w':World}
theorem zlh{all:List Oper}{o:Oper}{k:Sym->Prop}(h:zmu P all o st k):∃ s,DStep P all o st s/\k s:=by
 unfold DStep
 unfold zmu at h ⊢
 split at h
 .obtain⟨H,h2⟩:=h
  obtain⟨s,q1,q2⟩:=yk9 P st.look st.val o.op H k h2;exact⟨s,⟨H,q1⟩,q2⟩
 .rename_i j want hg
  split at h
  .rename_i t ht
   split at h
   .rename_i b hb
    by_cases e:b=want
    .obtain⟨H,h2⟩:=h.1 e
     obtain⟨s,q1,q2⟩:=yk9 P st.look st.val o.op H k h2;refine⟨s,⟨λ_=>⟨H,q1⟩,λe'=>?_⟩,q2⟩
     subst e;cases b <;> simp at e'
    .have e':b = !want:=by cases b <;> cases want <;> simp_all
     exact⟨_,⟨λe''=>absurd e'' e,λ_=>rfl⟩,h.2 e'⟩
   .exact⟨_,⟨h.1,rfl⟩,h.2⟩
   .exact h.elim
  .exact h.elim
theorem zug{all:List Oper}:∀ {l:List Oper} {st:St} {K:St->Prop},zuf P all l st K->∃ ss,Chain P all l ss st/\K (puts l ss st)
 | [],st,K,h=>⟨[],rfl,h⟩
 |o::r,st,K,h=>by
  simp only[zuf] at h;obtain⟨H,h⟩:=h;obtain⟨s,G,h2⟩:=zlh h;obtain⟨ss,q1,q2⟩:=zug (yge h2);exact⟨s::ss,⟨s,ss,rfl,H,G,q1⟩,q2⟩
theorem zkm{all:List Oper}:∀ {l:List Oper} {ss:List Sym} {st:St} {i:Nat} {o:Oper},Chain P all l ss st->l[i]?=some o ->
  ∃ s,ss[i]?=some s/\dstB o.dst st.n=true/\DStep P all o (puts (l.take i) (ss.take i) st) s
 | [],ss,st,i,o,h,hi=>by simp at hi
 |x::r,ss,st,0,o,h,hi=>by
  simp at hi;subst hi
  obtain⟨s,ss',rfl,H,G,h2⟩:=h;exact⟨s,by simp,H,by simpa[puts] using G⟩
 |x::r,ss,st,i+1,o,h,hi=>by
  obtain⟨s,ss',rfl,H,G,h2⟩:=h;obtain⟨s',q1,q2,q3⟩:=zkm h2 (by simpa using hi)
  refine⟨s',by simpa using q1,?_,by simpa[puts] using q3⟩
  have:(st.put x.dst s).n=st.n:=by cases x.dst <;> rfl
  rw[this] at q2;exact q2
theorem zg9:∀ (l:List Oper) (ss:List Sym) (st:St),(puts l ss st).own=st.own/\(puts l ss st).n=st.n/\(puts l ss st).next=st.next/\(puts l ss st).base=st.base/\(puts l ss st).moved=st.moved
 | [],ss,st=>by simp[puts]
 |o::r,[],st=>by simp[puts]
 |o::r,s::ss,st=>by
  have h:=zg9 r ss (st.put o.dst s);have e:(st.put o.dst s).own=st.own/\(st.put o.dst s).n=st.n/\(st.put o.dst s).next=st.next/\(st.put o.dst s).base=st.base/\(st.put o.dst s).moved=st.moved:=by cases o.dst <;> exact⟨rfl,rfl,rfl,rfl,rfl⟩
  exact⟨h.1.trans e.1,h.2.1.trans e.2.1,h.2.2.1.trans e.2.2.1,h.2.2.2.1.trans e.2.2.2.1,h.2.2.2.2.trans e.2.2.2.2⟩
theorem zok:∀ {l:List Oper} {ss:List Sym} {st:St} {t:Nat},l.length=ss.length ->
  (∃ (i:Nat) (o:Oper) (s:Sym),l[i]?=some o/\ss[i]?=some s/\o.dst=some t/\zac (puts l ss st).slots t=some s)\/((∀ (i:Nat) (o:Oper),l[i]?=some o->o.dst≠some t)/\zac (puts l ss st).slots t=zac st.slots t)
 | [],[],st,t,_=>.inr ⟨by simp,by simp[puts]⟩
 |o::r,s::ss,st,t,H=>by
  rcases zok (l:=r) (ss:=ss) (st:=st.put o.dst s) (t:=t) (by simpa using H) with⟨i,o',s',G,h2,F,E⟩ | ⟨G,h2⟩
  .exact .inl ⟨i+1,o',s',by simpa using G,by simpa using h2,F,by simpa[puts] using E⟩
  .by_cases e:o.dst=some t
   .refine .inl ⟨0,o,s,by simp,by simp,e,?_⟩
    simp only[puts];rw[h2];simp only[e,St.put,zac,if_true]
   .refine .inr ⟨?_,?_⟩
    .intro i o' hi
     cases i with
     |zero=>simp at hi;subst hi;exact e
     |succ i=>exact G i o' (by simpa using hi)
    .simp only[puts];rw[h2]
     cases K:o.dst with
     |none=>rfl
     |some d=>
      rw[K] at e;simp only[St.put,zac];rw[if_neg (by simpa using e)]
theorem zeh{all:List Oper}:∀ {l:List Oper} {ss:List Sym} {st:St},Chain P all l ss st->l.length=ss.length
 | [],ss,st,h=>by simp only[Chain] at h;simp[h]
 |o::r,ss,st,h=>by obtain⟨s,ss',rfl,_,_,h2⟩:=h;simp[zeh h2]
def tmpsOf(all:List Oper)(o:Oper):List Tmp:=
 (o.op.operands.toList.filterMap λ| .tmp t=>some t | _=>none)++(match o.guard with
  |some (j,_)=>((all[j]?).bind (·.dst)).toList
  |none=>[])
def bound(o:Oper)(j:Nat):Bool:=o.after.toList.any λe=>Region.binds .any e&&e.on==j
def ygf(i:Nat)(o:Oper):Bool:=o.after.toList.all λe=>!Region.binds .any e || decide (e.on<i)
def yla(all:List Oper)(i j:Nat)(x y:Oper):Bool:=
 (match x.dst with
  |some t=>(!(tmpsOf all y).contains t ||bound y i)&&y.dst != some t
  |none=>true) &&
 (match y.dst with
  |some t=>!(tmpsOf all x).contains t ||bound y i
  |none=>true)
def ylb(all:List Oper)(x:Oper):Bool:=match x.dst with
 |some t=>!(tmpsOf all x).contains t
 |none=>true
def zb7(all:List Oper):Bool:=
 all.zipIdx.all λ(y,j)=>ygf j y&&ylb all y&&all.zipIdx.all λ(x,i)=>!decide (i<j) || yla all i j x y
end
end Go.V
namespace Go.V
variable [Dr] [Ov]
open Go.RowKit
theorem yj0{P:Program}{look:Nat->Option Obj'}{ρ ρ':Operand->Sym}{op:Op}{k:Sym->Prop}(h:∀ x∈op.operands,ρ x=ρ' x)(hs:sop P look ρ op k):sop P look ρ' op k:=by
 unfold sop at hs ⊢
 split at hs
 .rename_i x;rw[<-h x (by simp[Op.operands])];exact hs
 .rename_i x;rw[<-h x (by simp[Op.operands])];exact hs
 .rename_i c x y;rw[<-h c (by simp[Op.operands]),<-h x (by simp[Op.operands]),<-h y (by simp[Op.operands])];exact hs
 .rename_i t x;rw[<-h x (by simp[Op.operands])];exact hs
 .rename_i t x f;rw[<-h x (by simp[Op.operands])];exact hs
 .rename_i t x f;rw[<-h x (by simp[Op.operands])];exact hs
 .rename_i t x i;rw[<-h x (by simp[Op.operands]),<-h i (by simp[Op.operands])];exact hs
 .rename_i t x i;rw[<-h x (by simp[Op.operands]),<-h i (by simp[Op.operands])];exact hs
 .rename_i t x lo hi
  have e1:lo.map ρ=lo.map ρ':=by
   cases lo with
   |none=>rfl
   |some y=>simp[h y (by simp[Op.operands])]
  have e2:hi.map ρ=hi.map ρ':=by
   cases hi with
   |none=>rfl
   |some y=>simp[h y (by simp[Op.operands])]
  rw[<-h x (by simp[Op.operands]),<-e1,<-e2];exact hs
 .rename_i t x lo hi mx
  rw[<-h x (by simp[Op.operands]),<-h lo (by simp[Op.operands]),<-h hi (by simp[Op.operands]),<-h mx (by simp[Op.operands])];exact hs
 .rename_i op t x y ty;rw[<-h x (by simp[Op.operands]),<-h y (by simp[Op.operands])];exact hs
 .rename_i op t x;rw[<-h x (by simp[Op.operands])];exact hs
 .rename_i s t x;rw[<-h x (by simp[Op.operands])];exact hs
 .rename_i t i;rw[<-h t (by simp[Op.operands])];exact hs
 .rename_i t m x c;rw[<-h m (by simp[Op.operands]),<-h x (by simp[Op.operands])];exact hs
 .rename_i x;rw[<-h x (by simp[Op.operands])];exact hs
 .rename_i ar ts
  split at hs
  .rename_i x t H ht
   have:ρ x=ρ' x:=h x (by simp only[Op.operands,Call.operands];have:x∈ar.toList:=(by rw[H];simp);simpa using this)
   rw[<-this];exact hs
  .exact hs.elim
 .rename_i ar ts
  have e1:ar.toList.map ρ=ar.toList.map ρ':=by
   apply List.map_congr_left
   intro x H;exact h x (by simp only[Op.operands,Call.operands];simpa using H)
  rw[<-e1];exact hs
 .rename_i ar ts
  have e1:ar.toList.map ρ=ar.toList.map ρ':=by
   apply List.map_congr_left
   intro x H;exact h x (by simp only[Op.operands,Call.operands];simpa using H)
  rw[<-e1];exact hs
 .rename_i f ar ts
  have e0:ρ f=ρ' f:=h f (by simp[Op.operands,Call.operands])
  have e1:ar.toList.map ρ=ar.toList.map ρ':=by
   apply List.map_congr_left
   intro x H;exact h x (by simp only[Op.operands,Call.operands];simp;right;simpa using H)
  rw[<-e0,<-e1];exact hs
 .exact hs.elim
theorem zuh{P:Program}{look:Nat->Option Obj'}{ρ ρ':Operand->Sym}{op:Op}{k:Sym->Prop}(h:∀ x∈op.operands,ρ x=ρ' x)(hs:sopB P look ρ op k):sopB P look ρ' op k:=by
 unfold sopB at hs ⊢
 split at hs
 .rename_i t parts
  have e:(parts.toList.map λ(i,x)=>(i,ρ x))=(parts.toList.map λ(i,x)=>(i,ρ' x)):=by
   apply List.map_congr_left
   rintro⟨i,x⟩ H
   simp only
   rw[h x (by simp only[Op.operands];simp;exact⟨i,by simpa using H⟩)]
  rw[e] at hs;exact hs
 .rename_i t n parts
  have e:(parts.toList.map λ(i,x)=>(i,ρ x))=(parts.toList.map λ(i,x)=>(i,ρ' x)):=by
   apply List.map_congr_left
   rintro⟨i,x⟩ H
   simp only
   rw[h x (by simp only[Op.operands];simp;exact⟨i,by simpa using H⟩)]
  rw[e] at hs;exact hs
 .rename_i f first cap
  split at hs
  .rename_i hf
   have e:cap.toList.map ρ=cap.toList.map ρ':=by
    apply List.map_congr_left
    intro x H;exact h x (by simp only[Op.operands];simp;right;simpa using H)
   rw[e] at hs;exact hs
  .exact hs.elim
 .exact yj0 h hs
section
variable {P:Program} {X:Nat->Prop} {w0:Base} {st:St} {β:Nat->Value} {a0:Act} {w00:World}
structure Half(P:Program)(X:Nat->Prop)(all:List Oper)(ss:List Sym)(st:St)(β:Nat->Value)(a0:Act)(w00:World)(listed:Array Bool)(a:Act)(w:World):Prop where
 size:listed.size=all.length
 defers:a.defers=a0.defers
 tmps:a.tmps.size=st.n
 below:Below w00.heap.size w00 w
 down:∀ i o,all[i]?=some o->listed.getD i true=true->∀ e∈o.after.toList,Region.binds .any e=true->listed.getD e.on false=true
 done:∀ i o t s,all[i]?=some o->listed.getD i true=true->o.dst=some t->ss[i]?=some s->Sym.lo st.next s/\Sm w (Ex X β st.own) β s (a.tmps.getD t undef)
 rest:∀ t,(∀ i o,all[i]?=some o->listed.getD i true=true->o.dst≠some t)->a.tmps.getD t undef=a0.tmps.getD t undef
def seen(all:List Oper)(o:Oper)(st:St):List (Nat×Sym):=(tmpsOf all o).filterMap λt=>(zac st.slots t).map λs=>(t,s)
theorem zfv{t:Nat}:∀ {l:List Tmp} {s:Sym},zac (l.filterMap λt=>(zac st.slots t).map λs=>(t,s)) t=some s->t∈l/\zac st.slots t=some s
 | [],s,h=>by simp[zac] at h
 |x::r,s,h=>by
  simp only[List.filterMap_cons] at h;cases H:zac st.slots x with
  |none=>simp only[H,Option.map_none] at h;have:=zfv h;exact⟨List.mem_cons_of_mem _ this.1,this.2⟩
  |some y=>
   simp only[H,Option.map_some,zac] at h;split at h
   .rename_i e;subst e;simp at h;subst h;exact⟨by simp,H⟩
   .have:=zfv h;exact⟨List.mem_cons_of_mem _ this.1,this.2⟩
theorem zol{t:Nat}{s:Sym}:∀ {l:List Tmp},t∈l->zac st.slots t=some s->zac (l.filterMap λt=>(zac st.slots t).map λs=>(t,s)) t=some s
 | [],h,_=>by cases h
 |x::r,h,hs=>by
  simp only[List.filterMap_cons];by_cases e:x=t
  .subst e;simp[hs,zac]
  .have H:t∈r:=by rcases List.mem_cons.1 h with h | h;exact absurd h.symm e;exact h
   cases G:zac st.slots x with
   |none=>simp only[Option.map_none];exact zol H hs
   |some y=>simp only[Option.map_some,zac,e,if_false];exact zol H hs
end
end Go.V
namespace Go.V
variable [Dr] [Ov]
open Go.RowKit
theorem zcv{all:List Oper}{o:Oper}{t:Nat}(h:Operand.tmp t∈o.op.operands):t∈tmpsOf all o:=by
 unfold tmpsOf
 refine List.mem_append.2 (.inl (List.mem_filterMap.2 ⟨.tmp t,?_,rfl⟩))
 simpa using h
theorem zmv{all:List Oper}{o:Oper}{j t:Nat}{want:Bool}(H:o.guard=some (j,want))(G:(all[j]?).bind (·.dst)=some t):t∈tmpsOf all o:=by
 unfold tmpsOf
 refine List.mem_append.2 (.inr ?_)
 rw[H];simp[G]
section
variable {P:Program} {X:Nat->Prop} {w0:Base} {st:St} {β:Nat->Value} {a0:Act} {w00:World} {all:List Oper} {ss:List Sym}
theorem zkn(h:zb7 all=true){i:Nat}{o:Oper}(hi:all[i]?=some o):(∀ e∈o.after.toList,Region.binds .any e=true->e.on<i)/\(∀ t,o.dst=some t->t∉tmpsOf all o):=by
 unfold zb7 at h
 have H:(o,i)∈all.zipIdx:=by rw[List.mem_zipIdx_iff_getElem?];exact hi
 have:=(List.all_eq_true.1 h) _ H
 simp only[Bool.and_eq_true] at this
 obtain⟨⟨G,h2⟩,_⟩:=this
 constructor
 .intro e F hb
  unfold ygf at G;have:=(List.all_eq_true.1 G) e F
  simpa[hb] using this
 .intro t ht
  unfold ylb at h2;rw[ht] at h2;simpa using h2
theorem zcg(h:zb7 all=true){i j:Nat}{x y:Oper}(hi:all[i]?=some x)(F:all[j]?=some y)(H:i<j):
  (∀ t,x.dst=some t->(t∈tmpsOf all y->bound y i=true)/\y.dst≠some t)/\(∀ t,y.dst=some t->t∈tmpsOf all x->bound y i=true):=by
 unfold zb7 at h
 have E:(y,j)∈all.zipIdx:=by rw[List.mem_zipIdx_iff_getElem?];exact F
 have G:(x,i)∈all.zipIdx:=by rw[List.mem_zipIdx_iff_getElem?];exact hi
 have K:=(List.all_eq_true.1 h) _ E
 simp only[Bool.and_eq_true] at K
 have h2:=(List.all_eq_true.1 K.2) _ G
 simp only[H,decide_true,Bool.not_true,Bool.false_or] at h2
 unfold yla at h2
 simp only[Bool.and_eq_true] at h2
 constructor
 .intro t J
  have L:=h2.1;rw[J] at L;simp only[Bool.and_eq_true,Bool.or_eq_true,Bool.not_eq_true',bne_iff_ne] at L;refine⟨λhmem=>?_,L.2⟩
  rcases L.1 with M | M
  .rw[List.contains_iff_mem.2 hmem] at M;cases M
  .exact M
 .intro t J hmem
  have L:=h2.2;rw[J] at L;simp only[Bool.or_eq_true,Bool.not_eq_true'] at L;rcases L with M | M
  .rw[List.contains_iff_mem.2 hmem] at M;cases M
  .exact M
theorem zfw{o:Oper}{j:Nat}(h:bound o j=true):∃ e∈o.after.toList,Region.binds .any e=true/\e.on=j:=by
 unfold bound at h
 obtain⟨e,H,h⟩:=List.any_eq_true.1 h
 simp at h
 exact⟨e,H,h.1,h.2⟩
theorem ygg(B:zb7 all=true)(hm:Mods X w0 st β a0 w00)(H7:Chain P all all ss st){listed:Array Bool}{a:Act}{w:World}(hh:Half P X all ss st β a0 w00 listed a w)
  {i:Nat} {o:Oper} (hi:all[i]?=some o) (J:listed.getD i true=false) (E:∀ e∈o.after.toList,Region.binds .any e=true->listed.getD e.on false=true) {N:Act->World->Prop} {Q:Exit->Act->World->Prop}
  (hN:∀ a' w',Half P X all ss st β a0 w00 (listed.setIfInBounds i true) a' w'->N a' w'):wpOp P all.toArray Q i N a w:=by
 have I:=zeh H7
 obtain⟨s,hs,hd,H⟩:=zkm H7 hi
 have T:i<all.length:=(List.getElem?_eq_some_iff.1 hi).1
 generalize H8:puts (all.take i) (ss.take i) st=sti at H
 obtain⟨ho,hn,hx⟩:=zg9 (all.take i) (ss.take i) st
 rw[H8] at ho hn hx
 -- what the slots that it looks at hold
 have K:∀ t∈tmpsOf all o,∀ s',zac sti.slots t=some s'->Sym.lo st.next s'/\Sm w (Ex X β st.own) β s' (a.tmps.getD t undef):=by
  intro t ht s' V;rw[<-H8] at V;rcases zok (l:=all.take i) (ss:=ss.take i) (st:=st) (t:=t) (by simp[I]) with⟨j,y,sj,h1,h2,h3,h4⟩ | ⟨h1,h2⟩
  .rw[h4] at V;cases V
   have S:j<i:=by
    rcases Nat.lt_or_ge j i with h | h
    .exact h
    .rw[List.getElem?_take,if_neg (by omega)] at h1;cases h1
   rw[List.getElem?_take,if_pos S] at h1;rw[List.getElem?_take,if_pos S] at h2;have hb:=((zcg B h1 hi S).1 t h3).1 ht;obtain⟨e,he,O,W⟩:=zfw hb;have hl:=E e he O;rw[W] at hl;have H0:listed.getD j true=true:=by
    have G:j<listed.size:=by rw[hh.size];omega
    simp[Array.getD,G] at hl ⊢;exact hl
   exact hh.done j y t s' h1 H0 h3 h2
  .rw[h2] at V
   have Y:a.tmps.getD t undef=a0.tmps.getD t undef:=by
    refine hh.rest t λj y hj F M=>?_
    rcases Nat.lt_trichotomy j i with h | h | h
    .exact h1 j y (by rw[List.getElem?_take,if_pos h];exact hj) M
    .subst h;rw[J] at F;cases F
    .have hb:=(zcg B hi hj h).2 t M ht
     obtain⟨e,he,O,W⟩:=zfw hb;have:=hh.down j y hj F e he O
     rw[W] at this;have G:i<listed.size:=by rw[hh.size];exact T
     simp[Array.getD,G] at this J;rw[this] at J;cases J
   rw[Y];have:=hm.slots t s' V
   exact⟨this.1,Sm.over (m:=st.next) (λ_ _=>rfl) (Over.of_below hh.below _) this.1 this.2⟩
 -- a state for it
 let st':St:={st with slots:=seen all o sti}
 have Hb:Mods X w0 st' β a w:=by
  refine⟨hm.outer,hm.still,hm.one,hh.defers.trans hm.defers,hh.tmps,hm.below.next hh.below,hm.keys,?_,hm.apart,?_⟩
  .intro id ob L
   obtain⟨q1,q2,q3⟩:=hm.own id ob L;exact⟨q1,q2,zdi.over (m:=st.next) (λ_ _=>rfl) (Over.of_below hh.below _) q1 q2 (λb hb=>hh.below.block b (hm.lt b (.inr ⟨id,ob,L,hb⟩))) q3⟩
  .intro t s' ht
   obtain⟨q1,q2⟩:=zfv ht;exact K t q1 s' q2
 have H1:∀ x∈o.op.operands,sti.val x=st'.val x:=by
  intro x Hc;cases x with
  |tmp t=>
   simp only[St.val];have L:t∈tmpsOf all o:=zcv Hc
   cases hl:zac sti.slots t with
   |some s'=>
    have:zac st'.slots t=some s':=zol L hl
    rw[this]
   |none=>
    cases H0:zac st'.slots t with
    |none=>rfl
    |some s'=>have:=(zfv H0).2;rw[hl] at this;cases this
  |_=>rfl
 have Z:sti.look=st'.look:=by funext id;simp only[St.look,ho];rfl
 -- behind it
 have after:∀ v w',Below w.heap.size w w'->Sym.lo st.next s->Sm w' (Ex X β st.own) β s v->Half P X all ss st β a0 w00 (listed.setIfInBounds i true) (a.put o.dst v) w':=by
  intro v w' hb Hd H2;have H9:=zbq hd;have He:Over w (Ex X β st.own) w' (Ex X β st.own):=Over.of_below hb _
  have C:∀ j,(listed.setIfInBounds i true).getD j true=if j=i then true else listed.getD j true:=by
   intro j;by_cases e:j=i
   .subst e
    have G:j<listed.size:=by rw[hh.size];exact T
    simp[Array.getD,G]
   .simp only[e,if_false]
    by_cases G:j<listed.size
    .simp[Array.getD,G,Array.getElem_setIfInBounds,Ne.symm e]
    .simp[Array.getD,G]
  have Ha:∀ j,listed.getD j false=true->(listed.setIfInBounds i true).getD j false=true:=by
   intro j hj;by_cases G:j<listed.size
   .simp[Array.getD,G,Array.getElem_setIfInBounds] at hj ⊢;right;exact hj
   .simp[Array.getD,G] at hj
  refine⟨by simp[hh.size],by cases o.dst <;> exact hh.defers,by rw[<-hh.tmps];cases o.dst <;> simp[Act.put],hh.below.trans (hb.mono hh.below.size),?_,?_,?_⟩
  .intro j y hj F e he O
   rw[C] at F;by_cases e':j=i
   .subst e';rw[hi] at hj;cases hj;exact Ha _ (E e he O)
   .simp only[e',if_false] at F;exact Ha _ (hh.down j y hj F e he O)
  .intro j y t sj hj F M H3
   rw[C] at F;rw[zyt (λd H4=>by rw[hh.tmps];exact H9 d H4)]
   by_cases e':j=i
   .subst e';rw[hi] at hj;cases hj
    rw[hs] at H3;cases H3;rw[if_pos M];exact⟨Hd,H2⟩
   .simp only[e',if_false] at F
    have H5:¬(o.dst=some t):=by
     intro h;rcases Nat.lt_or_gt_of_ne e' with h' | h'
     .exact((zcg B hj hi h').1 t M).2 h
     .exact((zcg B hi hj h').1 t h).2 M
    rw[if_neg H5];have:=hh.done j y t sj hj F M H3
    exact⟨this.1,Sm.over (m:=st.next) (λ_ _=>rfl) He this.1 this.2⟩
  .intro t ht
   rw[zyt (λd H4=>by rw[hh.tmps];exact H9 d H4)]
   have H5:¬(o.dst=some t):=ht i o hi (by rw[C];simp)
   rw[if_neg H5];exact hh.rest t λj y hj F=>ht j y hj (by rw[C];split;rfl;exact F)
 -- the operation
 have A:(opD sti.val o.op=true/\sopB P sti.look sti.val o.op (λs'=>s'=s))->o.wp P a w N Q:=by
  intro⟨h1,h2⟩;rw[Z] at h2;have h3:=zuh H1 h2;exact zfb Hb o h3 N Q λs' v w' e hl hb H2=>by subst e;exact hN _ _ (after v w' hb hl H2)
 unfold wpOp
 have Hf:all.toArray[i]?=some o:=by simpa using hi
 rw[Hf]
 simp only
 unfold DStep zmu at H
 split at H
 .rename_i hg
  simp only[Region.wanted,hg,if_true];exact .inl (A H)
 .rename_i j want hg
  split at H
  .rename_i t ht
   split at H
   .rename_i b hb
    have H6:t∈tmpsOf all o:=zmv hg ht
    have hv:=(K t H6 _ hb).2;simp only[Sm,R] at hv;have G:t<a.tmps.size:=by
     rcases Nat.lt_or_ge t a.tmps.size with h' | h'
     .exact h'
     .rw[show a.tmps.getD t undef=undef by simp[h']] at hv;simp[undef] at hv
    have hy:yielded all.toArray a.tmps j=some b:=by
     unfold yielded;rw[zea ht];have Hg:a.tmps[t]?=some (.bool b):=by
      rw[Array.getElem?_eq_getElem G];simp[G] at hv;rw[hv]
     simp[Hg]
    simp only[Region.wanted,hg,hy];by_cases e:b=want
    .subst e
     simp only[beq_self_eq_true,if_true];exact .inl (A (H.1 rfl))
    .have e':b = !want:=by cases b <;> cases want <;> simp_all
     have:(some b==some want)=false:=by simp[e]
     simp only[this,Bool.false_eq_true,if_false];have hj:=H.2 e';rw[<-hj] at after;exact hN _ _ (after undef w (Below.refl _ _) (by simp[Sym.lo]) (by simp[Sm,R]))
   .rename_i v hb
    have H6:t∈tmpsOf all o:=zmv hg ht
    have hv:=(K t H6 _ hb).2;obtain⟨rfl,hj⟩:=H;simp only[Sm,R] at hv;have hy:yielded all.toArray a.tmps j=none:=zdw (zea ht) hv
    simp only[Region.wanted,hg,hy];have:((none:Option Bool)==some want)=false:=rfl
    simp only[this,Bool.false_eq_true,if_false];rw[<-hj] at after;exact hN _ _ (after undef w (Below.refl _ _) (by simp[Sym.lo]) (by simp[Sm,R]))
   .exact H.elim
  .exact H.elim
theorem zfi(F:zb7 all=true){listed:Array Bool}(K:listed.size=all.length)(J:Region.ready .any all.toArray listed=[]):∀ i,i<all.length->listed.getD i true=true:=by
 intro i
 induction i using Nat.strongRecOn with
 |_ i ih=>
  intro hi;by_cases h:listed.getD i true=true
  .exact h
  .exfalso
   have L:listed.getD i true=false:=by simpa using h
   have H:i∈Region.ready .any all.toArray listed:=by
    unfold Region.ready;refine List.mem_filter.2 ⟨by simpa using hi,?_⟩
    have M:all.toArray[i]?=some all[i]:=by simp[hi]
    rw[L,M];simp only[Bool.not_false,Bool.true_and,Option.map_some,Option.getD_some];rw[Array.all_eq_true'];intro e O;by_cases Q:Region.binds .any e=true
    .have E:=(zkn F (List.getElem?_eq_getElem hi)).1 e (by simpa using O) Q
     have:=ih e.on E (by omega)
     have G:e.on<listed.size:=by omega
     simp[Array.getD,G] at this ⊢;right;exact this
    .simp[Q]
   rw[J] at H;cases H
theorem z2c(M:zb7 all=true)(O:Mods X w0 st β a0 w00)(K:Chain P all all ss st){listed:Array Bool}{a:Act}{w:World}(Q:Half P X all ss st β a0 w00 listed a w)
  (G:∀ i,i<all.length->listed.getD i true=true):Mods X w0 (puts all ss st) β a w:=by
 have F:=zeh K
 obtain⟨T,V,Y,J,L⟩:=zg9 all ss st
 have E:Over w00 (Ex X β st.own) w (Ex X β st.own):=Over.of_below Q.below _
 refine⟨O.outer,by rw[J,Y,L];exact O.still,O.one,Q.defers.trans O.defers,by rw[V];exact Q.tmps,O.below.next Q.below,by rw[T];exact O.keys,?_,by rw[T];exact O.apart,?_⟩
 .rw[T,Y]
  intro id ob H;obtain⟨q1,q2,q3⟩:=O.own id ob H;exact⟨q1,q2,zdi.over (m:=st.next) (λ_ _=>rfl) E q1 q2 (λb Z=>Q.below.block b (O.lt b (.inr ⟨id,ob,H,Z⟩))) q3⟩
 .rw[T,Y]
  intro t s A;rcases zok (l:=all) (ss:=ss) (st:=st) (t:=t) F with⟨i,o,s',B,h2,C,I⟩ | ⟨B,h2⟩
  .rw[I] at A;cases A
   exact Q.done i o t s B (G i (List.getElem?_eq_some_iff.1 B).1) C h2
  .rw[h2] at A
   rw[Q.rest t (λi o hi _=>B i o hi)]
   have:=O.slots t s A
   exact⟨this.1,Sm.over (m:=st.next) (λ_ _=>rfl) E this.1 this.2⟩
theorem z2d(H:zb7 all=true)(T:Mods X w0 st β a0 w00)(E:Chain P all all ss st){Q:Exit->Act->World->Prop}
  (V:∀ a w,Mods X w0 (puts all ss st) β a w->Q .normal a w):∀ (fuel:Nat) (listed:Array Bool) (a:Act) (w:World),(listed.toList.filter (!·)).length<=fuel->Half P X all ss st β a0 w00 listed a w ->
  wpAny P .any all.toArray Q fuel listed a w
 |0,listed,a,w,Y,Z=>by
  have G:∀ i,i<all.length->listed.getD i true=true:=by
   intro i hi;have K:i<listed.size:=by rw[Z.size];exact hi
   by_cases h:listed[i]=true
   .simp[Array.getD,K,h]
   .exfalso
    have J:listed[i]∈listed.toList.filter (!·):=List.mem_filter.2 ⟨by simp,by simpa using h⟩
    have:=List.length_pos_of_mem J
    omega
  refine⟨?_,V a w (z2c H T E Z G)⟩
  unfold Region.ready;rw[List.filter_eq_nil_iff];intro i hi;rw[G i (by simpa using hi)]
  simp
 |fuel+1,listed,a,w,Y,Z=>by
  refine⟨λA=>V a w (z2c H T E Z (zfi H Z.size A)),λi hi=>?_⟩
  unfold Region.ready at hi;obtain⟨L,hi⟩:=List.mem_filter.1 hi;simp only[Bool.and_eq_true,Bool.not_eq_true'] at hi;obtain⟨F,hi⟩:=hi;cases B:all.toArray[i]? with
  |none=>rw[B] at hi;simp at hi
  |some o=>
   rw[B] at hi;simp only[Option.map_some,Option.getD_some] at hi;have M:i<all.length:=by simpa using L
   have K:i<listed.size:=by rw[Z.size];exact M
   refine ygg H T E Z (by simpa using B) F ?_ λa' w' hh'=>z2d H T E V fuel _ a' w' ?_ hh'
   .intro e C hb
    rw[Array.all_eq_true'] at hi;have:=hi e (by simpa using C)
    simpa[hb] using this
   .have O:listed[i]=false:=by simpa[Array.getD,K] using F
    have key:∀ (l:List Bool) (i:Nat) (h:i<l.length),l[i]=false->((l.set i true).filter (!·)).length+1=(l.filter (!·)).length:=by
     intro l;induction l with
     |nil=>intro i h;simp at h
     |cons x r ih=>
      intro i h I;cases i with
      |zero=>simp at I;subst I;simp
      |succ i=>
       have:=ih i (by simpa using h) (by simpa using I)
       simp only[List.set_cons_succ,List.filter_cons];split <;> simp[this]
    have:=key listed.toList i (by simpa using K) (by simpa using O)
    rw[Array.toList_setIfInBounds];omega
theorem z6f{id:Nat}(H:P.follows .mixedOrders=true)(F:zb7 all=true){Q:DE->St->Prop}(h:zuf P all all st (Q .normal)):Triple P (.region id all.toArray true) Q st:=by
 intro X w0 β a w J
 obtain⟨ss,E,L⟩:=zug h
 refine wp_region_any H ?_
 have G:Mods X w0 st β a {w with drawn:=w.drawn+1}:=by
  have M:Below w.heap.size w {w with drawn:=w.drawn+1}:=⟨⟨rfl,rfl,rfl,Nat.le_refl _,λ_ _=>rfl⟩,λ_=>Nat.le_succ _⟩
  have:=J.put M (dst:=none) (s:=.junk) (v:=undef) (by simp) (by simp[Sym.lo]) (by simp[Sm])
  simpa[St.put,Act.put] using this
 refine z2d F G E (λa w K=>⟨.normal,_,β,trivial,L,K⟩) _ _ a _ ?_ ?_
 .simp
 .have O:∀ i,(Array.replicate all.toArray.size false).getD i true=true->¬i<all.length:=by
   intro i h hi;simp[Array.getD,hi] at h
  refine⟨by simp,rfl,G.size,Below.refl _ _,?_,?_,λ_ _=>rfl⟩
  .intro i o hi T
   exact absurd (List.getElem?_eq_some_iff.1 hi).1 (O i T)
  .intro i o t s hi T
   exact absurd (List.getElem?_eq_some_iff.1 hi).1 (O i T)
end
end Go.V
namespace Go.V
variable [Dr] [Ov]
open Go.RowKit
def ymy(P:Program)(all r:List Oper)(K:St->Prop):St->Prop:=λst=>dops P all r st K
def yoo(P:Program)(all r:List Oper)(dst:Option Tmp)(st:St)(K:St->Prop):Sym->Prop:=λs=>zuf P all r (st.put dst s) K
def yop(P:Program)(all r:List Oper)(dst:Option Tmp)(st:St)(K:St->Prop):Sym->Prop:=z9f (guards all dst) λs=>zuf P all r (st.put dst s) K
def ypi:Op->Bool
 |.call c=>match c.callee with
  |.builtin .copy=>true
  |.builtin .append=>true
  |.builtin .clear=>true
  |_=>false
 |.store _ _ _=>true
 |.box _ _=>true
 |.alloc _=>true
 |.makeSlice _ _ _=>true
 |.makeMap _ _=>true
 |.range _ _=>true
 |.next _ _=>true
 |.mapUpdate _ _ _ _=>true
 |_=>false
def ymz(o:Oper):Bool:=Nat.beq o.type 0&&(match o.op with
 |.call {callee:=.value _,args:=_,argTypes:=_}=>true
 |_=>false)
def ygh(ops:List Oper):Bool:=zb7 ops && !(ops.any λo=>ypi o.op || ymz o)
theorem yj1{ops:List Oper}(h:ygh ops=true):zb7 ops=true:=by
 unfold ygh at h;rw[Bool.and_eq_true] at h;exact h.1
def ev(P:Program):Code->(DE->St->Prop)->St->Prop
 |.skip,Q,st=>Q .normal st
 |.region id ops draw,Q,st=>if draw=true then (if ygh ops.toList=true then zuf P ops.toList ops.toList st (Q .normal) else Triple P (.region id ops true) Q st)
  else dops P ops.toList ops.toList st (Q .normal)
 |.seq x y,Q,st=>ev P x (zog (λst'=>ev P y Q st') Q) st
 |.cond c x y,Q,st=>match st.val c with
  |.d (.bool b)=>(b=true->ev P x Q st)/\(b=false->ev P y Q st)
  |_=>False
 |.block id c,Q,st=>ev P c (zb9 id Q) st
 |.exit id,Q,st=>Q (.exit id) st
 |.ret,Q,st=>Q .ret st
 |.loop c,Q,st=>Triple P (.loop c) Q st
 |.scope c,Q,st=>ev P c Q st
 |.label _,Q,st=>Q .normal st
 |c,Q,st=>Triple P c Q st
def evK(P:Program)(y:Code)(Q:DE->St->Prop):DE->St->Prop:=zog (λst=>ev P y Q st) Q
def yj2(Q:DE->St->Prop):St->Prop:=λst=>Q .normal st
section
variable {P:Program} {X:Nat->Prop} {w0:Base} {st:St} {β:Nat->Value} {a:Act} {w w':World}
theorem zas(H:P.follows .mixedOrders=true):∀ {c:Code} {Q:DE->St->Prop} {st:St},ev P c Q st->Triple P c Q st
 |.skip,Q,st,h=>zc7 (c:=.skip) h
 |.region id ops draw,Q,st,h=>by
  simp only[ev] at h;split at h
  .rename_i e;subst e
   split at h
   .rename_i F
    have:=z6f (id:=id) H (yj1 F) h
    simpa using this
   .exact h
  .rename_i e
   have e:draw=false:=by simpa using e
   subst e;exact zc7 (c:=.region id ops false) (by simpa[zue] using h)
 |.seq x y,Q,st,h=>by
  simp only[ev] at h;intro X w0 β a w E;refine wp_seq (wp_mono (zas H h X w0 β a w E) ?_)
  rintro e a' w' ⟨de,st',β',K,J,G⟩
  cases e <;> cases de <;> simp only[exM] at K
  .exact zas H J X w0 β' a' w' G
  .subst K;exact⟨.exit _,st',β',rfl,J,G⟩
  .exact⟨.ret,st',β',trivial,J,G⟩
 |.cond c x y,Q,st,h=>by
  simp only[ev] at h;intro X w0 β a w E;split at h
  .rename_i b hb
   have L:=(E.val c).2;rw[hb] at L;simp only[Sm,R] at L;refine wp_cond L ?_
   cases b
   .exact zas H (h.2 rfl) X w0 β a w E
   .exact zas H (h.1 rfl) X w0 β a w E
  .exact h.elim
 |.block id c,Q,st,h=>by
  simp only[ev] at h;intro X w0 β a w E;refine wp_block (wp_mono (zas H h X w0 β a w E) ?_)
  rintro e a' w' ⟨de,st',β',K,J,G⟩
  cases e <;> cases de <;> simp only[exM] at K
  .exact⟨.normal,st',β',trivial,J,G⟩
  .subst K
   simp only[zb9] at J;simp only[Exit.inBlock];split
   .rename_i e;rw[if_pos e] at J;exact⟨.normal,st',β',trivial,J,G⟩
   .rename_i e;rw[if_neg e] at J;exact⟨.exit _,st',β',rfl,J,G⟩
  .exact⟨.ret,st',β',trivial,J,G⟩
 |.exit id,Q,st,h=>zc7 (c:=.exit id) h
 |.ret,Q,st,h=>zc7 (c:=.ret) h
 |.loop c,Q,st,h=>h
 |.rangeFunc ..,Q,st,h=>h
 |.scope c,Q,st,h=>by
  simp only[ev] at h;intro X w0 β a w E;refine wp_scope_straight (wp_mono (zas H h X w0 β a w E) ?_)
  rintro e a' w' ⟨de,st',β',K,J,G⟩
  cases e <;> first | (cases de <;> exact K.elim) | exact⟨de,st',β',K,J,G⟩
 |.label l,Q,st,h=>λX w0 β a w E=>wp_label ⟨.normal,st,β,trivial,h,E⟩
 |.goto ..,Q,st,h=>h
 |.refuse ..,Q,st,h=>h
theorem zae(E:P.follows .mixedOrders=true){α:Type}{c:Code}{Q:DE->St->Prop}(S:α->St)(inv:α->Prop)(μ:α->Nat)(x0:α)(Y:inv x0)(Z:Weak st (S x0))
  (A:∀ x,inv x->ev P c (afterLoop S inv μ x Q) (S x)):Triple P (.loop c) Q st:=by
 intro X w0 β a w B
 let I:Nat->Act->World->Prop:=λn a w=>∃ x β,inv x/\μ x=n/\Mods X w0 (S x) β a w
 have key:∀ a w,(∃ n,I n a w)->∃ n,I n a w/\∀ m,I m a w->n<=m:=by
  intro a w ⟨n,C⟩;induction n using Nat.strongRecOn with
  |_ n ih=>
   by_cases h:∃ m,m<n/\I m a w
   .obtain⟨m,N,h2⟩:=h;exact ih m N h2
   .exact⟨n,C,λm B=>by rcases Nat.lt_or_ge m n with W | W;exact absurd ⟨m,W,B⟩ h;exact W⟩
 classical
 let M:Act->World->Nat:=λa w=>if h:∃ n,I n a w then Classical.choose (key a w h) else 0
 refine wp_loop (λa w=>∃ n,I n a w) M ⟨_,x0,β,Y,rfl,B.weak Z⟩ ?_
 intro a w hI
 have G:=Classical.choose_spec (key a w hI)
 have hM:M a w=Classical.choose (key a w hI):=dif_pos hI
 rw[<-hM] at G
 obtain⟨⟨x,β',hx,hμ,L⟩,O⟩:=G
 refine wp_mono (zas E (A x hx) X w0 β' a w L) ?_
 rintro e a' w' ⟨de,st',β'',he,hq,H⟩
 cases e <;> cases de <;> simp only[exM] at he
 .obtain⟨y,hy,V,K⟩:=hq
  have F:∃ n,I n a' w':=⟨μ y,y,β'',hy,rfl,H.weak K⟩
  refine⟨F,?_⟩
  have J:=Classical.choose_spec (key a' w' F);have T:M a' w'=Classical.choose (key a' w' F):=dif_pos F
  rw[<-T] at J;have:=J.2 (μ y) ⟨y,β'',hy,rfl,H.weak K⟩
  omega
 .subst he;exact⟨.exit _,st',β'',rfl,hq,H⟩
 .exact⟨.ret,st',β'',trivial,hq,H⟩
theorem zab(F:P.follows .mixedOrders=true){f:Nat}{fn:Func}{c:Code}(K:P.funcs[f]?=some fn)(J:fn.body=some c)(G:callable P f=true){args:List D}{r:D}
  (h:ev P c (zy1 (zvm P fn.results.toList r)) (zgu fn.ntmps args)):zan P f args r:=by
 refine⟨G,λw E vs L M=>?_⟩
 refine calls_of_wp K J ?_
 refine wp_mono (zas F h E (.of w) _ _ w (Mods.init L M)) ?_
 rintro e a' w' ⟨de,st',β',O,Q,H⟩
 cases e <;> cases de <;> simp only[exM] at O
 .obtain⟨v,T,h2⟩:=zdq H Q
  exact⟨H.defers,v,T,v,rfl,H.below.below,h2⟩
 .exact Q.elim
 .obtain⟨v,T,h2⟩:=zdq H Q
  exact⟨H.defers,v,T,v,rfl,H.below.below,h2⟩
def resE(P:Program)(rs:List ResultVar)(Φ:D->Prop)(st:St):Prop:=∃ r,Φ r/\zvm P rs r st
theorem za3(F:P.follows .mixedOrders=true){f:Nat}{fn:Func}{c:Code}(K:P.funcs[f]?=some fn)(J:fn.body=some c)(G:callable P f=true){args:List D}{Φ:D->Prop}
  (h:ev P c (zy1 (resE P fn.results.toList Φ)) (zgu fn.ntmps args)):zf7 P f args Φ:=by
 refine⟨G,λw E vs L M=>?_⟩
 refine calls_of_wp K J ?_
 refine wp_mono (zas F h E (.of w) _ _ w (Mods.init L M)) ?_
 rintro e a' w' ⟨de,st',β',O,Q,H⟩
 cases e <;> cases de <;> simp only[exM] at O
 .obtain⟨r,hΦ,Q⟩:=Q
  obtain⟨v,T,h2⟩:=zdq H Q;exact⟨H.defers,v,T,v,r,rfl,H.below.below,hΦ,h2⟩
 .exact Q.elim
 .obtain⟨r,hΦ,Q⟩:=Q
  obtain⟨v,T,h2⟩:=zdq H Q;exact⟨H.defers,v,T,v,r,rfl,H.below.below,hΦ,h2⟩
theorem zi3(K:P.follows .mixedOrders=true){f:Nat}{fn:Func}{c:Code}(M:P.funcs[f]?=some fn)(O:fn.body=some c)(G:callable P f=true){args:List D}{T sz:Nat}{rows:List (List D)}(F:∀ r∈rows,r.length=sz)
  (h:ev P c (zy1 (resF fn.results.toList T sz rows)) (zgu fn.ntmps args)):zua P f args T sz rows:=by
 refine⟨G,F,λw E vs Q V=>?_⟩
 refine calls_of_wp M O ?_
 refine wp_mono (zas K h E (.of w) _ _ w (Mods.init Q V)) ?_
 have fin:∀ {st' β' a' w'},Mods E (.of w) st' β' a' w'->resF fn.results.toList T sz rows st'->a'.defers=[]/\∃ v,(results fn a'.tmps).run P w' = .ok v w' /\
   ∃ u xs,Ending.returned v = .returned u/\Below w.heap.size w w'/\w'.ownsRow w.heap.size T sz u rows.length xs/\(∀ b,blk u=some b->zcz w' b)/\zah w' (λb=>E b\/blk u=some b) rows.flatten xs:=by
  intro st' β' a' w' H X;unfold resF at X;split at X
  .rename_i t L
   split at X
   .rename_i id hs
    split at X
    .rename_i T' sz' rows' J
     obtain⟨rfl,rfl,rfl⟩:=X;obtain⟨_,_,xs,q1,q2,q3⟩:=H.obj J;have Y:=(H.slots t _ hs).2;simp only[Sm] at Y;refine⟨H.defers,β' id,?_,β' id,xs,rfl,H.below.below,q1.row (λb O=>O.elim (λh=>h) (λh=>h.elim)),λb O=>(q1.2 b O).2,zah.over (Over.less ?_) _ _ q2⟩
     .have:fn.results = #[.tmp t]:=by
       have:=congrArg List.toArray L;simpa using this
      rw[results_tmp this,Y]
     .rintro b (h | h)
      .exact .inl h
      .exact .inr ⟨id,_,za0 J,h⟩
    .exact X.elim
   .exact X.elim
  .exact X.elim
 rintro e a' w' ⟨de,st',β',Z,X,H⟩
 cases e <;> cases de <;> simp only[exM] at Z
 .exact fin H X
 .exact X.elim
 .exact fin H X
theorem zai.pure{f:Operand}{xs:List Operand}{dst:Option Tmp}{K:St->Prop}{g:Nat}{ds:List D}{lent:Bool}{r:D}(H:zd8 st f xs=some (g,ds,lent))(G:zan P g ds r)
  (hs:lent=true->r.scalar=true) (F:K (st.put dst (.d r))):zai P st f xs dst K:=by
 unfold zai zl4;left;rw[H];exact .inl ⟨r,G,λe=>.inl (hs e),F⟩
theorem zai.fresh{f:Operand}{xs:List Operand}{dst:Option Tmp}{K:St->Prop}{g:Nat}{ds:List D}{lent:Bool}{T sz:Nat}{rows:List (List D)}(H:zd8 st f xs=some (g,ds,lent))(G:zua P g ds T sz rows)
  (hs:lent=true->D.scalars rows.flatten=true) (F:K ((st.new (.arr T sz rows)).put dst (.ar st.next))):zai P st f xs dst K:=by
 unfold zai zl4;left;rw[H];exact .inr ⟨T,sz,rows,G,hs,F⟩
theorem zai.frozen{f:Operand}{xs:List Operand}{dst:Option Tmp}{K:St->Prop}(h:zl4 P (st.frzs (zf2 (xs.map st.val))) f xs dst K):zai P st f xs dst K:=.inr (.inl h)
theorem zai.mut{f:Operand}{xs:List Operand}{dst:Option Tmp}{K:St->Prop}{g:Nat}{caps:List Sym}(ids:List Nat)(args0:List Sym)(own0:List (Nat×Obj')){s:Sym}{nx:Nat}{own':List (Nat×Obj')}{mv:List Nat}
  (H:zbm (st.val f)=some (g,caps)) (G:rens (rho ids) args0=xs.map st.val++caps) (F:Sym.los ids.length args0) (E:Fits st ids own0) (J:zbl P g args0 own0 ids.length s nx own' mv)
  (L:K ((st.after ids nx own' mv).put dst (ren (rho' ids st.next) s))):zai P st f xs dst K:=.inr (.inr (.inl ⟨g,caps,ids,args0,own0,s,nx,own',mv,H,G,F,E,J,L⟩))
theorem zai.some{f:Operand}{xs:List Operand}{dst:Option Tmp}{K:St->Prop}{g:Nat}{ds:List D}{lent:Bool}{Φ:D->Prop}(H:zd8 st f xs=some (g,ds,lent))(G:zf7 P g ds Φ)
  (F:∀ r,Φ r->(lent=true->r.scalar=true)/\K (st.put dst (.d r))):zai P st f xs dst K:=by
 refine .inr (.inr (.inr (.inr (.inl ?_))))
 unfold z9e;rw[H];exact⟨Φ,G,F⟩
end
section
variable {P:Program} {st:St} {Q:DE->St->Prop} {K:St->Prop} {all r:List Oper}
theorem ym0:ev P .skip Q st=Q .normal st:=rfl
theorem ygi(id:Nat)(ops:List Oper):ev P (.region id ops.toArray false) Q st=dops P ops ops st (yj2 Q):=by simp[ev];rfl
theorem ym1(id:Nat)(ops:List Oper)(h:ygh ops=true):ev P (.region id ops.toArray true) Q st=zuf P ops ops st (yj2 Q):=by simp[ev,h];rfl
theorem yj3(id:Nat)(ops:List Oper)(h:ygh ops=false):ev P (.region id ops.toArray true) Q st=Triple P (.region id ops.toArray true) Q st:=by simp[ev,h]
theorem yoq(x y:Code):ev P (.seq x y) Q st=ev P x (evK P y Q) st:=rfl
theorem ym2(c:Operand)(x y:Code):ev P (.cond c x y) Q st=match st.val c with
  |.d (.bool b)=>(b=true->ev P x Q st)/\(b=false->ev P y Q st)
  |_=>False:=rfl
theorem yj4(id:Nat)(c:Code):ev P (.block id c) Q st=ev P c (zb9 id Q) st:=rfl
theorem ym3(id:Nat):ev P (.exit id) Q st=Q (.exit id) st:=rfl
theorem yor:ev P .ret Q st=Q .ret st:=rfl
theorem yj5(c:Code):ev P (.scope c) Q st=ev P c Q st:=rfl
theorem yj6(l:Nat):ev P (.label l) Q st=Q .normal st:=rfl
theorem ym4(c:Code):ev P (.loop c) Q st=Triple P (.loop c) Q st:=rfl
theorem yb3(y:Code):evK P y Q .normal st=ev P y Q st:=rfl
theorem yj7(y:Code)(i:Nat):evK P y Q (.exit i) st=Q (.exit i) st:=rfl
theorem ym5(y:Code):evK P y Q .ret st=Q .ret st:=rfl
theorem ygj:yj2 Q st=Q .normal st:=rfl
theorem zpz(i:Nat):zb9 i Q .normal st=Q .normal st:=rfl
theorem zvn(i:Nat):zb9 i Q .ret st=Q .ret st:=rfl
theorem zui(i j:Nat):zb9 i Q (.exit j) st=if j=i then Q .normal st else Q (.exit j) st:=rfl
theorem zrr{α:Type}{S:α->St}{inv:α->Prop}{μ:α->Nat}{x:α}:afterLoop S inv μ x Q .normal st = ∃ y,inv y/\μ y<μ x/\Weak st (S y):=rfl
theorem zy2{α:Type}{S:α->St}{inv:α->Prop}{μ:α->Nat}{x:α}:afterLoop S inv μ x Q .ret st=Q .ret st:=rfl
theorem zvo{α:Type}{S:α->St}{inv:α->Prop}{μ:α->Nat}{x:α}(i:Nat):afterLoop S inv μ x Q (.exit i) st=Q (.exit i) st:=rfl
theorem yj8:dops P all [] st K=K st:=rfl
theorem yb4(dst:Option Tmp)(op:Op)(ty:Nat)(pos:String)(after:Array Edge):
  dops P all (⟨dst,op,ty,pos,after,none⟩::r) st K=dop P ⟨dst,op,ty,pos,after,none⟩ st (ymy P all r K):=rfl
theorem yb5(dst:Option Tmp)(op:Op)(ty:Nat)(pos:String)(after:Array Edge)(j:Nat)(want:Bool):
  dops P all (⟨dst,op,ty,pos,after,some (j,want)⟩::r) st K=match (all[j]?).bind (·.dst) with
   |some t=>match zac st.slots t with
    |some (.d (.bool b))=>(b=want->dop P ⟨dst,op,ty,pos,after,some (j,want)⟩ (st.put (some t) (.d (.bool want))) (ymy P all r K)) /\
     (b = !want->dstB dst st.n=true/\dops P all r ((st.put (some t) (.d (.bool !want))).put dst (.d (.val undef))) K)
    |some (.d (.val v))=>v=undef/\dstB dst st.n=true/\dops P all r (st.put dst (.d (.val undef))) K
    |_=>False
   |none=>False:=rfl
theorem ygk:ymy P all r K st=dops P all r st K:=rfl
theorem yj9(dst:Option Tmp)(s:Sym):putK st dst K s=K (st.put dst s):=rfl
theorem ygl:zuf P all [] st K=K st:=rfl
theorem yb6(o:Oper):zuf P all (o::r) st K=(dstB o.dst st.n=true/\zmu P all o st (yop P all r o.dst st K)):=rfl
theorem ygm(dst:Option Tmp)(s:Sym):yop P all r dst st K s=splitB (guards all dst) s (yoo P all r dst st K):=rfl
theorem ygn(dst:Option Tmp)(s:Sym):yoo P all r dst st K s=zuf P all r (st.put dst s) K:=rfl
end
attribute [simp] ziu yj5 yj6 ym0 ygi ym1 yj3 yoq ym2 yj4 ym3 yor ym4 yb3 yj7 ym5 ygj zpz zvn zui zrr zy2 zvo
attribute [simp] yj8 yb4 yb5 ygk yj9 ygl yb6 ygm ygn splitB zmu opD ymx guards
attribute [simp] isNil yf2 ztz resE ziz Value.oneCell' eCap zr6 zr7 zr8 yju zih St.opened
attribute [simp] dop sopB sop zy1 St.val St.put St.look St.new St.set zac aset ofConst dstB slen sbin zpj zpk zk6 zmo zj7 zmn zcs zqs zeg zqr zf6 snil sun zf5 zh4 ziv bnd elemSize ztr headD zve zj6 allD unD
attribute [simp] zgu zlg z5o zvm zwy z15 lend zjm zyp cellsD Weak z6c z6d Sym.lo Sym.los Obj'.lo zbg eBox yfz eNil zlz zt2 zmr zde rowOf rowsOf inOrder yoh zf2 St.frzs St.frz splice St.renew zbz zav za2 zby zb5 zq0 z5t
attribute [simp] yf5 zqv zb3 zgq zj8 zro putD z1c zeroS zes zr5 zie
attribute [simp] z1r yf6 z1p yf4 z5s rowLen
attribute [simp] thaw zfa zkd zcp zcm resF
end Go.V
namespace Go.V
variable [Dr] [Ov]
open Go.RowKit
def zeu:Nat->List Sym->List (Nat×Sym)
 |_,[]=>[]
 |k,d::r=>(k,d)::zeu (k+1) r
def initC(ntmps:Nat)(args:List Sym)(own:List (Nat×Obj'))(n:Nat):St:=
 {n:=args.length+(ntmps-args.length),next:=n,slots:=zeu 0 args,own:=own,base:=n,moved:=[]}
def yka(ti:TI)(l:List Sym):Option Sym:=
 if ti.agg=true then (if ti.size<=l.length then some (zj6 (l.take ti.size)) else none) else l.head?
def zq6(P:Program)(st:St):ResultVar->Option Sym
 |.tmp t=>zac st.slots t
 |.cell ad T=>match zac st.slots ad,TI.of P T with
  |some (.bp id off),some ti=>match st.look id with
   |some (.box _ cells)=>yka ti (cells.drop off)
   |_=>none
  |_,_=>none
def zi4(P:Program)(st:St):List ResultVar->Option (List Sym)
 | []=>some []
 |v::r=>match zq6 P st v,zi4 P st r with
  |some s,some l=>some (s::l)
  |_,_=>none
def tupS:List Sym->Sym
 | [s]=>s
 |l=>.tup l
def resC(P:Program)(rs:List ResultVar)(n:Nat)(s:Sym)(nx:Nat)(own':List (Nat×Obj'))(mv:List Nat)(st:St):Prop:=
 (match zi4 P st rs with | some l=>tupS l=s | none=>False)/\Sym.lo nx s/\Weak st {n:=st.n,next:=nx,slots:=[],own:=own',base:=n,moved:=mv}
theorem zom:∀ {k t:Nat} {l:List Sym} {s:Sym},zac (zeu k l) t=some s->∃ j,t=k+j/\l[j]?=some s
 |k,t,[],s,h=>by simp[zeu,zac] at h
 |k,t,d::r,s,h=>by
  simp only[zeu,zac] at h;split at h
  .rename_i e;simp at h;exact⟨0,by omega,by simp[h]⟩
  .obtain⟨j,H,h2⟩:=zom h
   exact⟨j+1,by omega,by simpa using h2⟩
theorem Sms.get2{w:World}{E:Nat->Prop}{β:Nat->Value}:∀ {l:List Sym} {vs:List Value} {j:Nat} {s:Sym},Sms w E β l vs->l[j]?=some s->∃ v,vs[j]?=some v/\Sm w E β s v
 | [],vs,j,s,h,H=>by simp at H
 |x::r,vs,0,s,h,H=>by
  simp only[Sms] at h;obtain⟨v,vs',rfl,G,h2⟩:=h;simp at H;subst H;exact⟨v,by simp,G⟩
 |x::r,vs,j+1,s,h,H=>by
  simp only[Sms] at h;obtain⟨v,vs',rfl,G,h2⟩:=h;obtain⟨u,q1,q2⟩:=Sms.get2 h2 (by simpa using H)
  exact⟨u,by simpa using q1,q2⟩
theorem ygo{m:Nat}:∀ {l:List Sym} {j:Nat} {s:Sym},Sym.los m l->l[j]?=some s->Sym.lo m s
 | [],j,s,h,H=>by simp at H
 |x::r,0,s,h,H=>by simp only[Sym.los] at h;simp at H;subst H;exact h.1
 |x::r,j+1,s,h,H=>by simp only[Sym.los] at h;exact ygo h.2 (by simpa using H)
section
variable {P:Program} {X:Nat->Prop} {w0:Base} {st:St} {β:Nat->Value} {a:Act} {w w':World}
theorem Mods.initC{own:List (Nat×Obj')}{n:Nat}{args:List Sym}{vs:List Value}{ntmps:Nat}(E:Mods X w0 (zbt own n n []) β act0 w)(hs:Sms w (Ex X β own) β args vs)(K:Sym.los n args):
  Mods X w0 (initC ntmps args own n) β {tmps:=vs.toArray++Array.replicate (ntmps-vs.toArray.size) undef,defers:=[]} w:=by
 have H:=hs.length
 refine⟨E.outer,E.still,E.one,E.defers,by simp[Go.V.initC,H],E.below,E.keys,E.own,E.apart,?_⟩
 intro t s J
 obtain⟨j,L,h2⟩:=zom J
 have e:t=j:=by omega
 subst e
 obtain⟨v,M,F⟩:=hs.get2 h2
 refine⟨ygo K h2,?_⟩
 have G:t<vs.length:=by
  rcases Nat.lt_or_ge t vs.length with h | h
  .exact h
  .simp[h] at M
 have O:(vs.toArray++Array.replicate (ntmps-vs.toArray.size) undef).getD t undef=v:=by
  rw[List.getElem?_eq_getElem G] at M;simp at M
  simp[Array.getElem?_append,G,M]
 rw[O];exact F
theorem z2e(L:Mods X w0 st β a w){v:ResultVar}{s:Sym}(h:zq6 P st v=some s):∃ u,(zoj a.tmps v).run P w = .ok u w/\Sm w (Ex X β st.own) β s u:=by
 cases v with
 |tmp t=>
  simp only[zq6] at h;exact⟨_,rfl,(L.slots t s h).2⟩
 |cell ad T=>
  simp only[zq6] at h;split at h
  .rename_i id off ti hs M
   split at h
   .rename_i T' cells E
    obtain⟨_,K,b,vs,O,F,Q,J,V⟩:=L.obj E;have Y:=(L.slots ad _ hs).2;simp only[Sm] at Y;obtain⟨b',H,Y⟩:=Y;rw[O] at H;simp at H;rw[<-H] at Y;have Z:zve ti (cells.drop off) (λx=>x=s):=by
     unfold yka at h;unfold zve;split at h
     .rename_i hag
      split at h
      .rename_i G
       simp at h
       rw[if_pos hag];exact⟨G,h⟩
      .cases h
     .rename_i hag
      rw[if_neg hag];cases A:cells.drop off with
      |nil=>rw[A] at h;cases h
      |cons x r=>rw[A] at h;simp at h;exact h
    obtain⟨s',u,rfl,_,h2,B⟩:=ztu (P:=P) (m:=st.next) (b:=b) (off:=off) M (Sms.drop off J) (λu C=>V u (List.mem_of_mem_drop C)) (λj u I=>zn4 Q (by simpa[List.getElem?_drop] using I)) (Sym.zn1 off K) Z
    exact⟨u,by simp only[zoj,Y];simpa[asAddr,Instr.loadAt,Instr.sureAddr] using B,h2⟩
   .cases h
  .cases h
theorem zf8(H:Mods X w0 st β a w):∀ {rs:List ResultVar} {l:List Sym},zi4 P st rs=some l->∃ us:List Value,(rs.mapM (zoj a.tmps)).run P w = .ok us w/\Sms w (Ex X β st.own) β l us
 | [],l,h=>by simp[zi4] at h;subst h;exact⟨[],by simp,by simp[Sms]⟩
 |v::r,l,h=>by
  simp only[zi4] at h;split at h
  .rename_i s l' G h2
   simp at h;subst h
   obtain⟨u,e1,e2⟩:=z2e H G;obtain⟨us,q1,q2⟩:=zf8 H h2;refine⟨u::us,?_,by simp only[Sms];exact⟨u,us,rfl,e2,q2⟩⟩
   simp only[List.mapM_cons,Sem.run_bind,e1,Result.andThen_ok,q1];rfl
  .cases h
theorem zwz(J:[]=w0.dfs)(L:Mods X w0 st β a w){fn:Func}{n nx:Nat}{s:Sym}{own':List (Nat×Obj')}{mv:List Nat}(h:resC P fn.results.toList n s nx own' mv st):
  ∃ v,(results fn a.tmps).run P w = .ok v w/\Mods X w0 (zbt own' n nx mv) β act0 w/\Sym.lo nx s/\Sm w (Ex X β own') β s v:=by
 obtain⟨M,h2,O⟩:=h
 have H:=L.weak O
 have F:Mods X w0 (zbt own' n nx mv) β act0 w:=⟨H.outer,H.still,H.one,J,rfl,H.below,H.keys,H.own,H.apart,by intro t s Q;simp[zbt,zac] at Q⟩
 have E:Over w (Ex X β st.own) w (Ex X β own'):=Over.less λb T=>T.elim .inl λ⟨i,x,V,e⟩=>.inr ⟨i,x,za0 (zoh O.2.2.2 V).1,e⟩
 split at M
 .rename_i l Y
  obtain⟨us,q1,q2⟩:=zf8 L Y;have Z:=zgv fn a.tmps q1;refine⟨_,Z,F,h2,?_⟩
  refine zpr (id:=0) (rows:=.bool true) E ?_
  subst M;unfold tupS;split
  .rename_i x
   simp only[Sms] at q2;obtain⟨u,us',rfl,e,rfl⟩:=q2;simpa using e
  .rename_i K
   have G:us.length≠1:=by
    rw[q2.length];intro e;cases l with
    |nil=>simp at e
    |cons d r=>
     cases r with
     |nil=>exact K d rfl
     |cons _ _=>simp at e
   simp only[G];simp only[Sm];exact⟨us,rfl,q2⟩
 .exact M.elim
theorem za6(F:P.follows .mixedOrders=true){f:Nat}{fn:Func}{c:Code}(E:P.funcs[f]?=some fn)(K:fn.body=some c)(H:callable P f=true)
  {args:List Sym} {own:List (Nat×Obj')} {n:Nat} {s:Sym} {nx:Nat} {own':List (Nat×Obj')} {mv:List Nat} (J:Sym.los n args)
  (h:ev P c (zy1 (resC P fn.results.toList n s nx own' mv)) (initC fn.ntmps args own n)):zbl P f args own n s nx own' mv:=by
 refine⟨H,λX w0 β w vs hβ L hs=>?_⟩
 refine calls_of_wp E K ?_
 refine wp_mono (zas F h X w0 _ _ w (L.initC hs J)) ?_
 rintro e a' w' ⟨de,st',β',M,O,G⟩
 cases e <;> cases de <;> simp only[exM] at M
 .obtain⟨v,Q,h2,T,V⟩:=zwz L.defers G O
  exact⟨G.defers.trans L.defers.symm,v,Q,β',v,rfl,h2,T,V⟩
 .exact O.elim
 .obtain⟨v,Q,h2,T,V⟩:=zwz L.defers G O
  exact⟨G.defers.trans L.defers.symm,v,Q,β',v,rfl,h2,T,V⟩
def frzR(ids:List Nat)(Q:St->Prop):St->Prop:=λst=>Q (st.frzs ids)
theorem zbp(F:P.follows .mixedOrders=true){f:Nat}{fn:Func}{c:Code}(K:P.funcs[f]?=some fn)(J:fn.body=some c)(G:callable P f=true){args:List D}{r:D}(ids:List Nat)
  (h:ev P c (zy1 (frzR ids (zvm P fn.results.toList r))) (zgu fn.ntmps args)):zan P f args r:=by
 refine⟨G,λw E vs L M=>?_⟩
 refine calls_of_wp K J ?_
 refine wp_mono (zas F h E (.of w) _ _ w (Mods.init L M)) ?_
 rintro e a' w' ⟨de,st',β',O,Q,H⟩
 cases e <;> cases de <;> simp only[exM] at O
 .obtain⟨v,T,h2⟩:=zdq (H.frzs (l:=ids)) Q
  exact⟨H.defers,v,T,v,rfl,H.below.below,h2⟩
 .exact Q.elim
 .obtain⟨v,T,h2⟩:=zdq (H.frzs (l:=ids)) Q
  exact⟨H.defers,v,T,v,rfl,H.below.below,h2⟩
end
theorem zaa{P:Program}{look:Nat->Option Obj'}{c:Sym}{args:List Sym}{k:Sym->Prop}{f:Nat}{caps:List Sym}{ds:List D}{lent:Bool}{r:D}(H:zbm c=some (f,caps))(G:zjm look (args++caps)=some (ds,lent))(F:zan P f ds r)
  (hs:lent=true->r.scalar=true) (E:k (.d r)):zn0 P look c args k:=by
 unfold zn0 zqu
 rw[H]
 dsimp only
 rw[G]
 exact⟨r,F,λe=>.inl (hs e),E⟩
attribute [simp] frzR initC zeu resC zq6 zi4 tupS yka St.after rho rho' zkj zfc ren rens zet za8 zc3 zif zc6 Fits zt6 zbm
end Go.V

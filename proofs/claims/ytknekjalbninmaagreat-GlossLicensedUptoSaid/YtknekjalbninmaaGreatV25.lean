/- A program logic of my own over the kit: part V25. It needs no conditions. -/
import Derived.Test.YtknekjalbninmaaGreatV10
import Derived.Orders
set_option linter.unusedVariables false
set_option linter.unusedSimpArgs false
set_option linter.unusedSectionVars false
namespace Go.V
variable [Dr] [Ov]
open Go.RowKit
def lz{α:Type}(f:α->Prop):α->Prop:=f
def lz2{α β:Type}(f:α->β->Prop):α->β->Prop:=f
@[congr] theorem zk5{α:Type}(f:α->Prop):lz f=lz f:=rfl
@[congr] theorem zk3{α β:Type}(f:α->β->Prop):lz2 f=lz2 f:=rfl
def uC(P:Program)(f:Nat)(args:List D)(T sz:Nat)(rows:List (List D)):Prop:=
 callable P f=true/\(∀ r∈rows,r.length=sz)/\∀ (w:World) (E:Nat->Prop) (vs:List Value),Seen w E->zH w E args vs ->
  Calls P f vs.toArray w λe w'=>∃ v xs,e = .returned v/\Below w.heap.size w w'/\w'.ownsRow w.heap.size T sz v rows.length xs/\(∀ b,blk v=some b->xF w' b)/\zi w' (λb=>E b\/blk v=some b) rows.flatten xs
def xU(P:Program)(f:Nat)(args:List D)(Φ:D->Prop):Prop:=
 callable P f=true/\∀ (w:World) (E:Nat->Prop) (vs:List Value),Seen w E->zH w E args vs ->
  Calls P f vs.toArray w λe w'=>∃ v r,e = .returned v/\Below w.heap.size w w'/\Φ r/\R w' E r v
def jY(st:St)(f:Operand)(xs:List Operand):Option (Nat×List D×Bool):=
 match xh (st.val f) with
 |some (g,caps)=>match vj st.look (xs.map st.val++caps) with
  |some (ds,b)=>some (g,ds,b)
  |none=>none
 |none=>none
def gk(P:Program)(st:St)(f:Operand)(xs:List Operand)(dst:Option Tmp)(K:St->Prop):Prop:=
 match jY st f xs with
 |some (g,ds,lent)=>(∃ r,zj P g ds r/\Iw P g ds lent r/\K (st.put dst (.d r))) \/
  (∃ T sz rows,uC P g ds T sz rows/\(lent=true->D.scalars rows.flatten=true)/\K ((st.new (.arr T sz rows)).put dst (.ar st.next)))
 |none=>False
def WU(P:Program)(st:St)(f:Operand)(xs:List Operand)(dst:Option Tmp)(K:St->Prop):Prop:=
 match jY st f xs with
 |some (g,ds,lent)=>∃ Φ:D->Prop,xU P g ds Φ/\∀ r,Φ r->(lent=true->r.scalar=true)/\K (st.put dst (.d r))
 |none=>False
def zF(P:Program)(st:St)(f:Operand)(xs:List Operand)(dst:Option Tmp)(K:St->Prop):Prop:=
 gk P st f xs dst K\/gk P (st.xi (kg (xs.map st.val))) f xs dst K\/Fv P st f xs dst K\/Fy P st f xs dst K\/WU P st f xs dst K\/∃ ids,Fv P (st.xi ids) f xs dst K
def QF(st:St)(dst:Option Tmp)(K:St->Prop):Sym->Prop:=λs=>K (st.put dst s)
def yj(dst:Option Tmp)(n:Nat):Bool:=match dst with
 |some t=>decide (t<n)
 |none=>true
def yq(P:Program)(o:Oper)(st:St)(K:St->Prop):Prop:=
 match o.op with
 |.box T x=>yj o.dst st.n=true/\Vf st o.dst T (st.val x) K
 |.alloc T=>match TI.of P T with
  |some ti=>yj o.dst st.n=true/\F8 st o.dst T ti K
  |none=>False
 |.assign (.const (.slice none 0 0))=>match TI.of P o.type with
  |some ⟨.slice e,_,_,_,_⟩=>match TI.of P e with
   |some te=>yj o.dst st.n=true/\F9 st o.dst e te.size K
   |none=>False
  |_=>False
 |.buildSlice t n parts=>yj o.dst st.n=true/\Vm P st o.dst t n parts.toList K
 |.store t ad x=>match o.dst,TI.of P t with
  |none,some ti=>Yc st ti (st.val ad) (st.val x) K
  |_,_=>False
 |.makeSlice t l c=>yj o.dst st.n=true/\WH P st o.dst t (st.val l) (st.val c) K
 |.makeMap t none=>yj o.dst st.n=true/\Fl st o.dst t K
 |.mapUpdate t m x v=>match o.dst with
  |none=>WG P st t (st.val m) (st.val x) (st.val v) K
  |some _=>False
 |.call {callee:=.builtin .append,args:=xs,argTypes:=ts}=>match xs.toList,ts.toList with
  | [s,x],[t,t']=>yj o.dst st.n=true/\(Vn P st o.dst t t' (st.val s) (st.val x) K\/WQ P st o.dst t t' (st.val s) (st.val x) K\/WR P st o.dst t t' (st.val s) (st.val x) K\/WS P st o.dst t t' (st.val s) (st.val x) K)
  |_,_=>False
 |.call {callee:=.builtin .copy,args:=xs,argTypes:=ts}=>match xs.toList,ts.toList with
  | [s,x],[t,_]=>yj o.dst st.n=true/\WB P st o.dst t (st.val s) (st.val x) K
  |_,_=>False
 |.call {callee:=.builtin .cap,args:=xs,argTypes:=ts}=>match xs.toList,ts.toList with
  | [x],[t]=>yj o.dst st.n=true/\WO P st o.dst t (st.val x) K
  |_,_=>False
 |.call {callee:=.builtin .clear,args:=xs,argTypes:=ts}=>match xs.toList,ts.toList with
  | [x],[t]=>yj o.dst st.n=true/\WE P st o.dst t (st.val x) K
  |_,_=>False
 |.range t x=>yj o.dst st.n=true/\WI P st o.dst t (st.val x) K
 |.next x true=>yj o.dst st.n=true/\WJ st o.dst (st.val x) K
 |.convert s t x=>yj o.dst st.n=true/\(vm P st.look st.val (.convert s t x) (QF st o.dst K)\/jD P st s t (st.val x) (QF st o.dst K))
 |.call {callee:=.value f,args:=xs,argTypes:=_}=>yj o.dst st.n=true/\zF P st f xs.toList o.dst K
 |op=>yj o.dst st.n=true/\vm P st.look st.val op (QF st o.dst K)
def jh(P:Program)(all:List Oper):List Oper->St->(St->Prop)->Prop
 | [],st,K=>K st
 |o::r,st,K=>match o.guard with
  |none=>yq P o st (lz λst'=>jh P all r st' K)
  |some (j,want)=>match (all[j]?).bind (·.dst) with
   |some t=>match zc st.slots t with
    |some (.d (.bool b))=>(b=want->yq P o (st.put (some t) (.d (.bool want))) (lz λst'=>jh P all r st' K)) /\
     (b = !want->yj o.dst st.n=true/\jh P all r ((st.put (some t) (.d (.bool !want))).put o.dst (.d (.val undef))) K)
    |some (.d (.val v))=>v=undef/\yj o.dst st.n=true/\jh P all r (st.put o.dst (.d (.val undef))) K
    |_=>False
   |none=>False
inductive DE where
 |normal
 |exit (id:Nat)
 |ret
def yr:Exit->DE->Prop
 |.normal,.normal=>True
 |.exit i,.exit j=>i=j
 |.ret,.ret=>True
 |_,_=>False
def Triple(P:Program)(c:Code)(Q:DE->St->Prop)(st:St):Prop:=
 ∀ X w0 β a w,Mods X w0 st β a w->c.wp P (λe a' w'=>∃ de st' β',yr e de/\Q de st'/\Mods X w0 st' β' a' w') a w
def Yg(k:St->Prop)(Q:DE->St->Prop):DE->St->Prop
 |.normal,st=>k st
 |e,st=>Q e st
def vU(id:Nat)(Q:DE->St->Prop):DE->St->Prop
 |.exit j,st=>if j=id then Q .normal st else Q (.exit j) st
 |e,st=>Q e st
def kX(P:Program):Code->(DE->St->Prop)->St->Prop
 |.skip,Q,st=>Q .normal st
 |.region id ops draw,Q,st=>if draw=true then Triple P (.region id ops true) Q st else jh P ops.toList ops.toList st (Q .normal)
 |.seq x y,Q,st=>kX P x (Yg (lz λst'=>kX P y Q st') Q) st
 |.cond c x y,Q,st=>match st.val c with
  |.d (.bool b)=>(b=true->kX P x Q st)/\(b=false->kX P y Q st)
  |_=>False
 |.block id c,Q,st=>kX P c (vU id Q) st
 |.exit id,Q,st=>Q (.exit id) st
 |.ret,Q,st=>Q .ret st
 |.loop c,Q,st=>Triple P (.loop c) Q st
 |c,Q,st=>Triple P c Q st
section
variable {P:Program} {X:Nat->Prop} {w0:Base} {st:St} {β:Nat->Value} {a:Act} {w w':World} {m:Nat} {k:Sym->Prop}
theorem x9{dst:Option Tmp}{n:Nat}(h:yj dst n=true):∀ t,dst=some t->t<n:=by
 intro t e;subst e;simpa[yj] using h
theorem Mx(hm:Mods X w0 st β a w){o:Oper}{f:Operand}{args:Array Operand}{ts:Array TypeId}(ho:o.op = .call {callee:=.value f,args,argTypes:=ts})
  (hd:∀ t,o.dst=some t->t<st.n) {K:St->Prop} (h:gk P st f args.toList o.dst K):Goes P X w0 o a w K:=by
 unfold gk at h
 split at h
 .rename_i g ds lent F
  have A:=F;unfold jY at F;split at F
  .rename_i g' caps hc
   split at F
   .rename_i ds' b hl
    simp at F
    obtain⟨rfl,rfl,rfl⟩:=F;rcases h with⟨r,hp,O,hk⟩ | ⟨T,sz,rows,hp,O,hk⟩
    .refine Goes.Wx hm hd (F5 hm ho ?_)
     unfold jW Y8;rw[hc];dsimp only;rw[hl];exact⟨r,hp,O,hk⟩
    .intro N Q hN
     obtain⟨H,B,hp⟩:=hp
     -- the same road aS F5
     have hv:=(hm.val f).2;obtain⟨cs,C,I⟩:∃ cs:List Value,a.eval f = .func (.func g') #[] cs.toArray/\zh w (Ex X β st.own) β caps cs:=by
      cases hf:st.val f <;> rw[hf] at hc hv <;> simp only[xh] at hc
      case d x=>
       cases x <;> simp only[xh] at hc
       case fn f' l=>
        simp at hc;obtain⟨rfl,rfl⟩:=hc
        simp only[Sm,R] at hv;obtain⟨vs,h1,h2⟩:=hv;exact⟨vs,h1,zh.uw h2⟩
       all_goals cases hc
      case fn f' l=>
       simp at hc;obtain⟨rfl,rfl⟩:=hc
       simp only[Sm] at hv;exact hv
      all_goals cases hc
     have L:=(zh.uz hm args.toList).1;have V:=zh.append L I;obtain⟨hx,hex⟩:=Ya hm hl V;unfold callable at H;cases Y:P.funcs[g']? with
     |none=>simp[Y] at H
     |some fn=>
      simp[Y] at H;have Z:(execOp a.eval o).run P w = .ok (.enter g' (args.toList.map a.eval++cs).toArray) w:=by
       have e1:¬fn.body=none:=by intro e;rw[e] at H;simp at H
       have e3:Array.map a.eval args++cs.toArray=(List.map a.eval args.toList++cs).toArray:=by simp
       rw[<-e3];simp[execOp,ho,resolve,C,Deferred.ofValue,invoke,callFunc,Y,e1,H.1]
      unfold Oper.wp;rw[Z];simp only[Oper.upon];have fin:∀ (w':World) (v:Value) (xs:List Value),Below w.heap.size w w'->w'.ownsRow w.heap.size T sz v rows.length xs->(∀ b,blk v=some b->xF w' b)->zi w' (λb=>Ex X β st.own b\/blk v=some b) rows.flatten xs->N (a.put o.dst v) w':=by
       intro w' v xs hb E G J;have M:vB w0.may w' T sz v rows.length xs:=vB.Iv E G λb hb=>.inl (Nat.le_trans hm.below.size hb)
       have S:=hm.new (o:=.arr T sz rows) hb (Fg E) trivial (λb W=>(E.lt b (by rw[gj E];exact W)).1) ⟨xs,by simpa using M,J,B⟩
       exact hN _ _ _ _ hk (S.yC hd (by simp[Sym.lo,St.new]) (by simp[Sm]))
      cases b with
      |false=>
       refine(hp w (Ex X β st.own) _ hm.seen (hex rfl)).mono λe w' he=>?_
       obtain⟨v,xs,rfl,hb,E,G,J⟩:=he;exact fin w' v xs hb E G J
      |true=>
       refine(hp w X _ hm.Vb hx).mono λe w' he=>?_
       obtain⟨v,xs,rfl,hb,E,G,J⟩:=he;exact fin w' v xs hb E G (zH.cells (Vd (O rfl) J.vals) J.one)
   .cases F
  .cases F
 .exact h.elim
theorem zb9(V:Mods X w0 st β a w){o:Oper}{f:Operand}{args:Array Operand}{ts:Array TypeId}(Y:o.op = .call {callee:=.value f,args,argTypes:=ts})
  (Z:∀ t,o.dst=some t->t<st.n) {K:St->Prop} (h:WU P st f args.toList o.dst K):Goes P X w0 o a w K:=by
 unfold WU at h
 split at h
 .rename_i g ds lent G
  unfold jY at G;split at G
  .rename_i g' caps A
   split at G
   .rename_i ds' b B
    simp at G
    obtain⟨rfl,rfl,rfl⟩:=G;obtain⟨Φ,⟨H,C⟩,I⟩:=h;intro N Q S;have W:=(V.val f).2;obtain⟨cs,M,O⟩:∃ cs:List Value,a.eval f = .func (.func g') #[] cs.toArray/\zh w (Ex X β st.own) β caps cs:=by
     cases hf:st.val f <;> rw[hf] at A W <;> simp only[xh] at A
     case d x=>
      cases x <;> simp only[xh] at A
      case fn f' l=>
       simp at A;obtain⟨rfl,rfl⟩:=A
       simp only[Sm,R] at W;obtain⟨vs,h1,h2⟩:=W;exact⟨vs,h1,zh.uw h2⟩
      all_goals cases A
     case fn f' l=>
      simp at A;obtain⟨rfl,rfl⟩:=A
      simp only[Sm] at W;exact W
     all_goals cases A
    have F:=(zh.uz V args.toList).1;have E:=zh.append F O;obtain⟨hx,hex⟩:=Ya V B E;unfold callable at H;cases J:P.funcs[g']? with
    |none=>simp[J] at H
    |some fn=>
     simp[J] at H;have L:(execOp a.eval o).run P w = .ok (.enter g' (args.toList.map a.eval++cs).toArray) w:=by
      have e1:¬fn.body=none:=by intro e;rw[e] at H;simp at H
      have e3:Array.map a.eval args++cs.toArray=(List.map a.eval args.toList++cs).toArray:=by simp
      rw[<-e3];simp[execOp,Y,resolve,M,Deferred.ofValue,invoke,callFunc,J,e1,H.1]
     unfold Oper.wp;rw[L];simp only[Oper.upon];cases b with
     |false=>
      refine(C w (Ex X β st.own) _ V.seen (hex rfl)).mono λe w' he=>?_
      obtain⟨v,r,rfl,hb,hΦ,hr⟩:=he;obtain⟨_,hK⟩:=I r hΦ;exact S _ _ _ _ hK (V.put hb Z (by simp[Sym.lo]) (by simpa[Sm] using hr))
     |true=>
      refine(C w X _ V.Vb hx).mono λe w' he=>?_
      obtain⟨v,r,rfl,hb,hΦ,hr⟩:=he;obtain⟨T,hK⟩:=I r hΦ;exact S _ _ _ _ hK (V.put hb Z (by simp[Sym.lo]) (by simpa[Sm] using F3 (T rfl) hr))
   .cases G
  .cases G
 .exact h.elim
theorem ji(H:Mods X w0 st β a w){o:Oper}{K:St->Prop}(h:yq P o st K):Goes P X w0 o a w K:=by
 unfold yq at h
 split at h
 .rename_i T x G
  exact zen H G (x9 h.1) h.2
 .rename_i T G
  split at h
  .rename_i ti F
   exact zbz H G F (x9 h.1) h.2
  .exact h.elim
 .rename_i G
  split at h
  .split at h
   .exact zeo H G (x9 h.1) h.2
   .exact h.elim
  .exact h.elim
 .rename_i t n parts G
  exact zb3 H G (x9 h.1) h.2
 .rename_i t ad x G
  split at h
  .rename_i ti E F
   exact zb0 H G F E h
  .exact h.elim
 .rename_i t l c G
  exact zdg H G (x9 h.1) h.2
 .rename_i t G
  exact zas H G (x9 h.1) h.2
 .rename_i t m x v G
  split at h
  .rename_i E
   exact zae H G E h
  .exact h.elim
 .rename_i xs ts G
  split at h
  .rename_i s x t t' J F
   have e1:xs = #[s,x]:=by cases xs;simp at J;rw[J]
   have e2:ts = #[t,t']:=by cases ts;simp at F;rw[F]
   subst e1;subst e2;rcases h.2 with L | L | L | L
   .exact zbb H G (x9 h.1) L
   .exact zat H G (x9 h.1) L
   .exact zau H G (x9 h.1) L
   .exact zav H G (x9 h.1) L
  .exact h.elim
 .rename_i xs ts G
  split at h
  .rename_i s x t t' J F
   have e1:xs = #[s,x]:=by cases xs;simp at J;rw[J]
   have e2:ts = #[t,t']:=by cases ts;simp at F;rw[F]
   subst e1;subst e2;exact zdf H G (x9 h.1) h.2
  .exact h.elim
 .rename_i xs ts G
  split at h
  .rename_i x t J F
   have e1:xs = #[x]:=by cases xs;simp at J;rw[J]
   have e2:ts = #[t]:=by cases ts;simp at F;rw[F]
   subst e1;subst e2;exact zep H G (x9 h.1) h.2
  .exact h.elim
 .rename_i xs ts G
  split at h
  .rename_i x t J F
   have e1:xs = #[x]:=by cases xs;simp at J;rw[J]
   have e2:ts = #[t]:=by cases ts;simp at F;rw[F]
   subst e1;subst e2;exact zb4 H G (x9 h.1) h.2
  .exact h.elim
 .rename_i t x G
  exact zb6 H G (x9 h.1) h.2
 .rename_i x G
  exact zdh H G (x9 h.1) h.2
 .rename_i s t x G
  rcases h.2 with L | L
  .rw[<-G] at L
   exact Goes.Wx H (x9 h.1) (Vl H o L)
  .exact Goes.Wx H (x9 h.1) (zb5 H G L)
 .rename_i f xs ts G
  obtain⟨E,h⟩:=h;rcases h with h | h | h | h | h | ⟨ids,h⟩
  .exact Mx H G (x9 E) h
  rotate_left
  .exact Ml H G (x9 E) h
  .exact zdi H G (x9 E) h
  .exact zb9 H G (x9 E) h
  .exact Ml H.xi G (by rw[(WA _ st).2];exact x9 E) h
  .exact Mx H.xi G (by rw[(WA _ st).2];exact x9 E) h
 .exact Goes.Wx H (x9 h.1) (Vl H o h.2)
theorem Zo{all:List Oper}{j t:Nat}(h:(all[j]?).bind (·.dst)=some t):((all.toArray[j]?).bind (·.dst))=some t:=by simpa using h
theorem WV{ops:Array Oper}{tmps:Array Value}{j t:Nat}(h:(ops[j]?).bind (·.dst)=some t)(G:tmps.getD t undef=undef):yielded ops tmps j=none:=by
 unfold yielded
 rw[h]
 by_cases H:t<tmps.size
 .have F:tmps[t]?=some undef:=by
   rw[Array.getElem?_eq_getElem H];simp[H] at G;rw[G]
  simp[F,undef]
 .simp[H]
theorem Vu{all:List Oper}{N:Exit->Act->World->Prop}:∀ {l:List Oper} {st:St} {β:Nat->Value} {a:Act} {w:World} {K:St->Prop},Mods X w0 st β a w->jh P all l st K ->
  (∀ a' w' st' β',K st'->Mods X w0 st' β' a' w'->N .normal a' w')->wpList P all.toArray N l a w
 | [],st,β,a,w,K,Q,h,T=>wpList_nil (T a w st β h Q)
 |o::r,st,β,a,w,K,Q,h,T=>by
  simp only[jh] at h;refine wpList_step λN' E=>?_
  split at h
  .rename_i V
   simp only[Region.wanted,V,if_true];exact ji Q h N' _ λa' w' st' β' Y J=>E a' w' (Vu J Y T)
  .rename_i j want V
   split at h
   .rename_i t Z
    split at h
    .rename_i b A
     obtain⟨M,H⟩:=Q.slots t _ A;simp only[Sm,R] at H;have G:t<a.tmps.size:=by
      rcases Nat.lt_or_ge t a.tmps.size with B | B
      .exact B
      .rw[show a.tmps.getD t undef=undef by simp[B]] at H;simp[undef] at H
     have C:yielded all.toArray a.tmps j=some b:=by
      unfold yielded;rw[Zo Z];have O:a.tmps[t]?=some (.bool b):=by
       rw[Array.getElem?_eq_getElem G];simp[G] at H;rw[H]
      simp[O]
     have F:∀ v:Bool,b=v->Mods X w0 (st.put (some t) (.d (.bool v))) β a w:=by
      intro v I;have:=Q.yC (dst:=some t) (s:=.d (.bool v)) (v:=.bool v) (λt' e=>by cases e;rw[<-Q.size];exact G) (by simp[Sym.lo]) (by simp[Sm,R])
      have e:a.put (some t) (.bool v)=a:=by
       cases a with
       |mk tmps defers=>
        simp only[Act.put,Act.mk.injEq,and_true];simp[G] at H;apply Array.ext_getElem?
        intro i;by_cases hi:t=i
        .subst hi;simp at G;simp[G,H,I]
        .simp[Array.getElem?_setIfInBounds,hi]
      rw[e] at this;exact this
     simp only[Region.wanted,V,C];by_cases L:b=want
     .subst L
      simp only[beq_self_eq_true,if_true];exact ji (F b rfl) (h.1 rfl) N' _ λa' w' st' β' Y J=>E a' w' (Vu J Y T)
     .have S:b = !want:=by cases b <;> cases want <;> simp_all
      have:(some b==some want)=false:=by simp[L]
      simp only[this,Bool.false_eq_true,if_false];obtain⟨W,h2⟩:=h.2 S;exact E _ w (Vu ((F (!want) S).yC (x9 W) (by simp[Sym.lo]) (by simp[Sm,R])) h2 T)
    .rename_i v I
     obtain⟨rfl,W,h2⟩:=h;obtain⟨M,H⟩:=Q.slots t _ I;simp only[Sm,R] at H;have C:yielded all.toArray a.tmps j=none:=WV (Zo Z) H
     simp only[Region.wanted,V,C];have:((none:Option Bool)==some want)=false:=rfl
     simp only[this,Bool.false_eq_true,if_false];exact E _ w (Vu (Q.yC (x9 W) (by simp[Sym.lo]) (by simp[Sm,R])) h2 T)
    .exact h.elim
   .exact h.elim
theorem gm:∀ {c:Code} {Q:DE->St->Prop} {st:St},kX P c Q st->Triple P c Q st
 |.skip,Q,st,h=>λX w0 β a w G=>wp_skip ⟨.normal,st,β,trivial,h,G⟩
 |.region id ops draw,Q,st,h=>by
  simp only[kX] at h;split at h
  .rename_i e;subst e;exact h
  .rename_i e
   have e:draw=false:=by simpa using e
   subst e;intro X w0 β a w G;refine wp_region_list ?_
   have:=Vu (P:=P) (all:=ops.toList) (N:=λe a' w'=>∃ de st' β',yr e de/\Q de st'/\Mods X w0 st' β' a' w') G h (λa' w' st' β' F H=>⟨.normal,st',β',trivial,F,H⟩)
   simpa using this
 |.seq x y,Q,st,h=>by
  simp only[kX] at h;intro X w0 β a w G;refine wp_seq (wp_mono (gm h X w0 β a w G) ?_)
  rintro e a' w' ⟨de,st',β',E,K,H⟩
  cases e <;> cases de <;> simp only[yr] at E
  .exact gm K X w0 β' a' w' H
  .subst E;exact⟨.exit _,st',β',rfl,K,H⟩
  .exact⟨.ret,st',β',trivial,K,H⟩
 |.cond c x y,Q,st,h=>by
  simp only[kX] at h;intro X w0 β a w G;split at h
  .rename_i b hb
   have J:=(G.val c).2;rw[hb] at J;simp only[Sm,R] at J;refine wp_cond J ?_
   cases b
   .exact gm (h.2 rfl) X w0 β a w G
   .exact gm (h.1 rfl) X w0 β a w G
  .exact h.elim
 |.block id c,Q,st,h=>by
  simp only[kX] at h;intro X w0 β a w G;refine wp_block (wp_mono (gm h X w0 β a w G) ?_)
  rintro e a' w' ⟨de,st',β',E,K,H⟩
  cases e <;> cases de <;> simp only[yr] at E
  .exact⟨.normal,st',β',trivial,K,H⟩
  .subst E
   simp only[vU] at K;simp only[Exit.inBlock];split
   .rename_i e;rw[if_pos e] at K;exact⟨.normal,st',β',trivial,K,H⟩
   .rename_i e;rw[if_neg e] at K;exact⟨.exit _,st',β',rfl,K,H⟩
  .exact⟨.ret,st',β',trivial,K,H⟩
 |.exit id,Q,st,h=>λX w0 β a w G=>wp_exit ⟨.exit id,st,β,rfl,h,G⟩
 |.ret,Q,st,h=>λX w0 β a w G=>wp_ret ⟨.ret,st,β,trivial,h,G⟩
 |.loop c,Q,st,h=>h
 |.rangeFunc ..,Q,st,h=>h
 |.scope ..,Q,st,h=>h
 |.label ..,Q,st,h=>h
 |.goto ..,Q,st,h=>h
 |.refuse ..,Q,st,h=>h
end
end Go.V
namespace Go.V
variable [Dr] [Ov]
open Go.RowKit
def Yh(st:St)(m:Nat):List (Nat×Sym)->Prop
 | []=>True
 |(t,s)::r=>(match zc st.slots t with |some s'=>s'=s |none=>False)/\Sym.lo m s/\Yh st m r
def vV(st:St)(m:Nat):List (Nat×Obj')->Prop
 | []=>True
 |(id,o)::r=>(match zc st.own id with |some o'=>o'=o |none=>False)/\id<m/\o.lo m/\vV st m r
def Weak(st st':St):Prop:=(st'.n=st.n/\st'.base=st.base/\st'.base<=st'.next/\∀ id∈st.moved,id∈st'.moved)/\(st'.own.map (·.1)).Nodup/\Yh st st'.next st'.slots/\vV st st'.next st'.own
section
variable {P:Program} {X:Nat->Prop} {w0:Base} {st st':St} {β:Nat->Value} {a:Act} {w w':World}
theorem My{m:Nat}:∀ {l:List (Nat×Sym)} {t:Nat} {s:Sym},Yh st m l->zc l t=some s->zc st.slots t=some s/\Sym.lo m s
 | [],t,s,_,h=>by simp[zc] at h
 |(k,u)::r,t,s,H,h=>by
  simp only[Yh] at H;simp only[zc] at h;split at h
  .rename_i e;subst e;simp at h;subst h
   refine⟨?_,H.2.1⟩
   have:=H.1
   split at this
   .rename_i s' hs;rw[hs,this]
   .exact this.elim
  .exact My H.2.2 h
theorem WW{m:Nat}:∀ {l:List (Nat×Obj')} {id:Nat} {o:Obj'},vV st m l->(id,o)∈l->zc st.own id=some o/\id<m/\o.lo m
 | [],id,o,_,h=>by cases h
 |(k,u)::r,id,o,H,h=>by
  simp only[vV] at H;rcases List.mem_cons.1 h with e | h
  .cases e
   refine⟨?_,H.2.1,H.2.2.1⟩
   have:=H.1
   split at this
   .rename_i s' hs;rw[hs,this]
   .exact this.elim
  .exact WW H.2.2.2 h
theorem Mods.weak(L:Mods X w0 st β a w)(h:Weak st st'):Mods X w0 st' β a w:=by
 obtain⟨⟨M,E,K,J⟩,O,hs,Q⟩:=h
 have H:∀ id o,(id,o)∈st'.own->(id,o)∈st.own:=λid o G=>yZ (WW Q G).1
 have F:Over w (Ex X β st.own) w (Ex X β st'.own):=Over.less (λb T=>T.elim .inl λ⟨i,x,V,e⟩=>.inr ⟨i,x,H i x V,e⟩)
 refine⟨L.outer,⟨K,λi Y Z=>L.still.2 i (by rw[<-E];exact Y) (λh=>Z (J i h))⟩,L.one,L.defers,by rw[M];exact L.size,L.below,O,?_,?_,?_⟩
 .intro id o G
  obtain⟨_,Z,A⟩:=WW Q G;obtain⟨q1,q2,q3⟩:=L.own id o (H id o G);exact⟨Z,A,yM.over (m:=st.next) (λ_ _=>rfl) F q1 q2 (λ_ _=>rfl) q3⟩
 .exact λi x j y c V B e1 e2=>L.apart i x j y c (H i x V) (H j y B) e1 e2
 .intro t s C
  obtain⟨Y,Z⟩:=My hs C;exact⟨Z,Xw (id:=0) (rows:=.bool true) F (L.slots t s Y).2⟩
def afterLoop{α:Type}(S:α->St)(inv:α->Prop)(μ:α->Nat)(x:α)(Q:DE->St->Prop):DE->St->Prop
 |.normal,st'=>∃ y,inv y/\μ y<μ x/\Weak st' (S y)
 |e,st'=>Q e st'
def Vv(P:Program)(st:St):ResultVar->Option D
 |.tmp t=>match zc st.slots t with
  |some s=>match lend st.look s with
   |some (d,_)=>some d
   |none=>none
  |none=>none
 |.cell ad T=>match zc st.slots ad,TI.of P T with
  |some (.bp id off),some ti=>match st.look id with
   |some (.box _ cells)=>if ti.agg=true then (if off+ti.size<=cells.length then (match cellsD st.look ((cells.drop off).take ti.size) with
     |some ds=>some (.agg ds)
     |none=>none) else none)
    else (match cells.drop off with
     |s::_=>uZ st.look s
     | []=>none)
   |_=>none
  |_,_=>none
def XO(P:Program)(st:St):List ResultVar->Option (List D)
 | []=>some []
 |v::r=>match Vv P st v,XO P st r with
  |some d,some ds=>some (d::ds)
  |_,_=>none
def uD(P:Program)(rs:List ResultVar)(r:D)(st:St):Prop:=
 match XO P st rs with
 |some [d]=>d=r
 |some ds=>.tup ds=r
 |none=>False
def jG(K:St->Prop):DE->St->Prop
 |.normal,st=>K st
 |.ret,st=>K st
 |.exit _,_=>False
def XP:Nat->List D->List (Nat×Sym)
 |_,[]=>[]
 |k,d::r=>(k,.d d)::XP (k+1) r
def jj(ntmps:Nat)(args:List D):St:={n:=args.length+(ntmps-args.length),next:=0,slots:=XP 0 args,own:=[]}
theorem Mz:∀ {k t:Nat} {l:List D} {s:Sym},zc (XP k l) t=some s->∃ j d,t=k+j/\l[j]?=some d/\s = .d d
 |k,t,[],s,h=>by simp[XP,zc] at h
 |k,t,d::r,s,h=>by
  simp only[XP,zc] at h;split at h
  .rename_i e;simp at h;exact⟨0,d,by omega,by simp,h.symm⟩
  .obtain⟨j,d',H,G,F⟩:=Mz h
   exact⟨j+1,d',by omega,by simpa using G,F⟩
theorem Mods.init{E:Nat->Prop}{w:World}{vs:List Value}{args:List D}{ntmps:Nat}(F:Seen w E)(K:zH w E args vs):
  Mods E (.of w) (jj ntmps args) (λ_=>.pointer none) {tmps:=vs.toArray++Array.replicate (ntmps-vs.toArray.size) undef,defers:=[]} w:=by
 have J:=K.length
 refine⟨⟨λb L hm=>hm.elim (λh=>by have:w.heap.size<=b:=h;have:=F.1 b L;omega) (λh=>h),F.2.over (Over.less λb h=>h.elim id False.elim)⟩,⟨Nat.zero_le _,λi h=>by simp[jj] at h⟩,λ_=>rfl,rfl,by simp[jj,J],Kept.refl _,by simp[jj],by simp[jj],by simp[jj],?_⟩
 intro t s M
 obtain⟨j,d,O,Q,T⟩:=Mz M
 have e:t=j:=by omega
 subst e;subst T
 obtain⟨v,V,G⟩:=K.get Q
 refine⟨by simp[Sym.lo],?_⟩
 have H:t<vs.length:=by
  rcases Nat.lt_or_ge t vs.length with h | h
  .exact h
  .simp[h] at V
 have X:(vs.toArray++Array.replicate (ntmps-vs.toArray.size) undef).getD t undef=v:=by
  rw[List.getElem?_eq_getElem H] at V;simp at V
  simp[Array.getElem?_append,H,V]
 simp only[X,Sm]
 exact R.over (Over.less (λb L=>L.elim (λh=>h) (λ⟨i,x,Y,_⟩=>by simp[jj] at Y))) _ _ G
def gn(tmps:Array Value):ResultVar->Sem Value
 |.tmp t=>pure (tmps.getD t undef)
 |.cell ad t=>do loadVar t (<-asAddr (tmps.getD ad undef))
theorem Fz(fn:Func)(tmps:Array Value){us:List Value}(h:(fn.results.toList.mapM (gn tmps)).run P w = .ok us w):
  (results fn tmps).run P w = .ok (if h:us.length=1 then us[0] else .tuple us.toArray) w:=by
 have e:(λv:ResultVar=>(match v with | .tmp t=>(pure (tmps.getD t undef):Sem Value) | .cell ad t=>(do loadVar t (<-asAddr (tmps.getD ad undef)))))=gn tmps:=by
  funext v;cases v <;> rfl
 unfold results
 rw[Array.mapM_eq_mapM_toList]
 simp only[Sem.run_bind,Sem.run_map]
 have H:=h
 rw[<-e] at H
 erw[H]
 simp
theorem zca(V:Mods X w0 st β a w){v:ResultVar}{d:D}(h:Vv P st v=some d):
  ∃ u,(gn a.tmps v).run P w = .ok u w/\R w X d u:=by
 cases v with
 |tmp t=>
  simp only[Vv] at h;split at h
  .rename_i s hs
   split at h
   .rename_i d' b Y
    simp at h;subst h
    exact⟨_,rfl,(IH V Y (V.slots t s hs).2).1⟩
   .cases h
  .cases h
 |cell ad T=>
  simp only[Vv] at h;split at h
  .rename_i id off ti hs Z
   split at h
   .rename_i T' cells J
    obtain⟨_,O,b,vs,A,K,B,G,C⟩:=V.obj J;have I:=(V.slots ad _ hs).2;simp only[Sm] at I;obtain⟨b',F,I⟩:=I;rw[A] at F;simp at F;rw[<-F] at I;have N:∀ (j:Nat) u,(vs.drop off)[j]?=some u->w.cell? ⟨b,off+j,none⟩=some u:=λj u hj=>Wp B (by simpa[List.getElem?_drop] using hj)
    split at h
    .rename_i E
     split at h
     .rename_i hfit
      split at h
      .rename_i ds L
       simp at h;subst h
       have Q:=G.length;have S:=GU (P:=P) (w:=w) Z E (b:=b) (off:=off) (vs:=(vs.drop off).take ti.size) (by simp;omega) (λj u hj=>by
        rw[List.getElem?_take] at hj;split at hj
        .exact N j u hj
        .cases hj)
       refine⟨.agg ((vs.drop off).take ti.size).toArray,?_,?_⟩
       .simp only[gn,I];simpa[asAddr,Instr.loadAt,Instr.sureAddr] using S
       .simp only[R]
        exact⟨_,rfl,F2 V L (zh.take ti.size (zh.drop off G)) (λu W=>C u (List.mem_of_mem_drop (List.mem_of_mem_take W)))⟩
      .cases h
     .cases h
    .rename_i E
     cases hd:cells.drop off with
     |nil=>rw[hd] at h;cases h
     |cons s r=>
      rw[hd] at h;have H:=zh.drop off G;rw[hd] at H;simp only[zh] at H;obtain⟨u,us,W,M,_⟩:=H;have S:=GR (P:=P) (w:=w) Z (by simpa using E) (b:=b) (off:=off) (by simpa using N 0 u (by rw[W];rfl))
      exact⟨u,by simp only[gn,I];simpa[asAddr,Instr.loadAt,Instr.sureAddr] using S,IG V h M⟩
   .cases h
  .cases h
theorem FA(H:Mods X w0 st β a w):∀ {rs:List ResultVar} {ds:List D},XO P st rs=some ds ->
  ∃ us:List Value,(rs.mapM (gn a.tmps)).run P w = .ok us w/\zH w X ds us
 | [],ds,h=>by simp[XO] at h;subst h;exact⟨[],by simp,by simp[zH]⟩
 |v::r,ds,h=>by
  simp only[XO] at h;split at h
  .rename_i d ds' G F
   simp at h;subst h
   obtain⟨u,e1,e2⟩:=zca H G;obtain⟨us,q1,q2⟩:=FA H F;refine⟨u::us,?_,by simp only[zH];exact⟨u,us,rfl,e2,q2⟩⟩
   simp only[List.mapM_cons,Sem.run_bind,e1,Result.andThen_ok,q1];rfl
  .cases h
theorem wN(G:Mods X w0 st β a w){fn:Func}{r:D}(h:uD P fn.results.toList r st):∃ v,(results fn a.tmps).run P w = .ok v w/\R w X r v:=by
 unfold uD at h
 split at h
 .rename_i d F
  obtain⟨us,q1,q2⟩:=FA G F;simp only[zH] at q2;obtain⟨u,us',rfl,e,rfl⟩:=q2;subst h;refine⟨u,?_,e⟩
  rw[Fz fn a.tmps q1];simp
 .rename_i ds H F
  obtain⟨us,q1,q2⟩:=FA G F;subst h;refine⟨.tuple us.toArray,?_,by simp only[R];exact⟨us,rfl,q2⟩⟩
  have E:us.length≠1:=by
   rw[q2.length];intro e;cases ds with
   |nil=>simp at e
   |cons d r=>
    cases r with
    |nil=>exact H d rfl
    |cons _ _=>simp at e
  rw[Fz fn a.tmps q1];simp[E]
 .exact h.elim
def WX(rs:List ResultVar)(T sz:Nat)(rows:List (List D))(st:St):Prop:=
 match rs with
 | [.tmp t]=>match zc st.slots t with
  |some (.ar id)=>match st.look id with
   |some (.arr T' sz' rows')=>T'=T/\sz'=sz/\rows'=rows
   |_=>False
  |_=>False
 |_=>False
end
end Go.V
namespace Go.V
variable [Dr] [Ov]
open Go.RowKit
def qb(F:(Sym->Prop)->Prop):Prop:=∀ k,F k->∃ s,F (λs'=>s'=s)/\k s
section
variable (P:Program) (look:Nat->Option Obj') (ρ:Operand->Sym)
theorem MH(ti:TI)(l:List D):qb (headD ti l):=by
 intro k h
 unfold headD at h ⊢
 split at h
 .rename_i e;simp only[e,if_true];exact⟨_,⟨h.1,rfl⟩,h.2⟩
 .rename_i e;simp only[e]
  cases l with
  |nil=>exact h.elim
  |cons x _=>exact⟨_,rfl,h⟩
theorem zjd(ti:TI)(l:List Sym):qb (Zl ti l):=by
 intro k h
 unfold Zl at h ⊢
 split at h
 .rename_i e;simp only[e,if_true];exact⟨_,⟨h.1,rfl⟩,h.2⟩
 .rename_i e;simp only[e]
  cases l with
  |nil=>exact h.elim
  |cons x _=>exact⟨_,rfl,h⟩
theorem zje(ti:TI)(s:Sym):qb (kS look ti s):=by
 intro k h
 cases s <;> simp only[kS] at h ⊢
 case d x=>cases x <;> simp only[kS] at h ⊢ <;> first | exact MH ti _ k h | exact h.elim
 case bp id off=>
  cases H:look id with
  |none=>simp only[H] at h
  |some o=>cases o <;> simp only[H] at h ⊢;exact zjd ti _ k h
 case ap id sz i off=>
  cases H:look id with
  |none=>simp only[H] at h
  |some o=>
   cases o <;> simp only[H] at h ⊢
   obtain⟨G,F,E⟩:=h;obtain⟨s,q1,q2⟩:=MH ti _ k E;exact⟨s,⟨G,F,q1⟩,q2⟩
theorem zcb(kd:TK)(x:Sym)(f:Nat):qb (Xe kd x f):=by
 intro k h
 cases kd <;> simp only[Xe] at h ⊢
 rename_i fs
 cases H:fs[f]? with
 |none=>simp only[H] at h
 |some y=>
  obtain⟨off,sz,b⟩:=y;simp only[H] at h ⊢;cases x <;> (try simp only at h ⊢)
  case d x=>cases x <;> (try simp only at h ⊢) <;> first | exact h.elim | exact⟨_,⟨h.1,rfl⟩,h.2⟩
  all_goals exact⟨_,⟨h.1,rfl⟩,h.2⟩
theorem zh4(kd:TK)(x:Sym)(f:Nat):qb (Xf kd x f):=by
 intro k h
 cases kd <;> simp only[Xf] at h ⊢
 rename_i fs
 cases H:fs[f]? with
 |none=>simp only[H] at h
 |some y=>
  obtain⟨off,sz,b⟩:=y;simp only[H] at h ⊢;cases x <;> (try simp only at h ⊢)
  case d x=>
   cases x <;> (try simp only at h ⊢)
   case agg l=>
    cases b <;> simp only[if_true,Bool.false_eq_true,if_false] at h ⊢
    .cases G:l.drop off with
     |nil=>rw[G] at h;exact h.elim
     |cons y r=>rw[G] at h;exact⟨_,rfl,h⟩
    .exact⟨_,⟨h.1,rfl⟩,h.2⟩
  case agg l=>
   cases b <;> simp only[if_true,Bool.false_eq_true,if_false] at h ⊢
   .cases G:l.drop off with
    |nil=>rw[G] at h;exact h.elim
    |cons y r=>rw[G] at h;exact⟨_,rfl,h⟩
   .exact⟨_,⟨h.1,rfl⟩,h.2⟩
theorem zcc(esz:Nat)(s s':Sym):qb (ga look esz s s'):=by
 intro k h
 unfold ga at h ⊢
 split at h
 .exact⟨_,⟨h.1,h.2.1,rfl⟩,h.2.2⟩
 .rename_i id kd n
  cases H:look id with
  |none=>simp only[H] at h
  |some o=>cases o <;> simp only[H] at h ⊢;exact⟨_,⟨h.1,h.2.1,rfl⟩,h.2.2⟩
 .exact h.elim
theorem zh5(s s':Sym):qb (Xg s s'):=by
 intro k h
 unfold Xg at h ⊢
 split at h
 .exact⟨_,⟨h.1,rfl⟩,h.2⟩
 .exact h.elim
theorem FB(kd:IntKind)(n:Int):qb (arith kd n):=by
 intro k h
 unfold arith at h ⊢
 cases kd <;> simp only at h ⊢ <;> first | exact⟨_,rfl,h⟩ | skip
 split at h
 .rename_i e;simp only[if_pos e];exact⟨_,rfl,h⟩
 .rename_i e;simp only[if_neg e];exact⟨_,⟨h.1,rfl⟩,h.2⟩
theorem zkk(op:BinOp)(s s':Sym)(hs:∀ l,s≠.d (.sl l)):qb (Xh op s s'):=by
 intro k h
 unfold Xh at h ⊢
 split at h
 .cases op <;> simp only[Wi] at h ⊢ <;> first
   |exact⟨_,⟨h.1,rfl⟩,h.2⟩
   |(obtain⟨H,G⟩:=h;obtain⟨s,q1,q2⟩:=FB _ _ k G;exact⟨s,⟨H,q1⟩,q2⟩)
   |(obtain⟨H,G,F⟩:=h;obtain⟨s,q1,q2⟩:=FB _ _ k F;exact⟨s,⟨H,G,q1⟩,q2⟩)
   |(obtain⟨H,G,F⟩:=h;exact⟨_,⟨H,G,rfl⟩,F⟩)
   |exact h.2.elim
   |exact h.elim
 .cases op <;> simp only[Wj] at h ⊢ <;> first | exact⟨_,⟨h.1,rfl⟩,h.2⟩ | exact⟨_,rfl,h⟩ | exact h.elim
 .cases op <;> simp only[Wk] at h ⊢ <;> first | exact⟨_,rfl,h⟩ | exact h.elim
 .exact absurd rfl (hs _)
 .cases op <;> simp only at h ⊢ <;> first | exact⟨_,rfl,h⟩ | exact h.elim
 .exact h.elim
theorem zld(op:UnOp)(s:Sym):qb (Xj op s):=by
 intro k h
 unfold Xj at h ⊢
 split at h
 .cases op <;> simp only at h ⊢ <;> first | exact⟨_,rfl,h⟩ | exact h.elim
 .cases op <;> simp only at h ⊢ <;> first | exact FB _ _ k h | exact h.elim
 .exact h.elim
theorem zeq(kd:TK)(s:Sym):qb (Xk kd s):=by
 intro k h
 unfold Xk at h ⊢
 split at h
 .exact⟨_,rfl,h⟩
 .exact⟨_,rfl,h⟩
 .exact h.elim
theorem zer(s:Sym)(i:Nat):qb (Xl s i):=by
 intro k h
 unfold Xl at h ⊢
 split at h
 .split at h
  .rename_i hx;simp only[hx];exact⟨_,rfl,h⟩
  .exact h.elim
 .split at h
  .rename_i hx;simp only[hx];exact⟨_,rfl,h⟩
  .exact h.elim
 .exact h.elim
theorem zkl(kd:TK)(s:Sym):qb (slen look kd s):=by
 intro k h
 unfold slen at h ⊢
 split at h
 .exact⟨_,rfl,h⟩
 .exact⟨_,rfl,h⟩
 .exact⟨_,rfl,h⟩
 .split at h
  .rename_i hx;simp only[hx];exact⟨_,rfl,h⟩
  .exact h.elim
 .exact⟨_,rfl,h⟩
 .exact⟨_,rfl,h⟩
 .exact h.elim
theorem MI(mx:Bool)(l:List Sym):qb (Y7 mx l):=by
 intro k h
 unfold Y7 at h ⊢
 split at h
 .exact⟨_,rfl,h⟩
 .exact h.elim
theorem zh6(kd:TK)(s:Sym)(lo hi:Option Sym):qb (gb P look kd s lo hi):=by
 intro k h
 unfold gb at h ⊢
 split at h
 .split at h
  .rename_i H h2;(try simp only[H,h2]);exact⟨_,⟨h.1,h.2.1,rfl⟩,h.2.2⟩
  .exact h.elim
 .split at h
  .rename_i h0;try simp only[h0]
   split at h
   .rename_i H h2;(try simp only[H,h2]);exact⟨_,⟨h.1,h.2.1,rfl⟩,h.2.2⟩
   .exact h.elim
  .exact h.elim
 .split at h
  .rename_i h0;try simp only[h0]
   split at h
   .rename_i H h2;(try simp only[H,h2]);exact⟨_,⟨h.1,h.2.1,rfl⟩,h.2.2⟩
   .exact h.elim
  .exact h.elim
 .split at h
  .rename_i H h2;(try simp only[H,h2]);exact⟨_,⟨h.1,rfl⟩,h.2⟩
  .exact h.elim
 .exact h.elim
theorem zgn(kd:TK)(s a b c:Sym):qb (gd P look kd s a b c):=by
 intro k h
 unfold gd at h ⊢
 split at h
 .split at h
  .rename_i h0;try simp only[h0]
   exact⟨_,⟨h.1,h.2.1,rfl⟩,h.2.2⟩
  .exact h.elim
 .exact h.elim
theorem zkm(s:Sym):qb (Xm s):=by
 intro k h
 unfold Xm at h ⊢
 split at h <;> first | exact⟨_,rfl,h⟩ | exact h.elim
theorem zjf(c:Sym)(args:List Sym):qb (jW P look c args):=by
 intro k h
 unfold jW at h ⊢
 split at h
 .unfold Y8 at h ⊢
  split at h
  .rename_i hl;simp only[hl]
   obtain⟨r,H,G,F⟩:=h;exact⟨_,⟨r,H,G,rfl⟩,F⟩
  .exact h.elim
 .exact h.elim
theorem zjg(c x y:Sym):qb (V5 c x y):=by
 intro k h
 unfold V5 at h ⊢
 split at h
 .exact⟨_,rfl,h⟩
 .exact h.elim
theorem zjh(ti:TI):qb (zeroS ti):=by
 intro k h
 unfold zeroS at h ⊢
 split at h
 .rename_i hg;simp only[hg,if_true];exact⟨_,⟨h.1,rfl⟩,h.2⟩
 .rename_i hg;simp only[hg]
  split at h
  .exact⟨_,rfl,h⟩
  .exact h.elim
theorem zgo(kk:TK)(te:TI)(c:Bool)(m x:Sym):qb (gg look kk te c m x):=by
 intro k h
 unfold gg at h ⊢
 split at h
 .rename_i rows y h1
  simp only[h1];obtain⟨H,h⟩:=h;split at h
  .rename_i d hd;try simp only[hd]
   exact⟨_,⟨H,rfl⟩,h⟩
  .rename_i hd;try simp only[hd]
   obtain⟨s,q1,q2⟩:=zjh te _ h;refine⟨_,⟨H,?_⟩,q2⟩
   unfold zeroS at q1 ⊢;split at q1
   .rename_i hg;simp only[hg,if_true];exact⟨q1.1,by rw[q1.2]⟩
   .rename_i hg;simp only[hg]
    split at q1
    .rename_i v hv;rw[<-q1];rfl
    .exact q1.elim
  .exact h.elim
 .exact h.elim
theorem zh7(op:BinOp)(t:Nat)(x y:Sym):qb (Xn P op t x y):=by
 intro k h
 unfold Xn at h ⊢
 split at h
 .split at h
  .rename_i hk;try simp only[hk]
   split at h
   .rename_i hr;try simp only[hr]
    split at h
    .exact⟨_,rfl,h⟩
    .exact⟨_,rfl,h⟩
    .exact h.elim
   .exact h.elim
  .exact h.elim
 .exact h.elim
theorem zh8(ti:TI)(parts:List (Nat×Sym)):qb (XB ti parts):=by
 intro k h
 unfold XB at h ⊢
 split at h
 .rename_i fs hk
  obtain⟨H,h⟩:=h;split at h
  .rename_i out ho;simp only[ho];exact⟨_,⟨H,rfl⟩,h⟩
  .exact h.elim
 .exact h.elim
theorem zes(P:Program)(t n:Nat)(parts:List (Nat×Sym)):qb (XC P t n parts):=by
 intro k h
 unfold XC at h ⊢
 split at h
 .split at h
  .split at h
   .rename_i xs hxs
    obtain⟨H,G,F,h⟩:=h;split at h
    .rename_i rows hr
     (try simp only[hr])
     exact⟨_,⟨H,G,F,rfl⟩,h⟩
    .exact h.elim
   .exact h.elim
  .exact h.elim
 .exact h.elim
def FC:Sym->Bool
 |.d (.sl _)=>false
 |_=>true
def Zp(ρ:Operand->Sym):Op->Bool
 |.binOp _ _ x _ _=>FC (ρ x)
 |_=>true
theorem MJ(op:Op)(H:Zp ρ op=true):qb (vm P look ρ op):=by
 intro k h
 unfold vm at h ⊢
 split at h
 .split at h
  .rename_i G;try simp only[G]
   exact zh8 _ _ k h
  .exact h.elim
 .exact zes _ _ _ _ k h
 .split at h
  .rename_i hf;try simp only[hf]
   exact⟨_,rfl,h⟩
  .exact h.elim
 .unfold kf at h ⊢
  split at h
  .exact⟨_,rfl,h⟩
  .exact⟨_,rfl,h⟩
  .exact zjg _ _ _ k h
  .split at h
   .rename_i G;try simp only[G]
    exact zje _ _ _ k h
   .exact h.elim
  .split at h
   .rename_i G;try simp only[G]
    exact zcb _ _ _ k h
   .exact h.elim
  .split at h
   .rename_i G;try simp only[G]
    exact zh4 _ _ _ k h
   .exact h.elim
  .split at h
   .split at h
    .exact zcc _ _ _ _ k h
    .exact h.elim
   .exact h.elim
  .split at h
   .rename_i G;try simp only[G]
    exact zh5 _ _ k h
   .exact h.elim
  .split at h
   .rename_i G;try simp only[G]
    obtain⟨F,E⟩:=h;obtain⟨s,q1,q2⟩:=zh6 _ _ _ _ _ _ k E;exact⟨s,⟨F,q1⟩,q2⟩
   .exact h.elim
  .split at h
   .rename_i G;try simp only[G]
    exact zgn _ _ _ _ _ _ _ k h
   .exact h.elim
  .split at h
   .rename_i G;try simp only[G]
    rcases h with h | h
    .obtain⟨F,E⟩:=h
     obtain⟨s,q1,q2⟩:=zkk _ _ _ (by intro l e;simp[Zp,e,FC] at H) k E
     exact⟨s,.inl ⟨F,q1⟩,q2⟩
    .obtain⟨s,q1,q2⟩:=zh7 _ _ _ _ _ k h
     exact⟨s,.inr q1,q2⟩
   .exact h.elim
  .exact zld _ _ k h
  .split at h
   .rename_i G ht';try simp only[G,ht']
    exact zeq _ _ k h
   .exact h.elim
  .exact zer _ _ k h
  .split at h
   .split at h
    .rename_i F E;try simp only[F,E]
     obtain⟨K,h⟩:=h;obtain⟨s,q1,q2⟩:=zgo _ _ _ _ _ _ k h;exact⟨s,⟨K,q1⟩,q2⟩
    .exact h.elim
   .exact h.elim
  .exact zkm _ k h
  .split at h
   .rename_i J L
    split at h
    .rename_i G;try simp only[J,L,G]
     exact zkl _ _ _ k h
    .exact h.elim
   .exact h.elim
  .exact MI _ _ k h
  .exact MI _ _ k h
  .exact zjf _ _ _ _ k h
  .exact h.elim
end
end Go.V
namespace Go.V
variable [Dr] [Ov]
open Go.RowKit
def guards(all:List Oper)(t:Option Tmp):Bool:=match t with
 |some t=>all.any λo=>match o.guard with
  |some (j,_)=>(all[j]?).bind (·.dst)==some t
  |none=>false
 |none=>false
def splitB(g:Bool)(s:Sym)(k:Sym->Prop):Prop:=
 match g,s with
 |true,.d (.bool b)=>(b=true->k (.d (.bool true)))/\(b=false->k (.d (.bool false)))
 |_,s=>k s
def WY(g:Bool)(k:Sym->Prop):Sym->Prop:=λs=>splitB g s k
def jk(P:Program)(all:List Oper)(o:Oper)(st:St)(k:Sym->Prop):Prop:=
 match o.guard with
 |none=>Zp st.val o.op=true/\vm P st.look st.val o.op k
 |some (j,want)=>match (all[j]?).bind (·.dst) with
  |some t=>match zc st.slots t with
   |some (.d (.bool b))=>(b=want->Zp st.val o.op=true/\vm P st.look st.val o.op k)/\(b = !want->k (.d (.val undef)))
   |some (.d (.val v))=>v=undef/\k (.d (.val undef))
   |_=>False
  |none=>False
def kY(P:Program)(all:List Oper):List Oper->St->(St->Prop)->Prop
 | [],st,K=>K st
 |o::r,st,K=>yj o.dst st.n=true/\jk P all o st (WY (guards all o.dst) λs=>kY P all r (st.put o.dst s) K)
def DStep(P:Program)(all:List Oper)(o:Oper)(st:St)(s:Sym):Prop:=jk P all o st (λs'=>s'=s)
def Chain(P:Program)(all:List Oper):List Oper->List Sym->St->Prop
 | [],ss,_=>ss=[]
 |o::r,ss,st=>∃ s ss',ss=s::ss'/\yj o.dst st.n=true/\DStep P all o st s/\Chain P all r ss' (st.put o.dst s)
def puts:List Oper->List Sym->St->St
 |o::r,s::ss,st=>puts r ss (st.put o.dst s)
 |_,_,st=>st
theorem zgp{g:Bool}{k:Sym->Prop}{s:Sym}(h:WY g k s):k s:=by
 unfold WY splitB at h
 split at h
 .rename_i b;cases b
  .exact h.2 rfl
  .exact h.1 rfl
 .exact h
section
variable {P:Program} {X:Nat->Prop} {w0:Base} {st:St} {β:Nat->Value} {a:Act} {w w':World}
theorem Vw{all:List Oper}{o:Oper}{k:Sym->Prop}(h:jk P all o st k):∃ s,DStep P all o st s/\k s:=by
 unfold DStep
 unfold jk at h ⊢
 split at h
 .obtain⟨H,G⟩:=h
  obtain⟨s,q1,q2⟩:=MJ P st.look st.val o.op H k G;exact⟨s,⟨H,q1⟩,q2⟩
 .rename_i j want hg
  split at h
  .rename_i t ht
   split at h
   .rename_i b hb
    by_cases e:b=want
    .obtain⟨H,G⟩:=h.1 e
     obtain⟨s,q1,q2⟩:=MJ P st.look st.val o.op H k G;refine⟨s,⟨λ_=>⟨H,q1⟩,λe'=>?_⟩,q2⟩
     subst e;cases b <;> simp at e'
    .have e':b = !want:=by cases b <;> cases want <;> simp_all
     exact⟨_,⟨λe''=>absurd e'' e,λ_=>rfl⟩,h.2 e'⟩
   .exact⟨_,⟨h.1,rfl⟩,h.2⟩
   .exact h.elim
  .exact h.elim
theorem MK{all:List Oper}:∀ {l:List Oper} {st:St} {K:St->Prop},kY P all l st K->∃ ss,Chain P all l ss st/\K (puts l ss st)
 | [],st,K,h=>⟨[],rfl,h⟩
 |o::r,st,K,h=>by
  simp only[kY] at h;obtain⟨H,h⟩:=h;obtain⟨s,G,F⟩:=Vw h;obtain⟨ss,q1,q2⟩:=MK (zgp F);exact⟨s::ss,⟨s,ss,rfl,H,G,q1⟩,q2⟩
theorem WZ{all:List Oper}:∀ {l:List Oper} {ss:List Sym} {st:St} {i:Nat} {o:Oper},Chain P all l ss st->l[i]?=some o ->
  ∃ s,ss[i]?=some s/\yj o.dst st.n=true/\DStep P all o (puts (l.take i) (ss.take i) st) s
 | [],ss,st,i,o,h,hi=>by simp at hi
 |x::r,ss,st,0,o,h,hi=>by
  simp at hi;subst hi
  obtain⟨s,ss',rfl,H,G,F⟩:=h;exact⟨s,by simp,H,by simpa[puts] using G⟩
 |x::r,ss,st,i+1,o,h,hi=>by
  obtain⟨s,ss',rfl,H,G,F⟩:=h;obtain⟨s',q1,q2,q3⟩:=WZ F (by simpa using hi)
  refine⟨s',by simpa using q1,?_,by simpa[puts] using q3⟩
  have:(st.put x.dst s).n=st.n:=by cases x.dst <;> rfl
  rw[this] at q2;exact q2
theorem Yi:∀ (l:List Oper) (ss:List Sym) (st:St),(puts l ss st).own=st.own/\(puts l ss st).n=st.n/\(puts l ss st).next=st.next/\(puts l ss st).base=st.base/\(puts l ss st).moved=st.moved
 | [],ss,st=>by simp[puts]
 |o::r,[],st=>by simp[puts]
 |o::r,s::ss,st=>by
  have h:=Yi r ss (st.put o.dst s);have e:(st.put o.dst s).own=st.own/\(st.put o.dst s).n=st.n/\(st.put o.dst s).next=st.next/\(st.put o.dst s).base=st.base/\(st.put o.dst s).moved=st.moved:=by cases o.dst <;> exact⟨rfl,rfl,rfl,rfl,rfl⟩
  exact⟨h.1.trans e.1,h.2.1.trans e.2.1,h.2.2.1.trans e.2.2.1,h.2.2.2.1.trans e.2.2.2.1,h.2.2.2.2.trans e.2.2.2.2⟩
theorem K0:∀ {l:List Oper} {ss:List Sym} {st:St} {t:Nat},l.length=ss.length ->
  (∃ (i:Nat) (o:Oper) (s:Sym),l[i]?=some o/\ss[i]?=some s/\o.dst=some t/\zc (puts l ss st).slots t=some s)\/((∀ (i:Nat) (o:Oper),l[i]?=some o->o.dst≠some t)/\zc (puts l ss st).slots t=zc st.slots t)
 | [],[],st,t,_=>.inr ⟨by simp,by simp[puts]⟩
 |o::r,s::ss,st,t,H=>by
  rcases K0 (l:=r) (ss:=ss) (st:=st.put o.dst s) (t:=t) (by simpa using H) with⟨i,o',s',G,F,E,K⟩ | ⟨G,F⟩
  .exact .inl ⟨i+1,o',s',by simpa using G,by simpa using F,E,by simpa[puts] using K⟩
  .by_cases e:o.dst=some t
   .refine .inl ⟨0,o,s,by simp,by simp,e,?_⟩
    simp only[puts];rw[F];simp only[e,St.put,zc,if_true]
   .refine .inr ⟨?_,?_⟩
    .intro i o' hi
     cases i with
     |zero=>simp at hi;subst hi;exact e
     |succ i=>exact G i o' (by simpa using hi)
    .simp only[puts];rw[F]
     cases J:o.dst with
     |none=>rfl
     |some d=>
      rw[J] at e;simp only[St.put,zc];rw[if_neg (by simpa using e)]
theorem Vx{all:List Oper}:∀ {l:List Oper} {ss:List Sym} {st:St},Chain P all l ss st->l.length=ss.length
 | [],ss,st,h=>by simp only[Chain] at h;simp[h]
 |o::r,ss,st,h=>by obtain⟨s,ss',rfl,_,_,H⟩:=h;simp[Vx H]
def tmpsOf(all:List Oper)(o:Oper):List Tmp:=
 (o.op.operands.toList.filterMap λ| .tmp t=>some t | _=>none)++(match o.guard with
  |some (j,_)=>((all[j]?).bind (·.dst)).toList
  |none=>[])
def bound(o:Oper)(j:Nat):Bool:=o.after.toList.any λe=>Region.binds .any e&&e.on==j
def ML(i:Nat)(o:Oper):Bool:=o.after.toList.all λe=>!Region.binds .any e || decide (e.on<i)
def MM(all:List Oper)(i j:Nat)(x y:Oper):Bool:=
 (match x.dst with
  |some t=>(!(tmpsOf all y).contains t ||bound y i)&&y.dst != some t
  |none=>true) &&
 (match y.dst with
  |some t=>!(tmpsOf all x).contains t ||bound y i
  |none=>true)
def MN(all:List Oper)(x:Oper):Bool:=match x.dst with
 |some t=>!(tmpsOf all x).contains t
 |none=>true
def yT(all:List Oper):Bool:=
 all.zipIdx.all λ(y,j)=>ML j y&&MN all y&&all.zipIdx.all λ(x,i)=>!decide (i<j) || MM all i j x y
end
end Go.V
namespace Go.V
variable [Dr] [Ov]
open Go.RowKit
theorem zh9{P:Program}{look:Nat->Option Obj'}{ρ ρ':Operand->Sym}{op:Op}{k:Sym->Prop}(h:∀ x∈op.operands,ρ x=ρ' x)(hs:kf P look ρ op k):kf P look ρ' op k:=by
 unfold kf at hs ⊢
 split at hs
 .rename_i x;rw[<-h x (by simp[Op.operands])];exact hs
 .rename_i x;rw[<-h x (by simp[Op.operands])];exact hs
 .rename_i c x y;rw[<-h c (by simp[Op.operands]),<-h x (by simp[Op.operands]),<-h y (by simp[Op.operands])];exact hs
 .rename_i t x;rw[<-h x (by simp[Op.operands])];exact hs
 .rename_i t x f;rw[<-h x (by simp[Op.operands])];exact hs
 .rename_i t x f;rw[<-h x (by simp[Op.operands])];exact hs
 .rename_i t x i;rw[<-h x (by simp[Op.operands]),<-h i (by simp[Op.operands])];exact hs
 .rename_i t x i;rw[<-h x (by simp[Op.operands]),<-h i (by simp[Op.operands])];exact hs
 .rename_i t x lo hi
  have e1:lo.map ρ=lo.map ρ':=by
   cases lo with
   |none=>rfl
   |some y=>simp[h y (by simp[Op.operands])]
  have e2:hi.map ρ=hi.map ρ':=by
   cases hi with
   |none=>rfl
   |some y=>simp[h y (by simp[Op.operands])]
  rw[<-h x (by simp[Op.operands]),<-e1,<-e2];exact hs
 .rename_i t x lo hi mx
  rw[<-h x (by simp[Op.operands]),<-h lo (by simp[Op.operands]),<-h hi (by simp[Op.operands]),<-h mx (by simp[Op.operands])];exact hs
 .rename_i op t x y ty;rw[<-h x (by simp[Op.operands]),<-h y (by simp[Op.operands])];exact hs
 .rename_i op t x;rw[<-h x (by simp[Op.operands])];exact hs
 .rename_i s t x;rw[<-h x (by simp[Op.operands])];exact hs
 .rename_i t i;rw[<-h t (by simp[Op.operands])];exact hs
 .rename_i t m x c;rw[<-h m (by simp[Op.operands]),<-h x (by simp[Op.operands])];exact hs
 .rename_i x;rw[<-h x (by simp[Op.operands])];exact hs
 .rename_i ar ts
  split at hs
  .rename_i x t H ht
   have:ρ x=ρ' x:=h x (by simp only[Op.operands,Call.operands];have:x∈ar.toList:=(by rw[H];simp);simpa using this)
   rw[<-this];exact hs
  .exact hs.elim
 .rename_i ar ts
  have e1:ar.toList.map ρ=ar.toList.map ρ':=by
   apply List.map_congr_left
   intro x H;exact h x (by simp only[Op.operands,Call.operands];simpa using H)
  rw[<-e1];exact hs
 .rename_i ar ts
  have e1:ar.toList.map ρ=ar.toList.map ρ':=by
   apply List.map_congr_left
   intro x H;exact h x (by simp only[Op.operands,Call.operands];simpa using H)
  rw[<-e1];exact hs
 .rename_i f ar ts
  have e0:ρ f=ρ' f:=h f (by simp[Op.operands,Call.operands])
  have e1:ar.toList.map ρ=ar.toList.map ρ':=by
   apply List.map_congr_left
   intro x H;exact h x (by simp only[Op.operands,Call.operands];simp;right;simpa using H)
  rw[<-e0,<-e1];exact hs
 .exact hs.elim
theorem FD{P:Program}{look:Nat->Option Obj'}{ρ ρ':Operand->Sym}{op:Op}{k:Sym->Prop}(h:∀ x∈op.operands,ρ x=ρ' x)(hs:vm P look ρ op k):vm P look ρ' op k:=by
 unfold vm at hs ⊢
 split at hs
 .rename_i t parts
  have e:(parts.toList.map λ(i,x)=>(i,ρ x))=(parts.toList.map λ(i,x)=>(i,ρ' x)):=by
   apply List.map_congr_left
   rintro⟨i,x⟩ H
   simp only
   rw[h x (by simp only[Op.operands];simp;exact⟨i,by simpa using H⟩)]
  rw[e] at hs;exact hs
 .rename_i t n parts
  have e:(parts.toList.map λ(i,x)=>(i,ρ x))=(parts.toList.map λ(i,x)=>(i,ρ' x)):=by
   apply List.map_congr_left
   rintro⟨i,x⟩ H
   simp only
   rw[h x (by simp only[Op.operands];simp;exact⟨i,by simpa using H⟩)]
  rw[e] at hs;exact hs
 .rename_i f first cap
  split at hs
  .rename_i hf
   have e:cap.toList.map ρ=cap.toList.map ρ':=by
    apply List.map_congr_left
    intro x H;exact h x (by simp only[Op.operands];simp;right;simpa using H)
   rw[e] at hs;exact hs
  .exact hs.elim
 .exact zh9 h hs
section
variable {P:Program} {X:Nat->Prop} {w0:Base} {st:St} {β:Nat->Value} {a0:Act} {w00:World}
structure Half(P:Program)(X:Nat->Prop)(all:List Oper)(ss:List Sym)(st:St)(β:Nat->Value)(a0:Act)(w00:World)(listed:Array Bool)(a:Act)(w:World):Prop where
 size:listed.size=all.length
 defers:a.defers=a0.defers
 tmps:a.tmps.size=st.n
 below:Below w00.heap.size w00 w
 down:∀ i o,all[i]?=some o->listed.getD i true=true->∀ e∈o.after.toList,Region.binds .any e=true->listed.getD e.on false=true
 done:∀ i o t s,all[i]?=some o->listed.getD i true=true->o.dst=some t->ss[i]?=some s->Sym.lo st.next s/\Sm w (Ex X β st.own) β s (a.tmps.getD t undef)
 rest:∀ t,(∀ i o,all[i]?=some o->listed.getD i true=true->o.dst≠some t)->a.tmps.getD t undef=a0.tmps.getD t undef
def seen(all:List Oper)(o:Oper)(st:St):List (Nat×Sym):=(tmpsOf all o).filterMap λt=>(zc st.slots t).map λs=>(t,s)
theorem Zq{t:Nat}:∀ {l:List Tmp} {s:Sym},zc (l.filterMap λt=>(zc st.slots t).map λs=>(t,s)) t=some s->t∈l/\zc st.slots t=some s
 | [],s,h=>by simp[zc] at h
 |x::r,s,h=>by
  simp only[List.filterMap_cons] at h;cases H:zc st.slots x with
  |none=>simp only[H,Option.map_none] at h;have:=Zq h;exact⟨List.mem_cons_of_mem _ this.1,this.2⟩
  |some y=>
   simp only[H,Option.map_some,zc] at h;split at h
   .rename_i e;subst e;simp at h;subst h;exact⟨by simp,H⟩
   .have:=Zq h;exact⟨List.mem_cons_of_mem _ this.1,this.2⟩
theorem Vy{t:Nat}{s:Sym}:∀ {l:List Tmp},t∈l->zc st.slots t=some s->zc (l.filterMap λt=>(zc st.slots t).map λs=>(t,s)) t=some s
 | [],h,_=>by cases h
 |x::r,h,hs=>by
  simp only[List.filterMap_cons];by_cases e:x=t
  .subst e;simp[hs,zc]
  .have H:t∈r:=by rcases List.mem_cons.1 h with h | h;exact absurd h.symm e;exact h
   cases G:zc st.slots x with
   |none=>simp only[Option.map_none];exact Vy H hs
   |some y=>simp only[Option.map_some,zc,e,if_false];exact Vy H hs
end
end Go.V
namespace Go.V
variable [Dr] [Ov]
open Go.RowKit
theorem XQ{all:List Oper}{o:Oper}{t:Nat}(h:Operand.tmp t∈o.op.operands):t∈tmpsOf all o:=by
 unfold tmpsOf
 refine List.mem_append.2 (.inl (List.mem_filterMap.2 ⟨.tmp t,?_,rfl⟩))
 simpa using h
theorem FG{all:List Oper}{o:Oper}{j t:Nat}{want:Bool}(H:o.guard=some (j,want))(G:(all[j]?).bind (·.dst)=some t):t∈tmpsOf all o:=by
 unfold tmpsOf
 refine List.mem_append.2 (.inr ?_)
 rw[H];simp[G]
section
variable {P:Program} {X:Nat->Prop} {w0:Base} {st:St} {β:Nat->Value} {a0:Act} {w00:World} {all:List Oper} {ss:List Sym}
theorem FH(h:yT all=true){i:Nat}{o:Oper}(hi:all[i]?=some o):(∀ e∈o.after.toList,Region.binds .any e=true->e.on<i)/\(∀ t,o.dst=some t->t∉tmpsOf all o):=by
 unfold yT at h
 have H:(o,i)∈all.zipIdx:=by rw[List.mem_zipIdx_iff_getElem?];exact hi
 have:=(List.all_eq_true.1 h) _ H
 simp only[Bool.and_eq_true] at this
 obtain⟨⟨G,F⟩,_⟩:=this
 constructor
 .intro e E hb
  unfold ML at G;have:=(List.all_eq_true.1 G) e E
  simpa[hb] using this
 .intro t ht
  unfold MN at F;rw[ht] at F;simpa using F
theorem ki(h:yT all=true){i j:Nat}{x y:Oper}(hi:all[i]?=some x)(hj:all[j]?=some y)(H:i<j):
  (∀ t,x.dst=some t->(t∈tmpsOf all y->bound y i=true)/\y.dst≠some t)/\(∀ t,y.dst=some t->t∈tmpsOf all x->bound y i=true):=by
 unfold yT at h
 have F:(y,j)∈all.zipIdx:=by rw[List.mem_zipIdx_iff_getElem?];exact hj
 have G:(x,i)∈all.zipIdx:=by rw[List.mem_zipIdx_iff_getElem?];exact hi
 have E:=(List.all_eq_true.1 h) _ F
 simp only[Bool.and_eq_true] at E
 have K:=(List.all_eq_true.1 E.2) _ G
 simp only[H,decide_true,Bool.not_true,Bool.false_or] at K
 unfold MM at K
 simp only[Bool.and_eq_true] at K
 constructor
 .intro t J
  have L:=K.1;rw[J] at L;simp only[Bool.and_eq_true,Bool.or_eq_true,Bool.not_eq_true',bne_iff_ne] at L;refine⟨λhmem=>?_,L.2⟩
  rcases L.1 with M | M
  .rw[List.contains_iff_mem.2 hmem] at M;cases M
  .exact M
 .intro t J hmem
  have L:=K.2;rw[J] at L;simp only[Bool.or_eq_true,Bool.not_eq_true'] at L;rcases L with M | M
  .rw[List.contains_iff_mem.2 hmem] at M;cases M
  .exact M
theorem Zr{o:Oper}{j:Nat}(h:bound o j=true):∃ e∈o.after.toList,Region.binds .any e=true/\e.on=j:=by
 unfold bound at h
 obtain⟨e,H,h⟩:=List.any_eq_true.1 h
 simp at h
 exact⟨e,H,h.1,h.2⟩
theorem zgq(B:yT all=true)(hm:Mods X w0 st β a0 w00)(F1:Chain P all all ss st){listed:Array Bool}{a:Act}{w:World}(hh:Half P X all ss st β a0 w00 listed a w)
  {i:Nat} {o:Oper} (hi:all[i]?=some o) (J:listed.getD i true=false) (E:∀ e∈o.after.toList,Region.binds .any e=true->listed.getD e.on false=true) {N:Act->World->Prop} {Q:Exit->Act->World->Prop}
  (hN:∀ a' w',Half P X all ss st β a0 w00 (listed.setIfInBounds i true) a' w'->N a' w'):wpOp P all.toArray Q i N a w:=by
 have I:=Vx F1
 obtain⟨s,hs,hd,H⟩:=WZ F1 hi
 have T:i<all.length:=(List.getElem?_eq_some_iff.1 hi).1
 generalize Fd:puts (all.take i) (ss.take i) st=zX at H
 obtain⟨ho,hn,hx⟩:=Yi (all.take i) (ss.take i) st
 rw[Fd] at ho hn hx
 -- what the slots that it looks at hold
 have K:∀ t∈tmpsOf all o,∀ s',zc zX.slots t=some s'->Sym.lo st.next s'/\Sm w (Ex X β st.own) β s' (a.tmps.getD t undef):=by
  intro t ht s' V;rw[<-Fd] at V;rcases K0 (l:=all.take i) (ss:=ss.take i) (st:=st) (t:=t) (by simp[I]) with⟨j,y,sj,h1,h2,h3,h4⟩ | ⟨h1,h2⟩
  .rw[h4] at V;cases V
   have S:j<i:=by
    rcases Nat.lt_or_ge j i with h | h
    .exact h
    .rw[List.getElem?_take,if_neg (by omega)] at h1;cases h1
   rw[List.getElem?_take,if_pos S] at h1;rw[List.getElem?_take,if_pos S] at h2;have hb:=((ki B h1 hi S).1 t h3).1 ht;obtain⟨e,he,O,W⟩:=Zr hb;have hl:=E e he O;rw[W] at hl;have H0:listed.getD j true=true:=by
    have G:j<listed.size:=by rw[hh.size];omega
    simp[Array.getD,G] at hl ⊢;exact hl
   exact hh.done j y t s' h1 H0 h3 h2
  .rw[h2] at V
   have Y:a.tmps.getD t undef=a0.tmps.getD t undef:=by
    refine hh.rest t λj y hj F M=>?_
    rcases Nat.lt_trichotomy j i with h | h | h
    .exact h1 j y (by rw[List.getElem?_take,if_pos h];exact hj) M
    .subst h;rw[J] at F;cases F
    .have hb:=(ki B hi hj h).2 t M ht
     obtain⟨e,he,O,W⟩:=Zr hb;have:=hh.down j y hj F e he O
     rw[W] at this;have G:i<listed.size:=by rw[hh.size];exact T
     simp[Array.getD,G] at this J;rw[this] at J;cases J
   rw[Y];have:=hm.slots t s' V
   exact⟨this.1,Sm.over (m:=st.next) (λ_ _=>rfl) (Over.of_below hh.below _) this.1 this.2⟩
 -- a state for it
 let st':St:={st with slots:=seen all o zX}
 have Fn:Mods X w0 st' β a w:=by
  refine⟨hm.outer,hm.still,hm.one,hh.defers.trans hm.defers,hh.tmps,hm.below.next hh.below,hm.keys,?_,hm.apart,?_⟩
  .intro id ob L
   obtain⟨q1,q2,q3⟩:=hm.own id ob L;exact⟨q1,q2,yM.over (m:=st.next) (λ_ _=>rfl) (Over.of_below hh.below _) q1 q2 (λb hb=>hh.below.block b (hm.lt b (.inr ⟨id,ob,L,hb⟩))) q3⟩
  .intro t s' ht
   obtain⟨q1,q2⟩:=Zq ht;exact K t q1 s' q2
 have H1:∀ x∈o.op.operands,zX.val x=st'.val x:=by
  intro x Fr;cases x with
  |tmp t=>
   simp only[St.val];have L:t∈tmpsOf all o:=XQ Fr
   cases hl:zc zX.slots t with
   |some s'=>
    have:zc st'.slots t=some s':=Vy L hl
    rw[this]
   |none=>
    cases H0:zc st'.slots t with
    |none=>rfl
    |some s'=>have:=(Zq H0).2;rw[hl] at this;cases this
  |_=>rfl
 have Z:zX.look=st'.look:=by funext id;simp only[St.look,ho];rfl
 -- behind it
 have after:∀ v w',Below w.heap.size w w'->Sym.lo st.next s->Sm w' (Ex X β st.own) β s v->Half P X all ss st β a0 w00 (listed.setIfInBounds i true) (a.put o.dst v) w':=by
  intro v w' hb Fs Hc;have Fk:=x9 hd;have Eq:Over w (Ex X β st.own) w' (Ex X β st.own):=Over.of_below hb _
  have C:∀ j,(listed.setIfInBounds i true).getD j true=if j=i then true else listed.getD j true:=by
   intro j;by_cases e:j=i
   .subst e
    have G:j<listed.size:=by rw[hh.size];exact T
    simp[Array.getD,G]
   .simp only[e,if_false]
    by_cases G:j<listed.size
    .simp[Array.getD,G,Array.getElem_setIfInBounds,Ne.symm e]
    .simp[Array.getD,G]
  have Fm:∀ j,listed.getD j false=true->(listed.setIfInBounds i true).getD j false=true:=by
   intro j hj;by_cases G:j<listed.size
   .simp[Array.getD,G,Array.getElem_setIfInBounds] at hj ⊢;right;exact hj
   .simp[Array.getD,G] at hj
  refine⟨by simp[hh.size],by cases o.dst <;> exact hh.defers,by rw[<-hh.tmps];cases o.dst <;> simp[Act.put],hh.below.trans (hb.mono hh.below.size),?_,?_,?_⟩
  .intro j y hj F e he O
   rw[C] at F;by_cases e':j=i
   .subst e';rw[hi] at hj;cases hj;exact Fm _ (E e he O)
   .simp only[e',if_false] at F;exact Fm _ (hh.down j y hj F e he O)
  .intro j y t sj hj F M Hi
   rw[C] at F;rw[F6 (λd Hs=>by rw[hh.tmps];exact Fk d Hs)]
   by_cases e':j=i
   .subst e';rw[hi] at hj;cases hj
    rw[hs] at Hi;cases Hi;rw[if_pos M];exact⟨Fs,Hc⟩
   .simp only[e',if_false] at F
    have Go:¬(o.dst=some t):=by
     intro h;rcases Nat.lt_or_gt_of_ne e' with h' | h'
     .exact((ki B hj hi h').1 t M).2 h
     .exact((ki B hi hj h').1 t h).2 M
    rw[if_neg Go];have:=hh.done j y t sj hj F M Hi
    exact⟨this.1,Sm.over (m:=st.next) (λ_ _=>rfl) Eq this.1 this.2⟩
  .intro t ht
   rw[F6 (λd Hs=>by rw[hh.tmps];exact Fk d Hs)]
   have Go:¬(o.dst=some t):=ht i o hi (by rw[C];simp)
   rw[if_neg Go];exact hh.rest t λj y hj F=>ht j y hj (by rw[C];split;rfl;exact F)
 -- the operation
 have A:(Zp zX.val o.op=true/\vm P zX.look zX.val o.op (λs'=>s'=s))->o.wp P a w N Q:=by
  intro⟨h1,h2⟩;rw[Z] at h2;have h3:=FD H1 h2;exact Vl Fn o h3 N Q λs' v w' e hl hb Hc=>by subst e;exact hN _ _ (after v w' hb hl Hc)
 unfold wpOp
 have D0:all.toArray[i]?=some o:=by simpa using hi
 rw[D0]
 simp only
 unfold DStep jk at H
 split at H
 .rename_i hg
  simp only[Region.wanted,hg,if_true];exact .inl (A H)
 .rename_i j want hg
  split at H
  .rename_i t ht
   split at H
   .rename_i b hb
    have F0:t∈tmpsOf all o:=FG hg ht
    have hv:=(K t F0 _ hb).2;simp only[Sm,R] at hv;have G:t<a.tmps.size:=by
     rcases Nat.lt_or_ge t a.tmps.size with h' | h'
     .exact h'
     .rw[show a.tmps.getD t undef=undef by simp[h']] at hv;simp[undef] at hv
    have hy:yielded all.toArray a.tmps j=some b:=by
     unfold yielded;rw[Zo ht];have D4:a.tmps[t]?=some (.bool b):=by
      rw[Array.getElem?_eq_getElem G];simp[G] at hv;rw[hv]
     simp[D4]
    simp only[Region.wanted,hg,hy];by_cases e:b=want
    .subst e
     simp only[beq_self_eq_true,if_true];exact .inl (A (H.1 rfl))
    .have e':b = !want:=by cases b <;> cases want <;> simp_all
     have:(some b==some want)=false:=by simp[e]
     simp only[this,Bool.false_eq_true,if_false];have hj:=H.2 e';rw[<-hj] at after;exact hN _ _ (after undef w (Below.refl _ _) (by simp[Sym.lo]) (by simp[Sm,R]))
   .rename_i v hb
    have F0:t∈tmpsOf all o:=FG hg ht
    have hv:=(K t F0 _ hb).2;obtain⟨rfl,hj⟩:=H;simp only[Sm,R] at hv;have hy:yielded all.toArray a.tmps j=none:=WV (Zo ht) hv
    simp only[Region.wanted,hg,hy];have:((none:Option Bool)==some want)=false:=rfl
    simp only[this,Bool.false_eq_true,if_false];rw[<-hj] at after;exact hN _ _ (after undef w (Below.refl _ _) (by simp[Sym.lo]) (by simp[Sm,R]))
   .exact H.elim
  .exact H.elim
theorem K2(F:yT all=true){listed:Array Bool}(K:listed.size=all.length)(J:Region.ready .any all.toArray listed=[]):∀ i,i<all.length->listed.getD i true=true:=by
 intro i
 induction i using Nat.strongRecOn with
 |_ i ih=>
  intro hi;by_cases h:listed.getD i true=true
  .exact h
  .exfalso
   have L:listed.getD i true=false:=by simpa using h
   have H:i∈Region.ready .any all.toArray listed:=by
    unfold Region.ready;refine List.mem_filter.2 ⟨by simpa using hi,?_⟩
    have M:all.toArray[i]?=some all[i]:=by simp[hi]
    rw[L,M];simp only[Bool.not_false,Bool.true_and,Option.map_some,Option.getD_some];rw[Array.all_eq_true'];intro e O;by_cases Q:Region.binds .any e=true
    .have E:=(FH F (List.getElem?_eq_getElem hi)).1 e (by simpa using O) Q
     have:=ih e.on E (by omega)
     have G:e.on<listed.size:=by omega
     simp[Array.getD,G] at this ⊢;right;exact this
    .simp[Q]
   rw[J] at H;cases H
theorem MO(M:yT all=true)(O:Mods X w0 st β a0 w00)(K:Chain P all all ss st){listed:Array Bool}{a:Act}{w:World}(Q:Half P X all ss st β a0 w00 listed a w)
  (G:∀ i,i<all.length->listed.getD i true=true):Mods X w0 (puts all ss st) β a w:=by
 have F:=Vx K
 obtain⟨T,V,Y,J,L⟩:=Yi all ss st
 have E:Over w00 (Ex X β st.own) w (Ex X β st.own):=Over.of_below Q.below _
 refine⟨O.outer,by rw[J,Y,L];exact O.still,O.one,Q.defers.trans O.defers,by rw[V];exact Q.tmps,O.below.next Q.below,by rw[T];exact O.keys,?_,by rw[T];exact O.apart,?_⟩
 .rw[T,Y]
  intro id ob H;obtain⟨q1,q2,q3⟩:=O.own id ob H;exact⟨q1,q2,yM.over (m:=st.next) (λ_ _=>rfl) E q1 q2 (λb Z=>Q.below.block b (O.lt b (.inr ⟨id,ob,H,Z⟩))) q3⟩
 .rw[T,Y]
  intro t s A;rcases K0 (l:=all) (ss:=ss) (st:=st) (t:=t) F with⟨i,o,s',B,C,I,N⟩ | ⟨B,C⟩
  .rw[N] at A;cases A
   exact Q.done i o t s B (G i (List.getElem?_eq_some_iff.1 B).1) I C
  .rw[C] at A
   rw[Q.rest t (λi o hi _=>B i o hi)]
   have:=O.slots t s A
   exact⟨this.1,Sm.over (m:=st.next) (λ_ _=>rfl) E this.1 this.2⟩
theorem MP(H:yT all=true)(T:Mods X w0 st β a0 w00)(E:Chain P all all ss st){Q:Exit->Act->World->Prop}
  (V:∀ a w,Mods X w0 (puts all ss st) β a w->Q .normal a w):∀ (fuel:Nat) (listed:Array Bool) (a:Act) (w:World),(listed.toList.filter (!·)).length<=fuel->Half P X all ss st β a0 w00 listed a w ->
  wpAny P .any all.toArray Q fuel listed a w
 |0,listed,a,w,Y,Z=>by
  have G:∀ i,i<all.length->listed.getD i true=true:=by
   intro i hi;have K:i<listed.size:=by rw[Z.size];exact hi
   by_cases h:listed[i]=true
   .simp[Array.getD,K,h]
   .exfalso
    have J:listed[i]∈listed.toList.filter (!·):=List.mem_filter.2 ⟨by simp,by simpa using h⟩
    have:=List.length_pos_of_mem J
    omega
  refine⟨?_,V a w (MO H T E Z G)⟩
  unfold Region.ready;rw[List.filter_eq_nil_iff];intro i hi;rw[G i (by simpa using hi)]
  simp
 |fuel+1,listed,a,w,Y,Z=>by
  refine⟨λA=>V a w (MO H T E Z (K2 H Z.size A)),λi hi=>?_⟩
  unfold Region.ready at hi;obtain⟨L,hi⟩:=List.mem_filter.1 hi;simp only[Bool.and_eq_true,Bool.not_eq_true'] at hi;obtain⟨F,hi⟩:=hi;cases B:all.toArray[i]? with
  |none=>rw[B] at hi;simp at hi
  |some o=>
   rw[B] at hi;simp only[Option.map_some,Option.getD_some] at hi;have M:i<all.length:=by simpa using L
   have K:i<listed.size:=by rw[Z.size];exact M
   refine zgq H T E Z (by simpa using B) F ?_ λa' w' hh'=>MP H T E V fuel _ a' w' ?_ hh'
   .intro e C hb
    rw[Array.all_eq_true'] at hi;have:=hi e (by simpa using C)
    simpa[hb] using this
   .have O:listed[i]=false:=by simpa[Array.getD,K] using F
    have key:∀ (l:List Bool) (i:Nat) (h:i<l.length),l[i]=false->((l.set i true).filter (!·)).length+1=(l.filter (!·)).length:=by
     intro l;induction l with
     |nil=>intro i h;simp at h
     |cons x r ih=>
      intro i h I;cases i with
      |zero=>simp at I;subst I;simp
      |succ i=>
       have:=ih i (by simpa using h) (by simpa using I)
       simp only[List.set_cons_succ,List.filter_cons];split <;> simp[this]
    have:=key listed.toList i (by simpa using K) (by simpa using O)
    rw[Array.toList_setIfInBounds];omega
theorem zdk{id:Nat}(H:P.follows .mixedOrders=true)(F:yT all=true){Q:DE->St->Prop}(h:kY P all all st (Q .normal)):Triple P (.region id all.toArray true) Q st:=by
 intro X w0 β a w J
 obtain⟨ss,E,L⟩:=MK h
 refine wp_region_any H ?_
 have G:Mods X w0 st β a {w with drawn:=w.drawn+1}:=by
  have M:Below w.heap.size w {w with drawn:=w.drawn+1}:=⟨⟨rfl,rfl,rfl,Nat.le_refl _,λ_ _=>rfl⟩,λ_=>Nat.le_succ _⟩
  have:=J.put M (dst:=none) (s:=.junk) (v:=undef) (by simp) (by simp[Sym.lo]) (by simp[Sm])
  simpa[St.put,Act.put] using this
 refine MP F G E (λa w K=>⟨.normal,_,β,trivial,L,K⟩) _ _ a _ ?_ ?_
 .simp
 .have O:∀ i,(Array.replicate all.toArray.size false).getD i true=true->¬i<all.length:=by
   intro i h hi;simp[Array.getD,hi] at h
  refine⟨by simp,rfl,G.size,Below.refl _ _,?_,?_,λ_ _=>rfl⟩
  .intro i o hi T
   exact absurd (List.getElem?_eq_some_iff.1 hi).1 (O i T)
  .intro i o t s hi T
   exact absurd (List.getElem?_eq_some_iff.1 hi).1 (O i T)
end
end Go.V
namespace Go.V
variable [Dr] [Ov]
open Go.RowKit
def FI(P:Program)(all r:List Oper)(K:St->Prop):St->Prop:=λst=>jh P all r st K
def MQ(P:Program)(all r:List Oper)(dst:Option Tmp)(st:St)(K:St->Prop):Sym->Prop:=λs=>kY P all r (st.put dst s) K
def MR(P:Program)(all r:List Oper)(dst:Option Tmp)(st:St)(K:St->Prop):Sym->Prop:=WY (guards all dst) λs=>kY P all r (st.put dst s) K
def zle:Op->Bool
 |.call c=>match c.callee with
  |.builtin .copy=>true
  |.builtin .append=>true
  |.builtin .clear=>true
  |_=>false
 |.store _ _ _=>true
 |.box _ _=>true
 |.alloc _=>true
 |.makeSlice _ _ _=>true
 |.makeMap _ _=>true
 |.range _ _=>true
 |.next _ _=>true
 |.mapUpdate _ _ _ _=>true
 |_=>false
def zji(o:Oper):Bool:=Nat.beq o.type 0&&(match o.op with
 |.call {callee:=.value _,args:=_,argTypes:=_}=>true
 |_=>false)
def Vz(ops:List Oper):Bool:=yT ops && !(ops.any λo=>zle o.op || zji o)
theorem zia{ops:List Oper}(h:Vz ops=true):yT ops=true:=by
 unfold Vz at h;rw[Bool.and_eq_true] at h;exact h.1
def ev(P:Program):Code->(DE->St->Prop)->St->Prop
 |.skip,Q,st=>Q .normal st
 |.region id ops draw,Q,st=>if draw=true then (if Vz ops.toList=true then kY P ops.toList ops.toList st (Q .normal) else Triple P (.region id ops true) Q st)
  else jh P ops.toList ops.toList st (Q .normal)
 |.seq x y,Q,st=>ev P x (Yg (λst'=>ev P y Q st') Q) st
 |.cond c x y,Q,st=>match st.val c with
  |.d (.bool b)=>(b=true->ev P x Q st)/\(b=false->ev P y Q st)
  |_=>False
 |.block id c,Q,st=>ev P c (vU id Q) st
 |.exit id,Q,st=>Q (.exit id) st
 |.ret,Q,st=>Q .ret st
 |.loop c,Q,st=>Triple P (.loop c) Q st
 |.scope c,Q,st=>ev P c Q st
 |.label _,Q,st=>Q .normal st
 |c,Q,st=>Triple P c Q st
def VA(P:Program)(y:Code)(Q:DE->St->Prop):DE->St->Prop:=Yg (λst=>ev P y Q st) Q
def K3(Q:DE->St->Prop):St->Prop:=λst=>Q .normal st
section
variable {P:Program} {X:Nat->Prop} {w0:Base} {st:St} {β:Nat->Value} {a:Act} {w w':World}
theorem zL(H:P.follows .mixedOrders=true):∀ {c:Code} {Q:DE->St->Prop} {st:St},ev P c Q st->Triple P c Q st
 |.skip,Q,st,h=>gm (c:=.skip) h
 |.region id ops draw,Q,st,h=>by
  simp only[ev] at h;split at h
  .rename_i e;subst e
   split at h
   .rename_i F
    have:=zdk (id:=id) H (zia F) h
    simpa using this
   .exact h
  .rename_i e
   have e:draw=false:=by simpa using e
   subst e;exact gm (c:=.region id ops false) (by simpa[kX] using h)
 |.seq x y,Q,st,h=>by
  simp only[ev] at h;intro X w0 β a w E;refine wp_seq (wp_mono (zL H h X w0 β a w E) ?_)
  rintro e a' w' ⟨de,st',β',K,J,G⟩
  cases e <;> cases de <;> simp only[yr] at K
  .exact zL H J X w0 β' a' w' G
  .subst K;exact⟨.exit _,st',β',rfl,J,G⟩
  .exact⟨.ret,st',β',trivial,J,G⟩
 |.cond c x y,Q,st,h=>by
  simp only[ev] at h;intro X w0 β a w E;split at h
  .rename_i b hb
   have L:=(E.val c).2;rw[hb] at L;simp only[Sm,R] at L;refine wp_cond L ?_
   cases b
   .exact zL H (h.2 rfl) X w0 β a w E
   .exact zL H (h.1 rfl) X w0 β a w E
  .exact h.elim
 |.block id c,Q,st,h=>by
  simp only[ev] at h;intro X w0 β a w E;refine wp_block (wp_mono (zL H h X w0 β a w E) ?_)
  rintro e a' w' ⟨de,st',β',K,J,G⟩
  cases e <;> cases de <;> simp only[yr] at K
  .exact⟨.normal,st',β',trivial,J,G⟩
  .subst K
   simp only[vU] at J;simp only[Exit.inBlock];split
   .rename_i e;rw[if_pos e] at J;exact⟨.normal,st',β',trivial,J,G⟩
   .rename_i e;rw[if_neg e] at J;exact⟨.exit _,st',β',rfl,J,G⟩
  .exact⟨.ret,st',β',trivial,J,G⟩
 |.exit id,Q,st,h=>gm (c:=.exit id) h
 |.ret,Q,st,h=>gm (c:=.ret) h
 |.loop c,Q,st,h=>h
 |.rangeFunc ..,Q,st,h=>h
 |.scope c,Q,st,h=>by
  simp only[ev] at h;intro X w0 β a w E;refine wp_scope_straight (wp_mono (zL H h X w0 β a w E) ?_)
  rintro e a' w' ⟨de,st',β',K,J,G⟩
  cases e <;> first | (cases de <;> exact K.elim) | exact⟨de,st',β',K,J,G⟩
 |.label l,Q,st,h=>λX w0 β a w E=>wp_label ⟨.normal,st,β,trivial,h,E⟩
 |.goto ..,Q,st,h=>h
 |.refuse ..,Q,st,h=>h
theorem zr(E:P.follows .mixedOrders=true){α:Type}{c:Code}{Q:DE->St->Prop}(S:α->St)(inv:α->Prop)(μ:α->Nat)(x0:α)(Y:inv x0)(Z:Weak st (S x0))
  (A:∀ x,inv x->ev P c (afterLoop S inv μ x Q) (S x)):Triple P (.loop c) Q st:=by
 intro X w0 β a w B
 let I:Nat->Act->World->Prop:=λn a w=>∃ x β,inv x/\μ x=n/\Mods X w0 (S x) β a w
 have key:∀ a w,(∃ n,I n a w)->∃ n,I n a w/\∀ m,I m a w->n<=m:=by
  intro a w ⟨n,C⟩;induction n using Nat.strongRecOn with
  |_ n ih=>
   by_cases h:∃ m,m<n/\I m a w
   .obtain⟨m,N,W⟩:=h;exact ih m N W
   .exact⟨n,C,λm B=>by rcases Nat.lt_or_ge m n with h' | h';exact absurd ⟨m,h',B⟩ h;exact h'⟩
 classical
 let M:Act->World->Nat:=λa w=>if h:∃ n,I n a w then Classical.choose (key a w h) else 0
 refine wp_loop (λa w=>∃ n,I n a w) M ⟨_,x0,β,Y,rfl,B.weak Z⟩ ?_
 intro a w hI
 have G:=Classical.choose_spec (key a w hI)
 have hM:M a w=Classical.choose (key a w hI):=dif_pos hI
 rw[<-hM] at G
 obtain⟨⟨x,β',hx,hμ,L⟩,O⟩:=G
 refine wp_mono (zL E (A x hx) X w0 β' a w L) ?_
 rintro e a' w' ⟨de,st',β'',he,hq,H⟩
 cases e <;> cases de <;> simp only[yr] at he
 .obtain⟨y,hy,V,K⟩:=hq
  have F:∃ n,I n a' w':=⟨μ y,y,β'',hy,rfl,H.weak K⟩
  refine⟨F,?_⟩
  have J:=Classical.choose_spec (key a' w' F);have T:M a' w'=Classical.choose (key a' w' F):=dif_pos F
  rw[<-T] at J;have:=J.2 (μ y) ⟨y,β'',hy,rfl,H.weak K⟩
  omega
 .subst he;exact⟨.exit _,st',β'',rfl,hq,H⟩
 .exact⟨.ret,st',β'',trivial,hq,H⟩
theorem zn(F:P.follows .mixedOrders=true){f:Nat}{fn:Func}{c:Code}(K:P.funcs[f]?=some fn)(J:fn.body=some c)(G:callable P f=true){args:List D}{r:D}
  (h:ev P c (jG (uD P fn.results.toList r)) (jj fn.ntmps args)):zj P f args r:=by
 refine⟨G,λw E vs L M=>?_⟩
 refine calls_of_wp K J ?_
 refine wp_mono (zL F h E (.of w) _ _ w (Mods.init L M)) ?_
 rintro e a' w' ⟨de,st',β',O,Q,H⟩
 cases e <;> cases de <;> simp only[yr] at O
 .obtain⟨v,T,V⟩:=wN H Q
  exact⟨H.defers,v,T,v,rfl,H.below.below,V⟩
 .exact Q.elim
 .obtain⟨v,T,V⟩:=wN H Q
  exact⟨H.defers,v,T,v,rfl,H.below.below,V⟩
def resE(P:Program)(rs:List ResultVar)(Φ:D->Prop)(st:St):Prop:=∃ r,Φ r/\uD P rs r st
theorem qV(F:P.follows .mixedOrders=true){f:Nat}{fn:Func}{c:Code}(K:P.funcs[f]?=some fn)(J:fn.body=some c)(G:callable P f=true){args:List D}{Φ:D->Prop}
  (h:ev P c (jG (resE P fn.results.toList Φ)) (jj fn.ntmps args)):xU P f args Φ:=by
 refine⟨G,λw E vs L M=>?_⟩
 refine calls_of_wp K J ?_
 refine wp_mono (zL F h E (.of w) _ _ w (Mods.init L M)) ?_
 rintro e a' w' ⟨de,st',β',O,Q,H⟩
 cases e <;> cases de <;> simp only[yr] at O
 .obtain⟨r,hΦ,Q⟩:=Q
  obtain⟨v,T,V⟩:=wN H Q;exact⟨H.defers,v,T,v,r,rfl,H.below.below,hΦ,V⟩
 .exact Q.elim
 .obtain⟨r,hΦ,Q⟩:=Q
  obtain⟨v,T,V⟩:=wN H Q;exact⟨H.defers,v,T,v,r,rfl,H.below.below,hΦ,V⟩
theorem VB(K:P.follows .mixedOrders=true){f:Nat}{fn:Func}{c:Code}(M:P.funcs[f]?=some fn)(O:fn.body=some c)(G:callable P f=true){args:List D}{T sz:Nat}{rows:List (List D)}(F:∀ r∈rows,r.length=sz)
  (h:ev P c (jG (WX fn.results.toList T sz rows)) (jj fn.ntmps args)):uC P f args T sz rows:=by
 refine⟨G,F,λw E vs Q V=>?_⟩
 refine calls_of_wp M O ?_
 refine wp_mono (zL K h E (.of w) _ _ w (Mods.init Q V)) ?_
 have fin:∀ {st' β' a' w'},Mods E (.of w) st' β' a' w'->WX fn.results.toList T sz rows st'->a'.defers=[]/\∃ v,(results fn a'.tmps).run P w' = .ok v w' /\
   ∃ u xs,Ending.returned v = .returned u/\Below w.heap.size w w'/\w'.ownsRow w.heap.size T sz u rows.length xs/\(∀ b,blk u=some b->xF w' b)/\zi w' (λb=>E b\/blk u=some b) rows.flatten xs:=by
  intro st' β' a' w' H X;unfold WX at X;split at X
  .rename_i t L
   split at X
   .rename_i id hs
    split at X
    .rename_i T' sz' rows' J
     obtain⟨rfl,rfl,rfl⟩:=X;obtain⟨_,_,xs,q1,q2,q3⟩:=H.obj J;have Y:=(H.slots t _ hs).2;simp only[Sm] at Y;refine⟨H.defers,β' id,?_,β' id,xs,rfl,H.below.below,q1.row (λb O=>O.elim (λh=>h) (λh=>h.elim)),λb O=>(q1.2 b O).2,zi.over (Over.less ?_) _ _ q2⟩
     .have:fn.results = #[.tmp t]:=by
       have:=congrArg List.toArray L;simpa using this
      rw[results_tmp this,Y]
     .rintro b (h | h)
      .exact .inl h
      .exact .inr ⟨id,_,yZ J,h⟩
    .exact X.elim
   .exact X.elim
  .exact X.elim
 rintro e a' w' ⟨de,st',β',Z,X,H⟩
 cases e <;> cases de <;> simp only[yr] at Z
 .exact fin H X
 .exact X.elim
 .exact fin H X
theorem zF.pure{f:Operand}{xs:List Operand}{dst:Option Tmp}{K:St->Prop}{g:Nat}{ds:List D}{lent:Bool}{r:D}(H:jY st f xs=some (g,ds,lent))(G:zj P g ds r)
  (hs:lent=true->r.scalar=true) (F:K (st.put dst (.d r))):zF P st f xs dst K:=by
 unfold zF gk;left;rw[H];exact .inl ⟨r,G,λe=>.inl (hs e),F⟩
theorem zg{f:Operand}{xs:List Operand}{dst:Option Tmp}{K:St->Prop}{g:Nat}{ds:List D}{lent:Bool}{r:D}(H:zj P g ds r)(G:K (st.put dst (.d r)))(F:jY st f xs=some (g,ds,lent):=by rfl)(hs:lent=true->r.scalar=true:=by first | exact λ_=>rfl | simp | simp[D.scalar]):zF P st f xs dst K:=.pure F H hs G
theorem zF.fresh{f:Operand}{xs:List Operand}{dst:Option Tmp}{K:St->Prop}{g:Nat}{ds:List D}{lent:Bool}{T sz:Nat}{rows:List (List D)}(H:jY st f xs=some (g,ds,lent))(G:uC P g ds T sz rows)
  (hs:lent=true->D.scalars rows.flatten=true) (F:K ((st.new (.arr T sz rows)).put dst (.ar st.next))):zF P st f xs dst K:=by
 unfold zF gk;left;rw[H];exact .inr ⟨T,sz,rows,G,hs,F⟩
theorem zF.frozen{f:Operand}{xs:List Operand}{dst:Option Tmp}{K:St->Prop}(h:gk P (st.xi (kg (xs.map st.val))) f xs dst K):zF P st f xs dst K:=.inr (.inl h)
theorem zF.mut{f:Operand}{xs:List Operand}{dst:Option Tmp}{K:St->Prop}{g:Nat}{caps:List Sym}(ids:List Nat)(args0:List Sym)(own0:List (Nat×Obj')){s:Sym}{nx:Nat}{own':List (Nat×Obj')}{mv:List Nat}
  (H:xh (st.val f)=some (g,caps)) (G:yp (rho ids) args0=xs.map st.val++caps) (F:Sym.los ids.length args0) (E:Fits st ids own0) (J:zJ P g args0 own0 ids.length s nx own' mv)
  (L:K ((st.after ids nx own' mv).put dst (ren (yA ids st.next) s))):zF P st f xs dst K:=.inr (.inr (.inl ⟨g,caps,ids,args0,own0,s,nx,own',mv,H,G,F,E,J,L⟩))
theorem zF.MS{st':St}{f:Operand}{xs:List Operand}{dst:Option Tmp}{K:St->Prop}{g:Nat}{caps:List Sym}(fz:List Nat)(H:st.xi fz=st')(ids:List Nat)(args0:List Sym)(own0:List (Nat×Obj')){s:Sym}{nx:Nat}{own':List (Nat×Obj')}{mv:List Nat}
  (G:xh (st'.val f)=some (g,caps)) (F:yp (rho ids) args0=xs.map st'.val++caps) (E:Sym.los ids.length args0) (J:Fits st' ids own0) (L:zJ P g args0 own0 ids.length s nx own' mv)
  (M:K ((st'.after ids nx own' mv).put dst (ren (yA ids st'.next) s))):zF P st f xs dst K:=by
 subst H
 exact .inr (.inr (.inr (.inr (.inr ⟨fz,g,caps,ids,args0,own0,s,nx,own',mv,G,F,E,J,L,M⟩))))
theorem zF.some{f:Operand}{xs:List Operand}{dst:Option Tmp}{K:St->Prop}{g:Nat}{ds:List D}{lent:Bool}{Φ:D->Prop}(H:jY st f xs=some (g,ds,lent))(G:xU P g ds Φ)
  (F:∀ r,Φ r->(lent=true->r.scalar=true)/\K (st.put dst (.d r))):zF P st f xs dst K:=by
 refine .inr (.inr (.inr (.inr (.inl ?_))))
 unfold WU;rw[H];exact⟨Φ,G,F⟩
end
section
variable {P:Program} {st:St} {Q:DE->St->Prop} {K:St->Prop} {all r:List Oper}
theorem zjj:ev P .skip Q st=Q .normal st:=rfl
theorem zgr(id:Nat)(ops:List Oper):ev P (.region id ops.toArray false) Q st=jh P ops ops st (K3 Q):=by simp[ev];rfl
theorem zjk(id:Nat)(ops:List Oper)(h:Vz ops=true):ev P (.region id ops.toArray true) Q st=kY P ops ops st (K3 Q):=by simp[ev,h];rfl
theorem zib(id:Nat)(ops:List Oper)(h:Vz ops=false):ev P (.region id ops.toArray true) Q st=Triple P (.region id ops.toArray true) Q st:=by simp[ev,h]
theorem zkn(x y:Code):ev P (.seq x y) Q st=ev P x (VA P y Q) st:=rfl
theorem zjl(c:Operand)(x y:Code):ev P (.cond c x y) Q st=match st.val c with
  |.d (.bool b)=>(b=true->ev P x Q st)/\(b=false->ev P y Q st)
  |_=>False:=rfl
theorem zic(id:Nat)(c:Code):ev P (.block id c) Q st=ev P c (vU id Q) st:=rfl
theorem zjm(id:Nat):ev P (.exit id) Q st=Q (.exit id) st:=rfl
theorem zko:ev P .ret Q st=Q .ret st:=rfl
theorem zid(c:Code):ev P (.scope c) Q st=ev P c Q st:=rfl
theorem zie(l:Nat):ev P (.label l) Q st=Q .normal st:=rfl
theorem zjn(c:Code):ev P (.loop c) Q st=Triple P (.loop c) Q st:=rfl
theorem zet(y:Code):VA P y Q .normal st=ev P y Q st:=rfl
theorem zif(y:Code)(i:Nat):VA P y Q (.exit i) st=Q (.exit i) st:=rfl
theorem zjo(y:Code):VA P y Q .ret st=Q .ret st:=rfl
theorem zgs:K3 Q st=Q .normal st:=rfl
theorem zaa(i:Nat):vU i Q .normal st=Q .normal st:=rfl
theorem zaw(i:Nat):vU i Q .ret st=Q .ret st:=rfl
theorem zaj(i j:Nat):vU i Q (.exit j) st=if j=i then Q .normal st else Q (.exit j) st:=rfl
theorem zaf{α:Type}{S:α->St}{inv:α->Prop}{μ:α->Nat}{x:α}:afterLoop S inv μ x Q .normal st = ∃ y,inv y/\μ y<μ x/\Weak st (S y):=rfl
theorem zbg{α:Type}{S:α->St}{inv:α->Prop}{μ:α->Nat}{x:α}:afterLoop S inv μ x Q .ret st=Q .ret st:=rfl
theorem zax{α:Type}{S:α->St}{inv:α->Prop}{μ:α->Nat}{x:α}(i:Nat):afterLoop S inv μ x Q (.exit i) st=Q (.exit i) st:=rfl
theorem zih:jh P all [] st K=K st:=rfl
theorem zeu(dst:Option Tmp)(op:Op)(ty:Nat)(pos:String)(after:Array Edge):
  jh P all (⟨dst,op,ty,pos,after,none⟩::r) st K=yq P ⟨dst,op,ty,pos,after,none⟩ st (FI P all r K):=rfl
theorem zev(dst:Option Tmp)(op:Op)(ty:Nat)(pos:String)(after:Array Edge)(j:Nat)(want:Bool):
  jh P all (⟨dst,op,ty,pos,after,some (j,want)⟩::r) st K=match (all[j]?).bind (·.dst) with
   |some t=>match zc st.slots t with
    |some (.d (.bool b))=>(b=want->yq P ⟨dst,op,ty,pos,after,some (j,want)⟩ (st.put (some t) (.d (.bool want))) (FI P all r K)) /\
     (b = !want->yj dst st.n=true/\jh P all r ((st.put (some t) (.d (.bool !want))).put dst (.d (.val undef))) K)
    |some (.d (.val v))=>v=undef/\yj dst st.n=true/\jh P all r (st.put dst (.d (.val undef))) K
    |_=>False
   |none=>False:=rfl
theorem zgt:FI P all r K st=jh P all r st K:=rfl
theorem zii(dst:Option Tmp)(s:Sym):QF st dst K s=K (st.put dst s):=rfl
theorem zgu:kY P all [] st K=K st:=rfl
theorem zew(o:Oper):kY P all (o::r) st K=(yj o.dst st.n=true/\jk P all o st (MR P all r o.dst st K)):=rfl
theorem zgv(dst:Option Tmp)(s:Sym):MR P all r dst st K s=splitB (guards all dst) s (MQ P all r dst st K):=rfl
theorem zgw(dst:Option Tmp)(s:Sym):MQ P all r dst st K s=kY P all r (st.put dst s) K:=rfl
end
attribute [simp] Y7 zid zie zjj zgr zjk zib zkn zjl zic zjm zko zjn zet zif zjo zgs zaa zaw zaj zaf zbg zax
attribute [simp] zih zeu zev zgt zii zgu zew zgv zgw splitB jk Zp FC guards
attribute [simp] isNil Fc XA resE XC Value.oneCell' WO WQ WR WS WN XN St.opened
attribute [simp] yq vm kf jG St.val St.put St.look St.new St.set zc zV ofConst yj slen Xh Wi Wj Wk Xi V4 kS ga Xg Xe Xf Xl Xm Xj Xk gb gd bnd elemSize GN headD Zl ke vd Xd
attribute [simp] jj XP V5 uD XO Vv lend vj uZ cellsD Weak Yh vV Sym.lo Sym.los Obj'.lo qG Vf F8 F9 Yc Vm Vn wK rowOf rowsOf inOrder M5 kg St.xi St.vk splice St.renew xI x8 zA yD qa XB Xz
attribute [simp] WH Xn xH gg Y9 wH kU uu zeroS vP Fl WG
attribute [simp] WI WJ WE WB Yd rowLen
attribute [simp] thaw xT gi kV xZ WX
end Go.V
namespace Go.V
variable [Dr] [Ov]
open Go.RowKit
def Yj:Nat->List Sym->List (Nat×Sym)
 |_,[]=>[]
 |k,d::r=>(k,d)::Yj (k+1) r
def initC(ntmps:Nat)(args:List Sym)(own:List (Nat×Obj'))(n:Nat):St:=
 {n:=args.length+(ntmps-args.length),next:=n,slots:=Yj 0 args,own:=own,base:=n,moved:=[]}
def FM(ti:TI)(l:List Sym):Option Sym:=
 if ti.agg=true then (if ti.size<=l.length then some (ke (l.take ti.size)) else none) else l.head?
def VC(P:Program)(st:St):ResultVar->Option Sym
 |.tmp t=>zc st.slots t
 |.cell ad T=>match zc st.slots ad,TI.of P T with
  |some (.bp id off),some ti=>match st.look id with
   |some (.box _ cells)=>FM ti (cells.drop off)
   |_=>none
  |_,_=>none
def XT(P:Program)(st:St):List ResultVar->Option (List Sym)
 | []=>some []
 |v::r=>match VC P st v,XT P st r with
  |some s,some l=>some (s::l)
  |_,_=>none
def FN:List Sym->Sym
 | [s]=>s
 |l=>.tup l
def uE(P:Program)(rs:List ResultVar)(n:Nat)(s:Sym)(nx:Nat)(own':List (Nat×Obj'))(mv:List Nat)(st:St):Prop:=
 (match XT P st rs with | some l=>FN l=s | none=>False)/\Sym.lo nx s/\Weak st {n:=st.n,next:=nx,slots:=[],own:=own',base:=n,moved:=mv}
theorem MU:∀ {k t:Nat} {l:List Sym} {s:Sym},zc (Yj k l) t=some s->∃ j,t=k+j/\l[j]?=some s
 |k,t,[],s,h=>by simp[Yj,zc] at h
 |k,t,d::r,s,h=>by
  simp only[Yj,zc] at h;split at h
  .rename_i e;simp at h;exact⟨0,by omega,by simp[h]⟩
  .obtain⟨j,H,G⟩:=MU h
   exact⟨j+1,by omega,by simpa using G⟩
theorem zh.MV{w:World}{E:Nat->Prop}{β:Nat->Value}:∀ {l:List Sym} {vs:List Value} {j:Nat} {s:Sym},zh w E β l vs->l[j]?=some s->∃ v,vs[j]?=some v/\Sm w E β s v
 | [],vs,j,s,h,hj=>by simp at hj
 |x::r,vs,0,s,h,hj=>by
  simp only[zh] at h;obtain⟨v,vs',rfl,H,G⟩:=h;simp at hj;subst hj;exact⟨v,by simp,H⟩
 |x::r,vs,j+1,s,h,hj=>by
  simp only[zh] at h;obtain⟨v,vs',rfl,H,G⟩:=h;obtain⟨u,q1,q2⟩:=zh.MV G (by simpa using hj)
  exact⟨u,by simpa using q1,q2⟩
theorem MW{m:Nat}:∀ {l:List Sym} {j:Nat} {s:Sym},Sym.los m l->l[j]?=some s->Sym.lo m s
 | [],j,s,h,hj=>by simp at hj
 |x::r,0,s,h,hj=>by simp only[Sym.los] at h;simp at hj;subst hj;exact h.1
 |x::r,j+1,s,h,hj=>by simp only[Sym.los] at h;exact MW h.2 (by simpa using hj)
section
variable {P:Program} {X:Nat->Prop} {w0:Base} {st:St} {β:Nat->Value} {a:Act} {w w':World}
theorem Mods.initC{own:List (Nat×Obj')}{n:Nat}{args:List Sym}{vs:List Value}{ntmps:Nat}(E:Mods X w0 (yN own n n []) β qU w)(hs:zh w (Ex X β own) β args vs)(K:Sym.los n args):
  Mods X w0 (initC ntmps args own n) β {tmps:=vs.toArray++Array.replicate (ntmps-vs.toArray.size) undef,defers:=[]} w:=by
 have H:=hs.length
 refine⟨E.outer,E.still,E.one,E.defers,by simp[Go.V.initC,H],E.below,E.keys,E.own,E.apart,?_⟩
 intro t s J
 obtain⟨j,L,M⟩:=MU J
 have e:t=j:=by omega
 subst e
 obtain⟨v,O,F⟩:=hs.MV M
 refine⟨MW K M,?_⟩
 have G:t<vs.length:=by
  rcases Nat.lt_or_ge t vs.length with h | h
  .exact h
  .simp[h] at O
 have Q:(vs.toArray++Array.replicate (ntmps-vs.toArray.size) undef).getD t undef=v:=by
  rw[List.getElem?_eq_getElem G] at O;simp at O
  simp[Array.getElem?_append,G,O]
 rw[Q];exact F
theorem zcd(L:Mods X w0 st β a w){v:ResultVar}{s:Sym}(h:VC P st v=some s):∃ u,(gn a.tmps v).run P w = .ok u w/\Sm w (Ex X β st.own) β s u:=by
 cases v with
 |tmp t=>
  simp only[VC] at h;exact⟨_,rfl,(L.slots t s h).2⟩
 |cell ad T=>
  simp only[VC] at h;split at h
  .rename_i id off ti hs M
   split at h
   .rename_i T' cells E
    obtain⟨_,K,b,vs,O,F,Q,J,V⟩:=L.obj E;have Y:=(L.slots ad _ hs).2;simp only[Sm] at Y;obtain⟨b',H,Y⟩:=Y;rw[O] at H;simp at H;rw[<-H] at Y;have Z:Zl ti (cells.drop off) (λx=>x=s):=by
     unfold FM at h;unfold Zl;split at h
     .rename_i hag
      split at h
      .rename_i G
       simp at h
       rw[if_pos hag];exact⟨G,h⟩
      .cases h
     .rename_i hag
      rw[if_neg hag];cases A:cells.drop off with
      |nil=>rw[A] at h;cases h
      |cons x r=>rw[A] at h;simp at h;exact h
    obtain⟨s',u,rfl,_,B,C⟩:=IC (P:=P) (m:=st.next) (b:=b) (off:=off) M (zh.drop off J) (λu I=>V u (List.mem_of_mem_drop I)) (λj u hj=>Wp Q (by simpa[List.getElem?_drop] using hj)) (Sym.V7 off K) Z
    exact⟨u,by simp only[gn,Y];simpa[asAddr,Instr.loadAt,Instr.sureAddr] using C,B⟩
   .cases h
  .cases h
theorem MY(H:Mods X w0 st β a w):∀ {rs:List ResultVar} {l:List Sym},XT P st rs=some l->∃ us:List Value,(rs.mapM (gn a.tmps)).run P w = .ok us w/\zh w (Ex X β st.own) β l us
 | [],l,h=>by simp[XT] at h;subst h;exact⟨[],by simp,by simp[zh]⟩
 |v::r,l,h=>by
  simp only[XT] at h;split at h
  .rename_i s l' G F
   simp at h;subst h
   obtain⟨u,e1,e2⟩:=zcd H G;obtain⟨us,q1,q2⟩:=MY H F;refine⟨u::us,?_,by simp only[zh];exact⟨u,us,rfl,e2,q2⟩⟩
   simp only[List.mapM_cons,Sem.run_bind,e1,Result.andThen_ok,q1];rfl
  .cases h
theorem uF(J:[]=w0.dfs)(L:Mods X w0 st β a w){fn:Func}{n nx:Nat}{s:Sym}{own':List (Nat×Obj')}{mv:List Nat}(h:uE P fn.results.toList n s nx own' mv st):
  ∃ v,(results fn a.tmps).run P w = .ok v w/\Mods X w0 (yN own' n nx mv) β qU w/\Sym.lo nx s/\Sm w (Ex X β own') β s v:=by
 obtain⟨M,O,Q⟩:=h
 have H:=L.weak Q
 have F:Mods X w0 (yN own' n nx mv) β qU w:=⟨H.outer,H.still,H.one,J,rfl,H.below,H.keys,H.own,H.apart,by intro t s T;simp[yN,zc] at T⟩
 have E:Over w (Ex X β st.own) w (Ex X β own'):=Over.less λb V=>V.elim .inl λ⟨i,x,Y,e⟩=>.inr ⟨i,x,yZ (WW Q.2.2.2 Y).1,e⟩
 split at M
 .rename_i l Z
  obtain⟨us,q1,q2⟩:=MY L Z;have A:=Fz fn a.tmps q1;refine⟨_,A,F,O,?_⟩
  refine Xw (id:=0) (rows:=.bool true) E ?_
  subst M;unfold FN;split
  .rename_i x
   simp only[zh] at q2;obtain⟨u,us',rfl,e,rfl⟩:=q2;simpa using e
  .rename_i K
   have G:us.length≠1:=by
    rw[q2.length];intro e;cases l with
    |nil=>simp at e
    |cons d r=>
     cases r with
     |nil=>exact K d rfl
     |cons _ _=>simp at e
   simp only[G];simp only[Sm];exact⟨us,rfl,q2⟩
 .exact M.elim
theorem xW(F:P.follows .mixedOrders=true){f:Nat}{fn:Func}{c:Code}(E:P.funcs[f]?=some fn)(K:fn.body=some c)(H:callable P f=true)
  {args:List Sym} {own:List (Nat×Obj')} {n:Nat} {s:Sym} {nx:Nat} {own':List (Nat×Obj')} {mv:List Nat} (J:Sym.los n args)
  (h:ev P c (jG (uE P fn.results.toList n s nx own' mv)) (initC fn.ntmps args own n)):zJ P f args own n s nx own' mv:=by
 refine⟨H,λX w0 β w vs hβ L hs=>?_⟩
 refine calls_of_wp E K ?_
 refine wp_mono (zL F h X w0 _ _ w (L.initC hs J)) ?_
 rintro e a' w' ⟨de,st',β',M,O,G⟩
 cases e <;> cases de <;> simp only[yr] at M
 .obtain⟨v,Q,T,V,Y⟩:=uF L.defers G O
  exact⟨G.defers.trans L.defers.symm,v,Q,β',v,rfl,T,V,Y⟩
 .exact O.elim
 .obtain⟨v,Q,T,V,Y⟩:=uF L.defers G O
  exact⟨G.defers.trans L.defers.symm,v,Q,β',v,rfl,T,V,Y⟩
def FO(ids:List Nat)(Q:St->Prop):St->Prop:=λst=>Q (st.xi ids)
theorem zab(F:P.follows .mixedOrders=true){f:Nat}{fn:Func}{c:Code}(E:P.funcs[f]?=some fn)(K:fn.body=some c)(H:callable P f=true)
  {args:List Sym} {own:List (Nat×Obj')} {n:Nat} {s:Sym} {nx:Nat} {own':List (Nat×Obj')} {mv:List Nat} (ids:List Nat) (J:Sym.los n args)
  (h:ev P c (jG (FO ids (uE P fn.results.toList n s nx own' mv))) (initC fn.ntmps args own n)):zJ P f args own n s nx own' mv:=by
 refine⟨H,λX w0 β w vs hβ L hs=>?_⟩
 refine calls_of_wp E K ?_
 refine wp_mono (zL F h X w0 _ _ w (L.initC hs J)) ?_
 rintro e a' w' ⟨de,st',β',M,O,G⟩
 cases e <;> cases de <;> simp only[yr] at M
 .obtain⟨v,Q,T,V,Y⟩:=uF L.defers (G.xi (l:=ids)) O
  exact⟨G.defers.trans L.defers.symm,v,Q,β',v,rfl,T,V,Y⟩
 .exact O.elim
 .obtain⟨v,Q,T,V,Y⟩:=uF L.defers (G.xi (l:=ids)) O
  exact⟨G.defers.trans L.defers.symm,v,Q,β',v,rfl,T,V,Y⟩
theorem Zs(F:P.follows .mixedOrders=true){f:Nat}{fn:Func}{c:Code}(K:P.funcs[f]?=some fn)(J:fn.body=some c)(G:callable P f=true){args:List D}{r:D}(ids:List Nat)
  (h:ev P c (jG (FO ids (uD P fn.results.toList r))) (jj fn.ntmps args)):zj P f args r:=by
 refine⟨G,λw E vs L M=>?_⟩
 refine calls_of_wp K J ?_
 refine wp_mono (zL F h E (.of w) _ _ w (Mods.init L M)) ?_
 rintro e a' w' ⟨de,st',β',O,Q,H⟩
 cases e <;> cases de <;> simp only[yr] at O
 .obtain⟨v,T,V⟩:=wN (H.xi (l:=ids)) Q
  exact⟨H.defers,v,T,v,rfl,H.below.below,V⟩
 .exact Q.elim
 .obtain⟨v,T,V⟩:=wN (H.xi (l:=ids)) Q
  exact⟨H.defers,v,T,v,rfl,H.below.below,V⟩
end
theorem zex{P:Program}{look:Nat->Option Obj'}{c:Sym}{args:List Sym}{k:Sym->Prop}{f:Nat}{caps:List Sym}{ds:List D}{lent:Bool}{r:D}(H:xh c=some (f,caps))(G:vj look (args++caps)=some (ds,lent))(F:zj P f ds r)
  (hs:lent=true->r.scalar=true) (E:k (.d r)):jW P look c args k:=by
 unfold jW Y8
 rw[H]
 dsimp only
 rw[G]
 exact⟨r,F,λe=>.inl (hs e),E⟩
theorem scp{P:Program}{look:Nat->Option Obj'}{c:Sym}{args:List Sym}{k:Sym->Prop}{f:Nat}{caps:List Sym}{ds:List D}{lent:Bool}{r:D}(H:zj P f ds r)(G:k (.d r))(F:xh c=some (f,caps):=by rfl)(E:vj look (args++caps)=some (ds,lent):=by rfl)(hs:lent=true->r.scalar=true:=by first | exact λ_=>rfl | simp | simp[D.scalar]):jW P look c args k:=zex F E H hs G
attribute [simp] FO initC Yj uE VC XT FN FM St.after rho yA wM vT ren yp vS zS qt jE wL Fits kh xh
end Go.V

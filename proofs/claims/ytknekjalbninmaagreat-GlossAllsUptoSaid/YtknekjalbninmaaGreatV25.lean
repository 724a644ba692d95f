/- A program logic of my own over the kit: part V25. It needs no conditions. -/
import Derived.Test.YtknekjalbninmaaGreatV10
import Derived.Orders
set_option linter.all false
namespace Go.V
variable [Dr] [Ov]
open Go.RowKit
def lz{α:Type}(f:α->Prop):α->Prop:=f
def lz2{α β:Type}(f:α->β->Prop):α->β->Prop:=f
@[congr] theorem zuo{α:Type}(f:α->Prop):lz f=lz f:=rfl
@[congr] theorem zul{α β:Type}(f:α->β->Prop):lz2 f=lz2 f:=rfl
def eG(P:Program)(f:Nat)(args:List D)(T sz:Nat)(rows:List (List D)):Prop:=
 aN P f=true/\(∀ r∈rows,r.length=sz)/\∀ (w:World) (E:Nat->Prop) (vs:List Value),fp w E->zI w E args vs ->
  Calls P f vs.toArray w λe w'=>∃ v xs,e = .returned v/\Below w.heap.size w w'/\w'.ownsRow w.heap.size T sz v rows.length xs/\(∀ b,bP v=some b->xY w' b)/\zl w' (λb=>E b\/bP v=some b) rows.flatten xs
def cu(P:Program)(f:Nat)(args:List D)(Φ:D->Prop):Prop:=
 aN P f=true/\∀ (w:World) (E:Nat->Prop) (vs:List Value),fp w E->zI w E args vs ->
  Calls P f vs.toArray w λe w'=>∃ v r,e = .returned v/\Below w.heap.size w w'/\Φ r/\R w' E r v
def k7(st:St)(f:Operand)(xs:List Operand):Option (Nat×List D×Bool):=
 match xF (st.val f) with
 |some (g,aJ)=>match vO st.ay (xs.map st.val++aJ) with
  |some (ds,b)=>some (g,ds,b)
  |none=>none
 |none=>none
def ZB(P:Program)(st:St)(f:Operand)(xs:List Operand)(dst:Option Tmp)(K:St->Prop):Prop:=
 match k7 st f xs with
 |some (g,ds,lent)=>(∃ r,aq P g ds r/\Rk P g ds lent r/\K (st.put dst (.d r))) \/
  (∃ T sz rows,eG P g ds T sz rows/\(lent=true->D.dj rows.flatten=true)/\K ((st.new (.aQ T sz rows)).put dst (.ar st.next)))
 |none=>False
def Uo(P:Program)(st:St)(f:Operand)(xs:List Operand)(dst:Option Tmp)(K:St->Prop):Prop:=
 match k7 st f xs with
 |some (g,ds,lent)=>∃ Φ:D->Prop,cu P g ds Φ/\∀ r,Φ r->(lent=true->r.bZ=true)/\K (st.put dst (.d r))
 |none=>False
def zE(P:Program)(st:St)(f:Operand)(xs:List Operand)(dst:Option Tmp)(K:St->Prop):Prop:=
 ZB P st f xs dst K\/ZB P (st.xn (uB (xs.map st.val))) f xs dst K\/Bw P st f xs dst K\/BA P st f xs dst K\/Uo P st f xs dst K\/∃ aD,Bw P (st.xn aD) f xs dst K
def ve(st:St)(dst:Option Tmp)(K:St->Prop):ah->Prop:=λs=>K (st.put dst s)
def yp(dst:Option Tmp)(n:Nat):Bool:=match dst with
 |some t=>decide (t<n)
 |none=>true
def yz(P:Program)(o:Oper)(st:St)(K:St->Prop):Prop:=
 match o.op with
 |.box T x=>yp o.dst st.n=true/\Jl st o.dst T (st.val x) K
 |.alloc T=>match TI.of P T with
  |some ti=>yp o.dst st.n=true/\Ba st o.dst T ti K
  |none=>False
 |.assign (.const (.slice none 0 0))=>match TI.of P o.type with
  |some ⟨.slice e,_,_,_,_⟩=>match TI.of P e with
   |some te=>yp o.dst st.n=true/\Bc st o.dst e te.size K
   |none=>False
  |_=>False
 |.buildSlice t n parts=>yp o.dst st.n=true/\Jr P st o.dst t n parts.toList K
 |.store t ad x=>match o.dst,TI.of P t with
  |none,some ti=>Xm st ti (st.val ad) (st.val x) K
  |_,_=>False
 |.makeSlice t l c=>yp o.dst st.n=true/\Ud P st o.dst t (st.val l) (st.val c) K
 |.makeMap t none=>yp o.dst st.n=true/\Bn st o.dst t K
 |.mapUpdate t m x v=>match o.dst with
  |none=>Uc P st t (st.val m) (st.val x) (st.val v) K
  |some _=>False
 |.call {callee:=.builtin .append,args:=xs,argTypes:=ts}=>match xs.toList,ts.toList with
  | [s,x],[t,t']=>yp o.dst st.n=true/\(Js P st o.dst t t' (st.val s) (st.val x) K\/Uk P st o.dst t t' (st.val s) (st.val x) K\/Ul P st o.dst t t' (st.val s) (st.val x) K\/Um P st o.dst t t' (st.val s) (st.val x) K)
  |_,_=>False
 |.call {callee:=.builtin .copy,args:=xs,argTypes:=ts}=>match xs.toList,ts.toList with
  | [s,x],[t,_]=>yp o.dst st.n=true/\U9 P st o.dst t (st.val s) (st.val x) K
  |_,_=>False
 |.call {callee:=.builtin .cap,args:=xs,argTypes:=ts}=>match xs.toList,ts.toList with
  | [x],[t]=>yp o.dst st.n=true/\Uj P st o.dst t (st.val x) K
  |_,_=>False
 |.call {callee:=.builtin .clear,args:=xs,argTypes:=ts}=>match xs.toList,ts.toList with
  | [x],[t]=>yp o.dst st.n=true/\Ub P st o.dst t (st.val x) K
  |_,_=>False
 |.range t x=>yp o.dst st.n=true/\Ue P st o.dst t (st.val x) K
 |.next x true=>yp o.dst st.n=true/\Uf st o.dst (st.val x) K
 |.convert s t x=>yp o.dst st.n=true/\(vQ P st.ay st.val (.convert s t x) (ve st o.dst K)\/wC P st s t (st.val x) (ve st o.dst K))
 |.call {callee:=.value f,args:=xs,argTypes:=_}=>yp o.dst st.n=true/\zE P st f xs.toList o.dst K
 |op=>yp o.dst st.n=true/\vQ P st.ay st.val op (ve st o.dst K)
def wh(P:Program)(all:List Oper):List Oper->St->(St->Prop)->Prop
 | [],st,K=>K st
 |o::r,st,K=>match o.guard with
  |none=>yz P o st (lz λst'=>wh P all r st' K)
  |some (j,want)=>match (all[j]?).bind (·.dst) with
   |some t=>match zc st.af t with
    |some (.d (.bool b))=>(b=want->yz P o (st.put (some t) (.d (.bool want))) (lz λst'=>wh P all r st' K)) /\
     (b = !want->yp o.dst st.n=true/\wh P all r ((st.put (some t) (.d (.bool !want))).put o.dst (.d (.val undef))) K)
    |some (.d (.val v))=>v=undef/\yp o.dst st.n=true/\wh P all r (st.put o.dst (.d (.val undef))) K
    |_=>False
   |none=>False
inductive DE where
 |normal
 |exit (id:Nat)
 |ret
def yq:Exit->DE->Prop
 |.normal,.normal=>True
 |.exit i,.exit j=>i=j
 |.ret,.ret=>True
 |_,_=>False
def aT(P:Program)(c:Code)(Q:DE->St->Prop)(st:St):Prop:=
 ∀ X w0 β a w,ax X w0 st β a w->c.wp P (λe a' w'=>∃ de st' β',yq e de/\Q de st'/\ax X w0 st' β' a' w') a w
def Xr(k:St->Prop)(Q:DE->St->Prop):DE->St->Prop
 |.normal,st=>k st
 |e,st=>Q e st
def jD(id:Nat)(Q:DE->St->Prop):DE->St->Prop
 |.exit j,st=>if j=id then Q .normal st else Q (.exit j) st
 |e,st=>Q e st
def gd(P:Program):Code->(DE->St->Prop)->St->Prop
 |.skip,Q,st=>Q .normal st
 |.region id ops draw,Q,st=>if draw=true then aT P (.region id ops true) Q st else wh P ops.toList ops.toList st (Q .normal)
 |.seq x y,Q,st=>gd P x (Xr (lz λst'=>gd P y Q st') Q) st
 |.cond c x y,Q,st=>match st.val c with
  |.d (.bool b)=>(b=true->gd P x Q st)/\(b=false->gd P y Q st)
  |_=>False
 |.block id c,Q,st=>gd P c (jD id Q) st
 |.exit id,Q,st=>Q (.exit id) st
 |.ret,Q,st=>Q .ret st
 |.loop c,Q,st=>aT P (.loop c) Q st
 |c,Q,st=>aT P c Q st
section
variable {P:Program} {X:Nat->Prop} {w0:bz} {st:St} {β:Nat->Value} {a:Act} {w w':World} {m:Nat} {k:ah->Prop}
theorem xw{dst:Option Tmp}{n:Nat}(h:yp dst n=true):∀ t,dst=some t->t<n:=by
 intro t e;subst e;simpa[yp] using h
theorem SL(hm:ax X w0 st β a w){o:Oper}{f:Operand}{args:Array Operand}{ts:Array TypeId}(ho:o.op = .call {callee:=.value f,args,argTypes:=ts})
  (hd:∀ t,o.dst=some t->t<st.n) {K:St->Prop} (h:ZB P st f args.toList o.dst K):br P X w0 o a w K:=by
 unfold ZB at h
 split at h
 .rename_i g ds lent F
  have A:=F;unfold k7 at F;split at F
  .rename_i g' aJ hc
   split at F
   .rename_i ds' b hl
    simp at F
    obtain⟨rfl,rfl,rfl⟩:=F;rcases h with⟨r,hp,O,hk⟩ | ⟨T,sz,rows,hp,O,hk⟩
    .refine br.U5 hm hd (B7 hm ho ?_)
     unfold k5 Xi;rw[hc];dsimp only;rw[hl];exact⟨r,hp,O,hk⟩
    .intro N Q hN
     obtain⟨H,B,hp⟩:=hp
     -- the same road a_s B7
     have hv:=(hm.val f).2;obtain⟨cs,C,I⟩:∃ cs:List Value,a.eval f = .func (.func g') #[] cs.toArray/\zi w (Ex X β st.own) β aJ cs:=by
      cases hf:st.val f <;> rw[hf] at hc hv <;> simp only[xF] at hc
      case d x=>
       cases x <;> simp only[xF] at hc
       case fn f' l=>
        simp at hc;obtain⟨rfl,rfl⟩:=hc
        simp only[Sm,R] at hv;obtain⟨vs,h1,h2⟩:=hv;exact⟨vs,h1,zi.Z3 h2⟩
       all_goals cases hc
      case fn f' l=>
       simp at hc;obtain⟨rfl,rfl⟩:=hc
       simp only[Sm] at hv;exact hv
      all_goals cases hc
     have L:=(zi.Z4 hm args.toList).1;have V:=zi.append L I;obtain⟨hx,hex⟩:=Xk hm hl V;unfold aN at H;cases Y:P.funcs[g']? with
     |none=>simp[Y] at H
     |some fn=>
      simp[Y] at H;have Z:(execOp a.eval o).run P w = .ok (.enter g' (args.toList.map a.eval++cs).toArray) w:=by
       have e1:¬fn.body=none:=by intro e;rw[e] at H;simp at H
       have e3:Array.map a.eval args++cs.toArray=(List.map a.eval args.toList++cs).toArray:=by simp
       rw[<-e3];simp[execOp,ho,resolve,C,Deferred.ofValue,invoke,callFunc,Y,e1,H.1]
      unfold Oper.wp;rw[Z];simp only[Oper.upon];have ck:∀ (w':World) (v:Value) (xs:List Value),Below w.heap.size w w'->w'.ownsRow w.heap.size T sz v rows.length xs->(∀ b,bP v=some b->xY w' b)->zl w' (λb=>Ex X β st.own b\/bP v=some b) rows.flatten xs->N (a.put o.dst v) w':=by
       intro w' v xs hb E G J;have M:ja w0.dS w' T sz v rows.length xs:=ja.Rj E G λb hb=>.inl (oC hm.below.size hb)
       have S:=hm.new (o:=.aQ T sz rows) hb (Bi E) trivial (λb W=>(E.lt b (by rw[ZA E];exact W)).1) ⟨xs,by simpa using M,J,B⟩
       exact hN _ _ _ _ hk (S.yH hd (by simp[ah.lo,St.new]) (by simp[Sm]))
      cases b with
      |false=>
       refine(hp w (Ex X β st.own) _ hm.seen (hex rfl)).mono λe w' he=>?_
       obtain⟨v,xs,rfl,hb,E,G,J⟩:=he;exact ck w' v xs hb E G J
      |true=>
       refine(hp w X _ hm.Ji hx).mono λe w' he=>?_
       obtain⟨v,xs,rfl,hb,E,G,J⟩:=he;exact ck w' v xs hb E G (zI.cells (Jj (O rfl) J.fS) J.cB)
   .cases F
  .cases F
 .exact h.elim
theorem zc6(V:ax X w0 st β a w){o:Oper}{f:Operand}{args:Array Operand}{ts:Array TypeId}(Y:o.op = .call {callee:=.value f,args,argTypes:=ts})
  (Z:∀ t,o.dst=some t->t<st.n) {K:St->Prop} (h:Uo P st f args.toList o.dst K):br P X w0 o a w K:=by
 unfold Uo at h
 split at h
 .rename_i g ds lent G
  unfold k7 at G;split at G
  .rename_i g' aJ A
   split at G
   .rename_i ds' b B
    simp at G
    obtain⟨rfl,rfl,rfl⟩:=G;obtain⟨Φ,⟨H,C⟩,I⟩:=h;intro N Q S;have W:=(V.val f).2;obtain⟨cs,M,O⟩:∃ cs:List Value,a.eval f = .func (.func g') #[] cs.toArray/\zi w (Ex X β st.own) β aJ cs:=by
     cases hf:st.val f <;> rw[hf] at A W <;> simp only[xF] at A
     case d x=>
      cases x <;> simp only[xF] at A
      case fn f' l=>
       simp at A;obtain⟨rfl,rfl⟩:=A
       simp only[Sm,R] at W;obtain⟨vs,h1,h2⟩:=W;exact⟨vs,h1,zi.Z3 h2⟩
      all_goals cases A
     case fn f' l=>
      simp at A;obtain⟨rfl,rfl⟩:=A
      simp only[Sm] at W;exact W
     all_goals cases A
    have F:=(zi.Z4 V args.toList).1;have E:=zi.append F O;obtain⟨hx,hex⟩:=Xk V B E;unfold aN at H;cases J:P.funcs[g']? with
    |none=>simp[J] at H
    |some fn=>
     simp[J] at H;have L:(execOp a.eval o).run P w = .ok (.enter g' (args.toList.map a.eval++cs).toArray) w:=by
      have e1:¬fn.body=none:=by intro e;rw[e] at H;simp at H
      have e3:Array.map a.eval args++cs.toArray=(List.map a.eval args.toList++cs).toArray:=by simp
      rw[<-e3];simp[execOp,Y,resolve,M,Deferred.ofValue,invoke,callFunc,J,e1,H.1]
     unfold Oper.wp;rw[L];simp only[Oper.upon];cases b with
     |false=>
      refine(C w (Ex X β st.own) _ V.seen (hex rfl)).mono λe w' he=>?_
      obtain⟨v,r,rfl,hb,hΦ,hr⟩:=he;obtain⟨_,hK⟩:=I r hΦ;exact S _ _ _ _ hK (V.put hb Z (by simp[ah.lo]) (by simpa[Sm] using hr))
     |true=>
      refine(C w X _ V.Ji hx).mono λe w' he=>?_
      obtain⟨v,r,rfl,hb,hΦ,hr⟩:=he;obtain⟨T,hK⟩:=I r hΦ;exact S _ _ _ _ hK (V.put hb Z (by simp[ah.lo]) (by simpa[Sm] using B5 (T rfl) hr))
   .cases G
  .cases G
 .exact h.elim
theorem wi(H:ax X w0 st β a w){o:Oper}{K:St->Prop}(h:yz P o st K):br P X w0 o a w K:=by
 unfold yz at h
 split at h
 .rename_i T x G
  exact zh6 H G (xw h.1) h.2
 .rename_i T G
  split at h
  .rename_i ti F
   exact zcw H G F (xw h.1) h.2
  .exact h.elim
 .rename_i G
  split at h
  .split at h
   .exact zh7 H G (xw h.1) h.2
   .exact h.elim
  .exact h.elim
 .rename_i t n parts G
  exact zc0 H G (xw h.1) h.2
 .rename_i t ad x G
  split at h
  .rename_i ti E F
   exact zcx H G F E h
  .exact h.elim
 .rename_i t l c G
  exact zfe H G (xw h.1) h.2
 .rename_i t G
  exact zaw H G (xw h.1) h.2
 .rename_i t m x v G
  split at h
  .rename_i E
   exact zah H G E h
  .exact h.elim
 .rename_i xs ts G
  split at h
  .rename_i s x t t' J F
   have e1:xs = #[s,x]:=by cases xs;simp at J;rw[J]
   have e2:ts = #[t,t']:=by cases ts;simp at F;rw[F]
   subst e1;subst e2;rcases h.2 with L | L | L | L
   .exact zbq H G (xw h.1) L
   .exact zax H G (xw h.1) L
   .exact zay H G (xw h.1) L
   .exact zaz H G (xw h.1) L
  .exact h.elim
 .rename_i xs ts G
  split at h
  .rename_i s x t t' J F
   have e1:xs = #[s,x]:=by cases xs;simp at J;rw[J]
   have e2:ts = #[t,t']:=by cases ts;simp at F;rw[F]
   subst e1;subst e2;exact zfd H G (xw h.1) h.2
  .exact h.elim
 .rename_i xs ts G
  split at h
  .rename_i x t J F
   have e1:xs = #[x]:=by cases xs;simp at J;rw[J]
   have e2:ts = #[t]:=by cases ts;simp at F;rw[F]
   subst e1;subst e2;exact zh8 H G (xw h.1) h.2
  .exact h.elim
 .rename_i xs ts G
  split at h
  .rename_i x t J F
   have e1:xs = #[x]:=by cases xs;simp at J;rw[J]
   have e2:ts = #[t]:=by cases ts;simp at F;rw[F]
   subst e1;subst e2;exact zc1 H G (xw h.1) h.2
  .exact h.elim
 .rename_i t x G
  exact zc3 H G (xw h.1) h.2
 .rename_i x G
  exact zff H G (xw h.1) h.2
 .rename_i s t x G
  rcases h.2 with L | L
  .rw[<-G] at L
   exact br.U5 H (xw h.1) (Jq H o L)
  .exact br.U5 H (xw h.1) (zc2 H G L)
 .rename_i f xs ts G
  obtain⟨E,h⟩:=h;rcases h with h | h | h | h | h | ⟨aD,h⟩
  .exact SL H G (xw E) h
  rotate_left
  .exact SA H G (xw E) h
  .exact zfg H G (xw E) h
  .exact zc6 H G (xw E) h
  .exact SA H.xn G (by rw[(U8 _ st).2];exact xw E) h
  .exact SL H.xn G (by rw[(U8 _ st).2];exact xw E) h
 .exact br.U5 H (xw h.1) (Jq H o h.2)
theorem Yq{all:List Oper}{j t:Nat}(h:(all[j]?).bind (·.dst)=some t):((all.toArray[j]?).bind (·.dst))=some t:=by simpa using h
theorem Up{ops:Array Oper}{tmps:Array Value}{j t:Nat}(h:(ops[j]?).bind (·.dst)=some t)(G:tmps.getD t undef=undef):yielded ops tmps j=none:=by
 unfold yielded
 rw[h]
 by_cases H:t<tmps.size
 .have F:tmps[t]?=some undef:=by
   rw[qz H];simp[H] at G;rw[G]
  simp[F,undef]
 .simp[H]
theorem Jz{all:List Oper}{N:Exit->Act->World->Prop}:∀ {l:List Oper} {st:St} {β:Nat->Value} {a:Act} {w:World} {K:St->Prop},ax X w0 st β a w->wh P all l st K ->
  (∀ a' w' st' β',K st'->ax X w0 st' β' a' w'->N .normal a' w')->wpList P all.toArray N l a w
 | [],st,β,a,w,K,Q,h,T=>wpList_nil (T a w st β h Q)
 |o::r,st,β,a,w,K,Q,h,T=>by
  simp only[wh] at h;refine wpList_step λN' E=>?_
  split at h
  .rename_i V
   simp only[Region.wanted,V,oV];exact wi Q h N' _ λa' w' st' β' Y J=>E a' w' (Jz J Y T)
  .rename_i j want V
   split at h
   .rename_i t Z
    split at h
    .rename_i b A
     obtain⟨M,H⟩:=Q.af t _ A;simp only[Sm,R] at H;have G:t<a.tmps.size:=by
      rcases pe t a.tmps.size with B | B
      .exact B
      .rw[show a.tmps.getD t undef=undef by simp[B]] at H;simp[undef] at H
     have C:yielded all.toArray a.tmps j=some b:=by
      unfold yielded;rw[Yq Z];have O:a.tmps[t]?=some (.bool b):=by
       rw[qz G];simp[G] at H;rw[H]
      simp[O]
     have F:∀ v:Bool,b=v->ax X w0 (st.put (some t) (.d (.bool v))) β a w:=by
      intro v I;have:=Q.yH (dst:=some t) (s:=.d (.bool v)) (v:=.bool v) (λt' e=>by cases e;rw[<-Q.size];exact G) (by simp[ah.lo]) (by simp[Sm,R])
      have e:a.put (some t) (.bool v)=a:=by
       cases a with
       |mk tmps defers=>
        simp only[Act.put,Act.mk.injEq,tW];simp[G] at H;apply Cr
        intro i;by_cases hi:t=i
        .subst hi;simp at G;simp[G,H,I]
        .simp[tN,hi]
      rw[e] at this;exact this
     simp only[Region.wanted,V,C];by_cases L:b=want
     .subst L
      simp only[tD,oV];exact wi (F b rfl) (h.1 rfl) N' _ λa' w' st' β' Y J=>E a' w' (Jz J Y T)
     .have S:b = !want:=by cases b <;> cases want <;> simp_all
      have:(some b==some want)=false:=by simp[L]
      simp only[this,ou,oU];obtain⟨W,h2⟩:=h.2 S;exact E _ w (Jz ((F (!want) S).yH (xw W) (by simp[ah.lo]) (by simp[Sm,R])) h2 T)
    .rename_i v I
     obtain⟨rfl,W,h2⟩:=h;obtain⟨M,H⟩:=Q.af t _ I;simp only[Sm,R] at H;have C:yielded all.toArray a.tmps j=none:=Up (Yq Z) H
     simp only[Region.wanted,V,C];have:((none:Option Bool)==some want)=false:=rfl
     simp only[this,ou,oU];exact E _ w (Jz (Q.yH (xw W) (by simp[ah.lo]) (by simp[Sm,R])) h2 T)
    .exact h.elim
   .exact h.elim
theorem ZC:∀ {c:Code} {Q:DE->St->Prop} {st:St},gd P c Q st->aT P c Q st
 |.skip,Q,st,h=>λX w0 β a w G=>wp_skip ⟨.normal,st,β,trivial,h,G⟩
 |.region id ops draw,Q,st,h=>by
  simp only[gd] at h;split at h
  .rename_i e;subst e;exact h
  .rename_i e
   have e:draw=false:=by simpa using e
   subst e;intro X w0 β a w G;refine wp_region_list ?_
   have:=Jz (P:=P) (all:=ops.toList) (N:=λe a' w'=>∃ de st' β',yq e de/\Q de st'/\ax X w0 st' β' a' w') G h (λa' w' st' β' F H=>⟨.normal,st',β',trivial,F,H⟩)
   simpa using this
 |.seq x y,Q,st,h=>by
  simp only[gd] at h;intro X w0 β a w G;refine wp_seq (wp_mono (ZC h X w0 β a w G) ?_)
  rintro e a' w' ⟨de,st',β',E,K,H⟩
  cases e <;> cases de <;> simp only[yq] at E
  .exact ZC K X w0 β' a' w' H
  .subst E;exact⟨.exit _,st',β',rfl,K,H⟩
  .exact⟨.ret,st',β',trivial,K,H⟩
 |.cond c x y,Q,st,h=>by
  simp only[gd] at h;intro X w0 β a w G;split at h
  .rename_i b hb
   have J:=(G.val c).2;rw[hb] at J;simp only[Sm,R] at J;refine wp_cond J ?_
   cases b
   .exact ZC (h.2 rfl) X w0 β a w G
   .exact ZC (h.1 rfl) X w0 β a w G
  .exact h.elim
 |.block id c,Q,st,h=>by
  simp only[gd] at h;intro X w0 β a w G;refine wp_block (wp_mono (ZC h X w0 β a w G) ?_)
  rintro e a' w' ⟨de,st',β',E,K,H⟩
  cases e <;> cases de <;> simp only[yq] at E
  .exact⟨.normal,st',β',trivial,K,H⟩
  .subst E
   simp only[jD] at K;simp only[Exit.inBlock];split
   .rename_i e;rw[gt e] at K;exact⟨.normal,st',β',trivial,K,H⟩
   .rename_i e;rw[ge e] at K;exact⟨.exit _,st',β',rfl,K,H⟩
  .exact⟨.ret,st',β',trivial,K,H⟩
 |.exit id,Q,st,h=>λX w0 β a w G=>wp_exit ⟨.exit id,st,β,rfl,h,G⟩
 |.ret,Q,st,h=>λX w0 β a w G=>wp_ret ⟨.ret,st,β,trivial,h,G⟩
 |.loop c,Q,st,h=>h
 |.rangeFunc ..,Q,st,h=>h
 |.scope ..,Q,st,h=>h
 |.label ..,Q,st,h=>h
 |.goto ..,Q,st,h=>h
 |.refuse ..,Q,st,h=>h
end
end Go.V
namespace Go.V
variable [Dr] [Ov]
open Go.RowKit
def Xt(st:St)(m:Nat):List (Nat×ah)->Prop
 | []=>True
 |(t,s)::r=>(match zc st.af t with |some s'=>s'=s |none=>False)/\ah.lo m s/\Xt st m r
def jE(st:St)(m:Nat):List (Nat×am)->Prop
 | []=>True
 |(id,o)::r=>(match zc st.own id with |some o'=>o'=o |none=>False)/\id<m/\o.lo m/\jE st m r
def dx(st st':St):Prop:=(st'.n=st.n/\st'.ai=st.ai/\st'.ai<=st'.next/\∀ id∈st.aA,id∈st'.aA)/\(st'.own.map (·.1)).Nodup/\Xt st st'.next st'.af/\jE st st'.next st'.own
section
variable {P:Program} {X:Nat->Prop} {w0:bz} {st st':St} {β:Nat->Value} {a:Act} {w w':World}
theorem SN{m:Nat}:∀ {l:List (Nat×ah)} {t:Nat} {s:ah},Xt st m l->zc l t=some s->zc st.af t=some s/\ah.lo m s
 | [],t,s,_,h=>by simp[zc] at h
 |(k,u)::r,t,s,H,h=>by
  simp only[Xt] at H;simp only[zc] at h;split at h
  .rename_i e;subst e;simp at h;subst h
   refine⟨?_,H.2.1⟩
   have:=H.1
   split at this
   .rename_i s' hs;rw[hs,this]
   .exact this.elim
  .exact SN H.2.2 h
theorem Ur{m:Nat}:∀ {l:List (Nat×am)} {id:Nat} {o:am},jE st m l->(id,o)∈l->zc st.own id=some o/\id<m/\o.lo m
 | [],id,o,_,h=>by cases h
 |(k,u)::r,id,o,H,h=>by
  simp only[jE] at H;rcases nE.1 h with e | h
  .cases e
   refine⟨?_,H.2.1,H.2.2.1⟩
   have:=H.1
   split at this
   .rename_i s' hs;rw[hs,this]
   .exact this.elim
  .exact Ur H.2.2.2 h
theorem ax.dY(L:ax X w0 st β a w)(h:dx st st'):ax X w0 st' β a w:=by
 obtain⟨⟨M,E,K,J⟩,O,hs,Q⟩:=h
 have H:∀ id o,(id,o)∈st'.own->(id,o)∈st.own:=λid o G=>xm (Ur Q G).1
 have F:bh w (Ex X β st.own) w (Ex X β st'.own):=bh.dy (λb T=>T.elim .inl λ⟨i,x,V,e⟩=>.inr ⟨i,x,H i x V,e⟩)
 refine⟨L.bU,⟨K,λi Y Z=>L.bI.2 i (by rw[<-E];exact Y) (λh=>Z (J i h))⟩,L.cB,L.defers,by rw[M];exact L.size,L.below,O,?_,?_,?_⟩
 .intro id o G
  obtain⟨_,Z,A⟩:=Ur Q G;obtain⟨q1,q2,q3⟩:=L.own id o (H id o G);exact⟨Z,A,yV.over (m:=st.next) (λ_ _=>rfl) F q1 q2 (λ_ _=>rfl) q3⟩
 .exact λi x j y c V B e1 e2=>L.apart i x j y c (H i x V) (H j y B) e1 e2
 .intro t s C
  obtain⟨Y,Z⟩:=SN hs C;exact⟨Z,QL (id:=0) (rows:=.bool true) F (L.af t s Y).2⟩
def dB{α:Type}(S:α->St)(inv:α->Prop)(μ:α->Nat)(x:α)(Q:DE->St->Prop):DE->St->Prop
 |.normal,st'=>∃ y,inv y/\μ y<μ x/\dx st' (S y)
 |e,st'=>Q e st'
def JA(P:Program)(st:St):ResultVar->Option D
 |.tmp t=>match zc st.af t with
  |some s=>match cL st.ay s with
   |some (d,_)=>some d
   |none=>none
  |none=>none
 |.cell ad T=>match zc st.af ad,TI.of P T with
  |some (.bp id off),some ti=>match st.ay id with
   |some (.box _ cells)=>if ti.agg=true then (if off+ti.size<=cells.length then (match dJ st.ay ((cells.drop off).take ti.size) with
     |some ds=>some (.agg ds)
     |none=>none) else none)
    else (match cells.drop off with
     |s::_=>Zu st.ay s
     | []=>none)
   |_=>none
  |_,_=>none
def V2(P:Program)(st:St):List ResultVar->Option (List D)
 | []=>some []
 |v::r=>match JA P st v,V2 P st r with
  |some d,some ds=>some (d::ds)
  |_,_=>none
def eF(P:Program)(rs:List ResultVar)(r:D)(st:St):Prop:=
 match V2 P st rs with
 |some [d]=>d=r
 |some ds=>.bE ds=r
 |none=>False
def cJ(K:St->Prop):DE->St->Prop
 |.normal,st=>K st
 |.ret,st=>K st
 |.exit _,_=>False
def V3:Nat->List D->List (Nat×ah)
 |_,[]=>[]
 |k,d::r=>(k,.d d)::V3 (k+1) r
def ct(ntmps:Nat)(args:List D):St:={n:=args.length+(ntmps-args.length),next:=0,af:=V3 0 args,own:=[]}
theorem SQ:∀ {k t:Nat} {l:List D} {s:ah},zc (V3 k l) t=some s->∃ j d,t=k+j/\l[j]?=some d/\s = .d d
 |k,t,[],s,h=>by simp[V3,zc] at h
 |k,t,d::r,s,h=>by
  simp only[V3,zc] at h;split at h
  .rename_i e;simp at h;exact⟨0,d,by omega,by simp,h.symm⟩
  .obtain⟨j,d',H,G,F⟩:=SQ h
   exact⟨j+1,d',by omega,by simpa using G,F⟩
theorem ax.iM{E:Nat->Prop}{w:World}{vs:List Value}{args:List D}{ntmps:Nat}(F:fp w E)(K:zI w E args vs):
  ax E (.of w) (ct ntmps args) (λ_=>.pointer none) {tmps:=vs.toArray++Array.replicate (ntmps-vs.toArray.size) undef,defers:=[]} w:=by
 have J:=K.length
 refine⟨⟨λb L hm=>hm.elim (λh=>by have:w.heap.size<=b:=h;have:=F.1 b L;omega) (λh=>h),F.2.over (bh.dy λb h=>h.elim id False.elim)⟩,⟨nU _,λi h=>by simp[ct] at h⟩,λ_=>rfl,rfl,by simp[ct,J],cR.refl _,by simp[ct],by simp[ct],by simp[ct],?_⟩
 intro t s M
 obtain⟨j,d,O,Q,T⟩:=SQ M
 have e:t=j:=by omega
 subst e;subst T
 obtain⟨v,V,G⟩:=K.get Q
 refine⟨by simp[ah.lo],?_⟩
 have H:t<vs.length:=by
  rcases pe t vs.length with h | h
  .exact h
  .simp[h] at V
 have X:(vs.toArray++Array.replicate (ntmps-vs.toArray.size) undef).getD t undef=v:=by
  rw[ac H] at V;simp at V
  simp[Bp,H,V]
 simp only[X,Sm]
 exact R.over (bh.dy (λb L=>L.elim (λh=>h) (λ⟨i,x,Y,_⟩=>by simp[ct] at Y))) _ _ G
def ZD(tmps:Array Value):ResultVar->Sem Value
 |.tmp t=>pure (tmps.getD t undef)
 |.cell ad t=>do loadVar t (<-asAddr (tmps.getD ad undef))
theorem BB(fn:Func)(tmps:Array Value){us:List Value}(h:(fn.results.toList.mapM (ZD tmps)).run P w = .ok us w):
  (results fn tmps).run P w = .ok (if h:us.length=1 then us[0] else .tuple us.toArray) w:=by
 have e:(λv:ResultVar=>(match v with | .tmp t=>(pure (tmps.getD t undef):Sem Value) | .cell ad t=>(do loadVar t (<-asAddr (tmps.getD ad undef)))))=ZD tmps:=by
  funext v;cases v <;> rfl
 unfold results
 rw[v_]
 simp only[Sem.run_bind,Sem.run_map]
 have H:=h
 rw[<-e] at H
 erw[H]
 simp
theorem zc7(V:ax X w0 st β a w){v:ResultVar}{d:D}(h:JA P st v=some d):
  ∃ u,(ZD a.tmps v).run P w = .ok u w/\R w X d u:=by
 cases v with
 |tmp t=>
  simp only[JA] at h;split at h
  .rename_i s hs
   split at h
   .rename_i d' b Y
    simp at h;subst h
    exact⟨_,rfl,(Rx V Y (V.af t s hs).2).1⟩
   .cases h
  .cases h
 |cell ad T=>
  simp only[JA] at h;split at h
  .rename_i id off ti hs Z
   split at h
   .rename_i T' cells J
    obtain⟨_,O,b,vs,A,K,B,G,C⟩:=V.dm J;have I:=(V.af ad _ hs).2;simp only[Sm] at I;obtain⟨b',F,I⟩:=I;rw[A] at F;simp at F;rw[<-F] at I;have N:∀ (j:Nat) u,(vs.drop off)[j]?=some u->w.cell? ⟨b,off+j,none⟩=some u:=λj u hj=>KX B (by simpa[oQ] using hj)
    split at h
    .rename_i E
     split at h
     .rename_i hfit
      split at h
      .rename_i ds L
       simp at h;subst h
       have Q:=G.length;have S:=CW (P:=P) (w:=w) Z E (b:=b) (off:=off) (vs:=(vs.drop off).take ti.size) (by simp;omega) (λj u hj=>by
        rw[og] at hj;split at hj
        .exact N j u hj
        .cases hj)
       refine⟨.agg ((vs.drop off).take ti.size).toArray,?_,?_⟩
       .simp only[ZD,I];simpa[asAddr,Instr.loadAt,Instr.sureAddr] using S
       .simp only[R]
        exact⟨_,rfl,B2 V L (zi.take ti.size (zi.drop off G)) (λu W=>C u (oH (oh W)))⟩
      .cases h
     .cases h
    .rename_i E
     cases hd:cells.drop off with
     |nil=>rw[hd] at h;cases h
     |cons s r=>
      rw[hd] at h;have H:=zi.drop off G;rw[hd] at H;simp only[zi] at H;obtain⟨u,us,W,M,_⟩:=H;have S:=CV (P:=P) (w:=w) Z (by simpa using E) (b:=b) (off:=off) (by simpa using N 0 u (by rw[W];rfl))
      exact⟨u,by simp only[ZD,I];simpa[asAddr,Instr.loadAt,Instr.sureAddr] using S,Rw V h M⟩
   .cases h
  .cases h
theorem BD(H:ax X w0 st β a w):∀ {rs:List ResultVar} {ds:List D},V2 P st rs=some ds ->
  ∃ us:List Value,(rs.mapM (ZD a.tmps)).run P w = .ok us w/\zI w X ds us
 | [],ds,h=>by simp[V2] at h;subst h;exact⟨[],by simp,by simp[zI]⟩
 |v::r,ds,h=>by
  simp only[V2] at h;split at h
  .rename_i d ds' G F
   simp at h;subst h
   obtain⟨u,e1,e2⟩:=zc7 H G;obtain⟨us,q1,q2⟩:=BD H F;refine⟨u::us,?_,by simp only[zI];exact⟨u,us,rfl,e2,q2⟩⟩
   simp only[tl,Sem.run_bind,e1,Result.andThen_ok,q1];rfl
  .cases h
theorem kT(G:ax X w0 st β a w){fn:Func}{r:D}(h:eF P fn.results.toList r st):∃ v,(results fn a.tmps).run P w = .ok v w/\R w X r v:=by
 unfold eF at h
 split at h
 .rename_i d F
  obtain⟨us,q1,q2⟩:=BD G F;simp only[zI] at q2;obtain⟨u,us',rfl,e,rfl⟩:=q2;subst h;refine⟨u,?_,e⟩
  rw[BB fn a.tmps q1];simp
 .rename_i ds H F
  obtain⟨us,q1,q2⟩:=BD G F;subst h;refine⟨.tuple us.toArray,?_,by simp only[R];exact⟨us,rfl,q2⟩⟩
  have E:us.length≠1:=by
   rw[q2.length];intro e;cases ds with
   |nil=>simp at e
   |cons d r=>
    cases r with
    |nil=>exact H d rfl
    |cons _ _=>simp at e
  rw[BB fn a.tmps q1];simp[E]
 .exact h.elim
def lH(rs:List ResultVar)(T sz:Nat)(rows:List (List D))(st:St):Prop:=
 match rs with
 | [.tmp t]=>match zc st.af t with
  |some (.ar id)=>match st.ay id with
   |some (.aQ T' sz' rows')=>T'=T/\sz'=sz/\rows'=rows
   |_=>False
  |_=>False
 |_=>False
end
end Go.V
namespace Go.V
variable [Dr] [Ov]
open Go.RowKit
def qy(F:(ah->Prop)->Prop):Prop:=∀ k,F k->∃ s,F (λs'=>s'=s)/\k s
section
variable (P:Program) (ay:Nat->Option am) (ρ:Operand->ah)
theorem SR(ti:TI)(l:List D):qy (fX ti l):=by
 intro k h
 unfold fX at h ⊢
 split at h
 .rename_i e;simp only[e,oV];exact⟨_,⟨h.1,rfl⟩,h.2⟩
 .rename_i e;simp only[e]
  cases l with
  |nil=>exact h.elim
  |cons x _=>exact⟨_,rfl,h⟩
theorem zsb(ti:TI)(l:List ah):qy (Yn ti l):=by
 intro k h
 unfold Yn at h ⊢
 split at h
 .rename_i e;simp only[e,oV];exact⟨_,⟨h.1,rfl⟩,h.2⟩
 .rename_i e;simp only[e]
  cases l with
  |nil=>exact h.elim
  |cons x _=>exact⟨_,rfl,h⟩
theorem zsc(ti:TI)(s:ah):qy (uX ay ti s):=by
 intro k h
 cases s <;> simp only[uX] at h ⊢
 case d x=>cases x <;> simp only[uX] at h ⊢ <;> first | exact SR ti _ k h | exact h.elim
 case bp id off=>
  cases H:ay id with
  |none=>simp only[H] at h
  |some o=>cases o <;> simp only[H] at h ⊢;exact zsb ti _ k h
 case ap id sz i off=>
  cases H:ay id with
  |none=>simp only[H] at h
  |some o=>
   cases o <;> simp only[H] at h ⊢
   obtain⟨G,F,E⟩:=h;obtain⟨s,q1,q2⟩:=SR ti _ k E;exact⟨s,⟨G,F,q1⟩,q2⟩
theorem zc8(kd:TK)(x:ah)(f:Nat):qy (Qu kd x f):=by
 intro k h
 cases kd <;> simp only[Qu] at h ⊢
 rename_i fs
 cases H:fs[f]? with
 |none=>simp only[H] at h
 |some y=>
  obtain⟨off,sz,b⟩:=y;simp only[H] at h ⊢;cases x <;> (try simp only at h ⊢)
  case d x=>cases x <;> (try simp only at h ⊢) <;> first | exact h.elim | exact⟨_,⟨h.1,rfl⟩,h.2⟩
  all_goals exact⟨_,⟨h.1,rfl⟩,h.2⟩
theorem zp1(kd:TK)(x:ah)(f:Nat):qy (Qv kd x f):=by
 intro k h
 cases kd <;> simp only[Qv] at h ⊢
 rename_i fs
 cases H:fs[f]? with
 |none=>simp only[H] at h
 |some y=>
  obtain⟨off,sz,b⟩:=y;simp only[H] at h ⊢;cases x <;> (try simp only at h ⊢)
  case d x=>
   cases x <;> (try simp only at h ⊢)
   case agg l=>
    cases b <;> simp only[oV,ou,oU] at h ⊢
    .cases G:l.drop off with
     |nil=>rw[G] at h;exact h.elim
     |cons y r=>rw[G] at h;exact⟨_,rfl,h⟩
    .exact⟨_,⟨h.1,rfl⟩,h.2⟩
  case agg l=>
   cases b <;> simp only[oV,ou,oU] at h ⊢
   .cases G:l.drop off with
    |nil=>rw[G] at h;exact h.elim
    |cons y r=>rw[G] at h;exact⟨_,rfl,h⟩
   .exact⟨_,⟨h.1,rfl⟩,h.2⟩
theorem zc9(esz:Nat)(s s':ah):qy (Zv ay esz s s'):=by
 intro k h
 unfold Zv at h ⊢
 split at h
 .exact⟨_,⟨h.1,h.2.1,rfl⟩,h.2.2⟩
 .rename_i id kd n
  cases H:ay id with
  |none=>simp only[H] at h
  |some o=>cases o <;> simp only[H] at h ⊢;exact⟨_,⟨h.1,h.2.1,rfl⟩,h.2.2⟩
 .exact h.elim
theorem zp2(s s':ah):qy (Qw s s'):=by
 intro k h
 unfold Qw at h ⊢
 split at h
 .exact⟨_,⟨h.1,rfl⟩,h.2⟩
 .exact h.elim
theorem BE(kd:IntKind)(n:Int):qy (dP kd n):=by
 intro k h
 unfold dP at h ⊢
 cases kd <;> simp only at h ⊢ <;> first | exact⟨_,rfl,h⟩ | skip
 split at h
 .rename_i e;simp only[gt e];exact⟨_,rfl,h⟩
 .rename_i e;simp only[ge e];exact⟨_,⟨h.1,rfl⟩,h.2⟩
theorem ztx(op:BinOp)(s s':ah)(hs:∀ l,s≠.d (.sl l)):qy (Qx op s s'):=by
 intro k h
 unfold Qx at h ⊢
 split at h
 .cases op <;> simp only[KP] at h ⊢ <;> first
   |exact⟨_,⟨h.1,rfl⟩,h.2⟩
   |(obtain⟨H,G⟩:=h;obtain⟨s,q1,q2⟩:=BE _ _ k G;exact⟨s,⟨H,q1⟩,q2⟩)
   |(obtain⟨H,G,F⟩:=h;obtain⟨s,q1,q2⟩:=BE _ _ k F;exact⟨s,⟨H,G,q1⟩,q2⟩)
   |(obtain⟨H,G,F⟩:=h;exact⟨_,⟨H,G,rfl⟩,F⟩)
   |exact h.2.elim
   |exact h.elim
 .cases op <;> simp only[KQ] at h ⊢ <;> first | exact⟨_,⟨h.1,rfl⟩,h.2⟩ | exact⟨_,rfl,h⟩ | exact h.elim
 .cases op <;> simp only[KR] at h ⊢ <;> first | exact⟨_,rfl,h⟩ | exact h.elim
 .exact absurd rfl (hs _)
 .cases op <;> simp only at h ⊢ <;> first | exact⟨_,rfl,h⟩ | exact h.elim
 .exact h.elim
theorem zuz(op:UnOp)(s:ah):qy (Qz op s):=by
 intro k h
 unfold Qz at h ⊢
 split at h
 .cases op <;> simp only at h ⊢ <;> first | exact⟨_,rfl,h⟩ | exact h.elim
 .cases op <;> simp only at h ⊢ <;> first | exact BE _ _ k h | exact h.elim
 .exact h.elim
theorem zh9(kd:TK)(s:ah):qy (QA kd s):=by
 intro k h
 unfold QA at h ⊢
 split at h
 .exact⟨_,rfl,h⟩
 .exact⟨_,rfl,h⟩
 .exact h.elim
theorem zia(s:ah)(i:Nat):qy (QB s i):=by
 intro k h
 unfold QB at h ⊢
 split at h
 .split at h
  .rename_i hx;simp only[hx];exact⟨_,rfl,h⟩
  .exact h.elim
 .split at h
  .rename_i hx;simp only[hx];exact⟨_,rfl,h⟩
  .exact h.elim
 .exact h.elim
theorem zty(kd:TK)(s:ah):qy (iq ay kd s):=by
 intro k h
 unfold iq at h ⊢
 split at h
 .exact⟨_,rfl,h⟩
 .exact⟨_,rfl,h⟩
 .exact⟨_,rfl,h⟩
 .split at h
  .rename_i hx;simp only[hx];exact⟨_,rfl,h⟩
  .exact h.elim
 .exact⟨_,rfl,h⟩
 .exact⟨_,rfl,h⟩
 .exact h.elim
theorem SS(mx:Bool)(l:List ah):qy (Xh mx l):=by
 intro k h
 unfold Xh at h ⊢
 split at h
 .exact⟨_,rfl,h⟩
 .exact h.elim
theorem zp3(kd:TK)(s:ah)(lo hi:Option ah):qy (Zw P ay kd s lo hi):=by
 intro k h
 unfold Zw at h ⊢
 split at h
 .split at h
  .rename_i H h2;(try simp only[H,h2]);exact⟨_,⟨h.1,h.2.1,rfl⟩,h.2.2⟩
  .exact h.elim
 .split at h
  .rename_i h0;try simp only[h0]
   split at h
   .rename_i H h2;(try simp only[H,h2]);exact⟨_,⟨h.1,h.2.1,rfl⟩,h.2.2⟩
   .exact h.elim
  .exact h.elim
 .split at h
  .rename_i h0;try simp only[h0]
   split at h
   .rename_i H h2;(try simp only[H,h2]);exact⟨_,⟨h.1,h.2.1,rfl⟩,h.2.2⟩
   .exact h.elim
  .exact h.elim
 .split at h
  .rename_i H h2;(try simp only[H,h2]);exact⟨_,⟨h.1,rfl⟩,h.2⟩
  .exact h.elim
 .exact h.elim
theorem zma(kd:TK)(s a b c:ah):qy (Zx P ay kd s a b c):=by
 intro k h
 unfold Zx at h ⊢
 split at h
 .split at h
  .rename_i h0;try simp only[h0]
   exact⟨_,⟨h.1,h.2.1,rfl⟩,h.2.2⟩
  .exact h.elim
 .exact h.elim
theorem ztz(s:ah):qy (QC s):=by
 intro k h
 unfold QC at h ⊢
 split at h <;> first | exact⟨_,rfl,h⟩ | exact h.elim
theorem zsd(c:ah)(args:List ah):qy (k5 P ay c args):=by
 intro k h
 unfold k5 at h ⊢
 split at h
 .unfold Xi at h ⊢
  split at h
  .rename_i hl;simp only[hl]
   obtain⟨r,H,G,F⟩:=h;exact⟨_,⟨r,H,G,rfl⟩,F⟩
  .exact h.elim
 .exact h.elim
theorem zse(c x y:ah):qy (Jc c x y):=by
 intro k h
 unfold Jc at h ⊢
 split at h
 .exact⟨_,rfl,h⟩
 .exact h.elim
theorem zsf(ti:TI):qy (io ti):=by
 intro k h
 unfold io at h ⊢
 split at h
 .rename_i hg;simp only[hg,oV];exact⟨_,⟨h.1,rfl⟩,h.2⟩
 .rename_i hg;simp only[hg]
  split at h
  .exact⟨_,rfl,h⟩
  .exact h.elim
theorem zmb(kk:TK)(te:TI)(c:Bool)(m x:ah):qy (Zy ay kk te c m x):=by
 intro k h
 unfold Zy at h ⊢
 split at h
 .rename_i rows y h1
  simp only[h1];obtain⟨H,h⟩:=h;split at h
  .rename_i d hd;try simp only[hd]
   exact⟨_,⟨H,rfl⟩,h⟩
  .rename_i hd;try simp only[hd]
   obtain⟨s,q1,q2⟩:=zsf te _ h;refine⟨_,⟨H,?_⟩,q2⟩
   unfold io at q1 ⊢;split at q1
   .rename_i hg;simp only[hg,oV];exact⟨q1.1,by rw[q1.2]⟩
   .rename_i hg;simp only[hg]
    split at q1
    .rename_i v hv;rw[<-q1];rfl
    .exact q1.elim
  .exact h.elim
 .exact h.elim
theorem zp4(op:BinOp)(t:Nat)(x y:ah):qy (QD P op t x y):=by
 intro k h
 unfold QD at h ⊢
 split at h
 .split at h
  .rename_i hk;try simp only[hk]
   split at h
   .rename_i hr;try simp only[hr]
    split at h
    .exact⟨_,rfl,h⟩
    .exact⟨_,rfl,h⟩
    .exact h.elim
   .exact h.elim
  .exact h.elim
 .exact h.elim
theorem zp5(ti:TI)(parts:List (Nat×ah)):qy (QQ ti parts):=by
 intro k h
 unfold QQ at h ⊢
 split at h
 .rename_i fs hk
  obtain⟨H,h⟩:=h;split at h
  .rename_i out ho;simp only[ho];exact⟨_,⟨H,rfl⟩,h⟩
  .exact h.elim
 .exact h.elim
theorem zib(P:Program)(t n:Nat)(parts:List (Nat×ah)):qy (QR P t n parts):=by
 intro k h
 unfold QR at h ⊢
 split at h
 .split at h
  .split at h
   .rename_i xs hxs
    obtain⟨H,G,F,h⟩:=h;split at h
    .rename_i rows hr
     (try simp only[hr])
     exact⟨_,⟨H,G,F,rfl⟩,h⟩
    .exact h.elim
   .exact h.elim
  .exact h.elim
 .exact h.elim
def BF:ah->Bool
 |.d (.sl _)=>false
 |_=>true
def Yr(ρ:Operand->ah):Op->Bool
 |.binOp _ _ x _ _=>BF (ρ x)
 |_=>true
theorem SU(op:Op)(H:Yr ρ op=true):qy (vQ P ay ρ op):=by
 intro k h
 unfold vQ at h ⊢
 split at h
 .split at h
  .rename_i G;try simp only[G]
   exact zp5 _ _ k h
  .exact h.elim
 .exact zib _ _ _ _ k h
 .split at h
  .rename_i hf;try simp only[hf]
   exact⟨_,rfl,h⟩
  .exact h.elim
 .unfold uA at h ⊢
  split at h
  .exact⟨_,rfl,h⟩
  .exact⟨_,rfl,h⟩
  .exact zse _ _ _ k h
  .split at h
   .rename_i G;try simp only[G]
    exact zsc _ _ _ k h
   .exact h.elim
  .split at h
   .rename_i G;try simp only[G]
    exact zc8 _ _ _ k h
   .exact h.elim
  .split at h
   .rename_i G;try simp only[G]
    exact zp1 _ _ _ k h
   .exact h.elim
  .split at h
   .split at h
    .exact zc9 _ _ _ _ k h
    .exact h.elim
   .exact h.elim
  .split at h
   .rename_i G;try simp only[G]
    exact zp2 _ _ k h
   .exact h.elim
  .split at h
   .rename_i G;try simp only[G]
    obtain⟨F,E⟩:=h;obtain⟨s,q1,q2⟩:=zp3 _ _ _ _ _ _ k E;exact⟨s,⟨F,q1⟩,q2⟩
   .exact h.elim
  .split at h
   .rename_i G;try simp only[G]
    exact zma _ _ _ _ _ _ _ k h
   .exact h.elim
  .split at h
   .rename_i G;try simp only[G]
    rcases h with h | h
    .obtain⟨F,E⟩:=h
     obtain⟨s,q1,q2⟩:=ztx _ _ _ (by intro l e;simp[Yr,e,BF] at H) k E
     exact⟨s,.inl ⟨F,q1⟩,q2⟩
    .obtain⟨s,q1,q2⟩:=zp4 _ _ _ _ _ k h
     exact⟨s,.inr q1,q2⟩
   .exact h.elim
  .exact zuz _ _ k h
  .split at h
   .rename_i G ht';try simp only[G,ht']
    exact zh9 _ _ k h
   .exact h.elim
  .exact zia _ _ k h
  .split at h
   .split at h
    .rename_i F E;try simp only[F,E]
     obtain⟨K,h⟩:=h;obtain⟨s,q1,q2⟩:=zmb _ _ _ _ _ _ k h;exact⟨s,⟨K,q1⟩,q2⟩
    .exact h.elim
   .exact h.elim
  .exact ztz _ k h
  .split at h
   .rename_i J L
    split at h
    .rename_i G;try simp only[J,L,G]
     exact zty _ _ _ k h
    .exact h.elim
   .exact h.elim
  .exact SS _ _ k h
  .exact SS _ _ k h
  .exact zsd _ _ _ _ k h
  .exact h.elim
end
end Go.V
namespace Go.V
variable [Dr] [Ov]
open Go.RowKit
def iD(all:List Oper)(t:Option Tmp):Bool:=match t with
 |some t=>all.any λo=>match o.guard with
  |some (j,_)=>(all[j]?).bind (·.dst)==some t
  |none=>false
 |none=>false
def iz(g:Bool)(s:ah)(k:ah->Prop):Prop:=
 match g,s with
 |true,.d (.bool b)=>(b=true->k (.d (.bool true)))/\(b=false->k (.d (.bool false)))
 |_,s=>k s
def Us(g:Bool)(k:ah->Prop):ah->Prop:=λs=>iz g s k
def wj(P:Program)(all:List Oper)(o:Oper)(st:St)(k:ah->Prop):Prop:=
 match o.guard with
 |none=>Yr st.val o.op=true/\vQ P st.ay st.val o.op k
 |some (j,want)=>match (all[j]?).bind (·.dst) with
  |some t=>match zc st.af t with
   |some (.d (.bool b))=>(b=want->Yr st.val o.op=true/\vQ P st.ay st.val o.op k)/\(b = !want->k (.d (.val undef)))
   |some (.d (.val v))=>v=undef/\k (.d (.val undef))
   |_=>False
  |none=>False
def gg(P:Program)(all:List Oper):List Oper->St->(St->Prop)->Prop
 | [],st,K=>K st
 |o::r,st,K=>yp o.dst st.n=true/\wj P all o st (Us (iD all o.dst) λs=>gg P all r (st.put o.dst s) K)
def eI(P:Program)(all:List Oper)(o:Oper)(st:St)(s:ah):Prop:=wj P all o st (λs'=>s'=s)
def ff(P:Program)(all:List Oper):List Oper->List ah->St->Prop
 | [],ss,_=>ss=[]
 |o::r,ss,st=>∃ s ss',ss=s::ss'/\yp o.dst st.n=true/\eI P all o st s/\ff P all r ss' (st.put o.dst s)
def bL:List Oper->List ah->St->St
 |o::r,s::ss,st=>bL r ss (st.put o.dst s)
 |_,_,st=>st
theorem zmc{g:Bool}{k:ah->Prop}{s:ah}(h:Us g k s):k s:=by
 unfold Us iz at h
 split at h
 .rename_i b;cases b
  .exact h.2 rfl
  .exact h.1 rfl
 .exact h
section
variable {P:Program} {X:Nat->Prop} {w0:bz} {st:St} {β:Nat->Value} {a:Act} {w w':World}
theorem JB{all:List Oper}{o:Oper}{k:ah->Prop}(h:wj P all o st k):∃ s,eI P all o st s/\k s:=by
 unfold eI
 unfold wj at h ⊢
 split at h
 .obtain⟨H,G⟩:=h
  obtain⟨s,q1,q2⟩:=SU P st.ay st.val o.op H k G;exact⟨s,⟨H,q1⟩,q2⟩
 .rename_i j want hg
  split at h
  .rename_i t ht
   split at h
   .rename_i b hb
    by_cases e:b=want
    .obtain⟨H,G⟩:=h.1 e
     obtain⟨s,q1,q2⟩:=SU P st.ay st.val o.op H k G;refine⟨s,⟨λ_=>⟨H,q1⟩,λe'=>?_⟩,q2⟩
     subst e;cases b <;> simp at e'
    .have e':b = !want:=by cases b <;> cases want <;> simp_all
     exact⟨_,⟨λe''=>absurd e'' e,λ_=>rfl⟩,h.2 e'⟩
   .exact⟨_,⟨h.1,rfl⟩,h.2⟩
   .exact h.elim
  .exact h.elim
theorem SV{all:List Oper}:∀ {l:List Oper} {st:St} {K:St->Prop},gg P all l st K->∃ ss,ff P all l ss st/\K (bL l ss st)
 | [],st,K,h=>⟨[],rfl,h⟩
 |o::r,st,K,h=>by
  simp only[gg] at h;obtain⟨H,h⟩:=h;obtain⟨s,G,F⟩:=JB h;obtain⟨ss,q1,q2⟩:=SV (zmc F);exact⟨s::ss,⟨s,ss,rfl,H,G,q1⟩,q2⟩
theorem Ut{all:List Oper}:∀ {l:List Oper} {ss:List ah} {st:St} {i:Nat} {o:Oper},ff P all l ss st->l[i]?=some o ->
  ∃ s,ss[i]?=some s/\yp o.dst st.n=true/\eI P all o (bL (l.take i) (ss.take i) st) s
 | [],ss,st,i,o,h,hi=>by simp at hi
 |x::r,ss,st,0,o,h,hi=>by
  simp at hi;subst hi
  obtain⟨s,ss',rfl,H,G,F⟩:=h;exact⟨s,by simp,H,by simpa[bL] using G⟩
 |x::r,ss,st,i+1,o,h,hi=>by
  obtain⟨s,ss',rfl,H,G,F⟩:=h;obtain⟨s',q1,q2,q3⟩:=Ut F (by simpa using hi)
  refine⟨s',by simpa using q1,?_,by simpa[bL] using q3⟩
  have:(st.put x.dst s).n=st.n:=by cases x.dst <;> rfl
  rw[this] at q2;exact q2
theorem Xu:∀ (l:List Oper) (ss:List ah) (st:St),(bL l ss st).own=st.own/\(bL l ss st).n=st.n/\(bL l ss st).next=st.next/\(bL l ss st).ai=st.ai/\(bL l ss st).aA=st.aA
 | [],ss,st=>by simp[bL]
 |o::r,[],st=>by simp[bL]
 |o::r,s::ss,st=>by
  have h:=Xu r ss (st.put o.dst s);have e:(st.put o.dst s).own=st.own/\(st.put o.dst s).n=st.n/\(st.put o.dst s).next=st.next/\(st.put o.dst s).ai=st.ai/\(st.put o.dst s).aA=st.aA:=by cases o.dst <;> exact⟨rfl,rfl,rfl,rfl,rfl⟩
  exact⟨h.1.trans e.1,h.2.1.trans e.2.1,h.2.2.1.trans e.2.2.1,h.2.2.2.1.trans e.2.2.2.1,h.2.2.2.2.trans e.2.2.2.2⟩
theorem Uu:∀ {l:List Oper} {ss:List ah} {st:St} {t:Nat},l.length=ss.length ->
  (∃ (i:Nat) (o:Oper) (s:ah),l[i]?=some o/\ss[i]?=some s/\o.dst=some t/\zc (bL l ss st).af t=some s)\/((∀ (i:Nat) (o:Oper),l[i]?=some o->o.dst≠some t)/\zc (bL l ss st).af t=zc st.af t)
 | [],[],st,t,_=>.inr ⟨by simp,by simp[bL]⟩
 |o::r,s::ss,st,t,H=>by
  rcases Uu (l:=r) (ss:=ss) (st:=st.put o.dst s) (t:=t) (by simpa using H) with⟨i,o',s',G,F,E,K⟩ | ⟨G,F⟩
  .exact .inl ⟨i+1,o',s',by simpa using G,by simpa using F,E,by simpa[bL] using K⟩
  .by_cases e:o.dst=some t
   .refine .inl ⟨0,o,s,by simp,by simp,e,?_⟩
    simp only[bL];rw[F];simp only[e,St.put,zc,oV]
   .refine .inr ⟨?_,?_⟩
    .intro i o' hi
     cases i with
     |zero=>simp at hi;subst hi;exact e
     |succ i=>exact G i o' (by simpa using hi)
    .simp only[bL];rw[F]
     cases J:o.dst with
     |none=>rfl
     |some d=>
      rw[J] at e;simp only[St.put,zc];rw[ge (by simpa using e)]
theorem JC{all:List Oper}:∀ {l:List Oper} {ss:List ah} {st:St},ff P all l ss st->l.length=ss.length
 | [],ss,st,h=>by simp only[ff] at h;simp[h]
 |o::r,ss,st,h=>by obtain⟨s,ss',rfl,_,_,H⟩:=h;simp[JC H]
def aX(all:List Oper)(o:Oper):List Tmp:=
 (o.op.operands.toList.filterMap λ| .tmp t=>some t | _=>none)++(match o.guard with
  |some (j,_)=>((all[j]?).bind (·.dst)).toList
  |none=>[])
def eH(o:Oper)(j:Nat):Bool:=o.after.toList.any λe=>Region.binds .any e&&e.on==j
def SX(i:Nat)(o:Oper):Bool:=o.after.toList.all λe=>!Region.binds .any e || decide (e.on<i)
def SY(all:List Oper)(i j:Nat)(x y:Oper):Bool:=
 (match x.dst with
  |some t=>(!(aX all y).contains t ||eH y i)&&y.dst != some t
  |none=>true) &&
 (match y.dst with
  |some t=>!(aX all x).contains t ||eH y i
  |none=>true)
def SZ(all:List Oper)(x:Oper):Bool:=match x.dst with
 |some t=>!(aX all x).contains t
 |none=>true
def yO(all:List Oper):Bool:=
 all.zipIdx.all λ(y,j)=>SX j y&&SZ all y&&all.zipIdx.all λ(x,i)=>!decide (i<j) || SY all i j x y
end
end Go.V
namespace Go.V
variable [Dr] [Ov]
open Go.RowKit
theorem zp6{P:Program}{ay:Nat->Option am}{ρ ρ':Operand->ah}{op:Op}{k:ah->Prop}(h:∀ x∈op.operands,ρ x=ρ' x)(hs:uA P ay ρ op k):uA P ay ρ' op k:=by
 unfold uA at hs ⊢
 split at hs
 .rename_i x;rw[<-h x (by simp[Op.operands])];exact hs
 .rename_i x;rw[<-h x (by simp[Op.operands])];exact hs
 .rename_i c x y;rw[<-h c (by simp[Op.operands]),<-h x (by simp[Op.operands]),<-h y (by simp[Op.operands])];exact hs
 .rename_i t x;rw[<-h x (by simp[Op.operands])];exact hs
 .rename_i t x f;rw[<-h x (by simp[Op.operands])];exact hs
 .rename_i t x f;rw[<-h x (by simp[Op.operands])];exact hs
 .rename_i t x i;rw[<-h x (by simp[Op.operands]),<-h i (by simp[Op.operands])];exact hs
 .rename_i t x i;rw[<-h x (by simp[Op.operands]),<-h i (by simp[Op.operands])];exact hs
 .rename_i t x lo hi
  have e1:lo.map ρ=lo.map ρ':=by
   cases lo with
   |none=>rfl
   |some y=>simp[h y (by simp[Op.operands])]
  have e2:hi.map ρ=hi.map ρ':=by
   cases hi with
   |none=>rfl
   |some y=>simp[h y (by simp[Op.operands])]
  rw[<-h x (by simp[Op.operands]),<-e1,<-e2];exact hs
 .rename_i t x lo hi mx
  rw[<-h x (by simp[Op.operands]),<-h lo (by simp[Op.operands]),<-h hi (by simp[Op.operands]),<-h mx (by simp[Op.operands])];exact hs
 .rename_i op t x y ty;rw[<-h x (by simp[Op.operands]),<-h y (by simp[Op.operands])];exact hs
 .rename_i op t x;rw[<-h x (by simp[Op.operands])];exact hs
 .rename_i s t x;rw[<-h x (by simp[Op.operands])];exact hs
 .rename_i t i;rw[<-h t (by simp[Op.operands])];exact hs
 .rename_i t m x c;rw[<-h m (by simp[Op.operands]),<-h x (by simp[Op.operands])];exact hs
 .rename_i x;rw[<-h x (by simp[Op.operands])];exact hs
 .rename_i ar ts
  split at hs
  .rename_i x t H ht
   have:ρ x=ρ' x:=h x (by simp only[Op.operands,Call.operands];have:x∈ar.toList:=(by rw[H];simp);simpa using this)
   rw[<-this];exact hs
  .exact hs.elim
 .rename_i ar ts
  have e1:ar.toList.map ρ=ar.toList.map ρ':=by
   apply pD
   intro x H;exact h x (by simp only[Op.operands,Call.operands];simpa using H)
  rw[<-e1];exact hs
 .rename_i ar ts
  have e1:ar.toList.map ρ=ar.toList.map ρ':=by
   apply pD
   intro x H;exact h x (by simp only[Op.operands,Call.operands];simpa using H)
  rw[<-e1];exact hs
 .rename_i f ar ts
  have e0:ρ f=ρ' f:=h f (by simp[Op.operands,Call.operands])
  have e1:ar.toList.map ρ=ar.toList.map ρ':=by
   apply pD
   intro x H;exact h x (by simp only[Op.operands,Call.operands];simp;right;simpa using H)
  rw[<-e0,<-e1];exact hs
 .exact hs.elim
theorem BG{P:Program}{ay:Nat->Option am}{ρ ρ':Operand->ah}{op:Op}{k:ah->Prop}(h:∀ x∈op.operands,ρ x=ρ' x)(hs:vQ P ay ρ op k):vQ P ay ρ' op k:=by
 unfold vQ at hs ⊢
 split at hs
 .rename_i t parts
  have e:(parts.toList.map λ(i,x)=>(i,ρ x))=(parts.toList.map λ(i,x)=>(i,ρ' x)):=by
   apply pD
   rintro⟨i,x⟩ H
   simp only
   rw[h x (by simp only[Op.operands];simp;exact⟨i,by simpa using H⟩)]
  rw[e] at hs;exact hs
 .rename_i t n parts
  have e:(parts.toList.map λ(i,x)=>(i,ρ x))=(parts.toList.map λ(i,x)=>(i,ρ' x)):=by
   apply pD
   rintro⟨i,x⟩ H
   simp only
   rw[h x (by simp only[Op.operands];simp;exact⟨i,by simpa using H⟩)]
  rw[e] at hs;exact hs
 .rename_i f first cap
  split at hs
  .rename_i hf
   have e:cap.toList.map ρ=cap.toList.map ρ':=by
    apply pD
    intro x H;exact h x (by simp only[Op.operands];simp;right;simpa using H)
   rw[e] at hs;exact hs
  .exact hs.elim
 .exact zp6 h hs
section
variable {P:Program} {X:Nat->Prop} {w0:bz} {st:St} {β:Nat->Value} {a0:Act} {w00:World}
structure ls(P:Program)(X:Nat->Prop)(all:List Oper)(ss:List ah)(st:St)(β:Nat->Value)(a0:Act)(w00:World)(listed:Array Bool)(a:Act)(w:World):Prop where
 size:listed.size=all.length
 defers:a.defers=a0.defers
 tmps:a.tmps.size=st.n
 below:Below w00.heap.size w00 w
 down:∀ i o,all[i]?=some o->listed.getD i true=true->∀ e∈o.after.toList,Region.binds .any e=true->listed.getD e.on false=true
 done:∀ i o t s,all[i]?=some o->listed.getD i true=true->o.dst=some t->ss[i]?=some s->ah.lo st.next s/\Sm w (Ex X β st.own) β s (a.tmps.getD t undef)
 aC:∀ t,(∀ i o,all[i]?=some o->listed.getD i true=true->o.dst≠some t)->a.tmps.getD t undef=a0.tmps.getD t undef
def seen(all:List Oper)(o:Oper)(st:St):List (Nat×ah):=(aX all o).filterMap λt=>(zc st.af t).map λs=>(t,s)
theorem Ys{t:Nat}:∀ {l:List Tmp} {s:ah},zc (l.filterMap λt=>(zc st.af t).map λs=>(t,s)) t=some s->t∈l/\zc st.af t=some s
 | [],s,h=>by simp[zc] at h
 |x::r,s,h=>by
  simp only[Ca] at h;cases H:zc st.af x with
  |none=>simp only[H,Option.map_none] at h;have:=Ys h;exact⟨nG _ this.1,this.2⟩
  |some y=>
   simp only[H,oL,zc] at h;split at h
   .rename_i e;subst e;simp at h;subst h;exact⟨by simp,H⟩
   .have:=Ys h;exact⟨nG _ this.1,this.2⟩
theorem JD{t:Nat}{s:ah}:∀ {l:List Tmp},t∈l->zc st.af t=some s->zc (l.filterMap λt=>(zc st.af t).map λs=>(t,s)) t=some s
 | [],h,_=>by cases h
 |x::r,h,hs=>by
  simp only[Ca];by_cases e:x=t
  .subst e;simp[hs,zc]
  .have H:t∈r:=by rcases nE.1 h with h | h;exact absurd h.symm e;exact h
   cases G:zc st.af x with
   |none=>simp only[Option.map_none];exact JD H hs
   |some y=>simp only[oL,zc,e,oU];exact JD H hs
end
end Go.V
namespace Go.V
variable [Dr] [Ov]
open Go.RowKit
theorem V4{all:List Oper}{o:Oper}{t:Nat}(h:Operand.tmp t∈o.op.operands):t∈aX all o:=by
 unfold aX
 refine nM.2 (.inl (List.mem_filterMap.2 ⟨.tmp t,?_,rfl⟩))
 simpa using h
theorem BH{all:List Oper}{o:Oper}{j t:Nat}{want:Bool}(H:o.guard=some (j,want))(G:(all[j]?).bind (·.dst)=some t):t∈aX all o:=by
 unfold aX
 refine nM.2 (.inr ?_)
 rw[H];simp[G]
section
variable {P:Program} {X:Nat->Prop} {w0:bz} {st:St} {β:Nat->Value} {a0:Act} {w00:World} {all:List Oper} {ss:List ah}
theorem BI(h:yO all=true){i:Nat}{o:Oper}(hi:all[i]?=some o):(∀ e∈o.after.toList,Region.binds .any e=true->e.on<i)/\(∀ t,o.dst=some t->t∉aX all o):=by
 unfold yO at h
 have H:(o,i)∈all.zipIdx:=by rw[sv];exact hi
 have:=(oo.1 h) _ H
 simp only[nI] at this
 obtain⟨⟨G,F⟩,_⟩:=this
 constructor
 .intro e E hb
  unfold SX at G;have:=(oo.1 G) e E
  simpa[hb] using this
 .intro t ht
  unfold SZ at F;rw[ht] at F;simpa using F
theorem uC(h:yO all=true){i j:Nat}{x y:Oper}(hi:all[i]?=some x)(hj:all[j]?=some y)(H:i<j):
  (∀ t,x.dst=some t->(t∈aX all y->eH y i=true)/\y.dst≠some t)/\(∀ t,y.dst=some t->t∈aX all x->eH y i=true):=by
 unfold yO at h
 have F:(y,j)∈all.zipIdx:=by rw[sv];exact hj
 have G:(x,i)∈all.zipIdx:=by rw[sv];exact hi
 have E:=(oo.1 h) _ F
 simp only[nI] at E
 have K:=(oo.1 E.2) _ G
 simp only[H,decide_true,tF,rk] at K
 unfold SY at K
 simp only[nI] at K
 constructor
 .intro t J
  have L:=K.1;rw[J] at L;simp only[nI,oS,pS,bne_iff_ne] at L;refine⟨λhmem=>?_,L.2⟩
  rcases L.1 with M | M
  .rw[Bs.2 hmem] at M;cases M
  .exact M
 .intro t J hmem
  have L:=K.2;rw[J] at L;simp only[oS,pS] at L;rcases L with M | M
  .rw[Bs.2 hmem] at M;cases M
  .exact M
theorem Yt{o:Oper}{j:Nat}(h:eH o j=true):∃ e∈o.after.toList,Region.binds .any e=true/\e.on=j:=by
 unfold eH at h
 obtain⟨e,H,h⟩:=n_.1 h
 simp at h
 exact⟨e,H,h.1,h.2⟩
theorem zmd(B:yO all=true)(hm:ax X w0 st β a0 w00)(Hp:ff P all all ss st){listed:Array Bool}{a:Act}{w:World}(hh:ls P X all ss st β a0 w00 listed a w)
  {i:Nat} {o:Oper} (hi:all[i]?=some o) (J:listed.getD i true=false) (E:∀ e∈o.after.toList,Region.binds .any e=true->listed.getD e.on false=true) {N:Act->World->Prop} {Q:Exit->Act->World->Prop}
  (hN:∀ a' w',ls P X all ss st β a0 w00 (listed.setIfInBounds i true) a' w'->N a' w'):wpOp P all.toArray Q i N a w:=by
 have I:=JC Hp
 obtain⟨s,hs,hd,H⟩:=Ut Hp hi
 have T:i<all.length:=(nN.1 hi).1
 generalize Hs:bL (all.take i) (ss.take i) st=zU at H
 obtain⟨ho,hn,hx⟩:=Xu (all.take i) (ss.take i) st
 rw[Hs] at ho hn hx
 -- what the af that it looks at iJ
 have K:∀ t∈aX all o,∀ s',zc zU.af t=some s'->ah.lo st.next s'/\Sm w (Ex X β st.own) β s' (a.tmps.getD t undef):=by
  intro t ht s' V;rw[<-Hs] at V;rcases Uu (l:=all.take i) (ss:=ss.take i) (st:=st) (t:=t) (by simp[I]) with⟨j,y,sj,h1,h2,h3,h4⟩ | ⟨h1,h2⟩
  .rw[h4] at V;cases V
   have S:j<i:=by
    rcases pe j i with h | h
    .exact h
    .rw[og,ge (by omega)] at h1;cases h1
   rw[og,gt S] at h1;rw[og,gt S] at h2;have hb:=((uC B h1 hi S).1 t h3).1 ht;obtain⟨e,he,O,W⟩:=Yt hb;have hl:=E e he O;rw[W] at hl;have H0:listed.getD j true=true:=by
    have G:j<listed.size:=by rw[hh.size];omega
    simp[Array.getD,G] at hl ⊢;exact hl
   exact hh.done j y t s' h1 H0 h3 h2
  .rw[h2] at V
   have Y:a.tmps.getD t undef=a0.tmps.getD t undef:=by
    refine hh.aC t λj y hj F M=>?_
    rcases pU j i with h | h | h
    .exact h1 j y (by rw[og,gt h];exact hj) M
    .subst h;rw[J] at F;cases F
    .have hb:=(uC B hi hj h).2 t M ht
     obtain⟨e,he,O,W⟩:=Yt hb;have:=hh.down j y hj F e he O
     rw[W] at this;have G:i<listed.size:=by rw[hh.size];exact T
     simp[Array.getD,G] at this J;rw[this] at J;cases J
   rw[Y];have:=hm.af t s' V
   exact⟨this.1,Sm.over (m:=st.next) (λ_ _=>rfl) (bh.dC hh.below _) this.1 this.2⟩
 -- a state for it
 let st':St:={st with af:=seen all o zU}
 have Ga:ax X w0 st' β a w:=by
  refine⟨hm.bU,hm.bI,hm.cB,hh.defers.trans hm.defers,hh.tmps,hm.below.next hh.below,hm.bB,?_,hm.apart,?_⟩
  .intro id ob L
   obtain⟨q1,q2,q3⟩:=hm.own id ob L;exact⟨q1,q2,yV.over (m:=st.next) (λ_ _=>rfl) (bh.dC hh.below _) q1 q2 (λb hb=>hh.below.block b (hm.lt b (.inr ⟨id,ob,L,hb⟩))) q3⟩
  .intro t s' ht
   obtain⟨q1,q2⟩:=Ys ht;exact K t q1 s' q2
 have H1:∀ x∈o.op.operands,zU.val x=st'.val x:=by
  intro x Gb;cases x with
  |tmp t=>
   simp only[St.val];have L:t∈aX all o:=V4 Gb
   cases hl:zc zU.af t with
   |some s'=>
    have:zc st'.af t=some s':=JD L hl
    rw[this]
   |none=>
    cases H0:zc st'.af t with
    |none=>rfl
    |some s'=>have:=(Ys H0).2;rw[hl] at this;cases this
  |_=>rfl
 have Z:zU.ay=st'.ay:=by funext id;simp only[St.ay,ho];rfl
 -- behind it
 have after:∀ v w',Below w.heap.size w w'->ah.lo st.next s->Sm w' (Ex X β st.own) β s v->ls P X all ss st β a0 w00 (listed.setIfInBounds i true) (a.put o.dst v) w':=by
  intro v w' hb Gc H2;have Hx:=xw hd;have Gd:bh w (Ex X β st.own) w' (Ex X β st.own):=bh.dC hb _
  have C:∀ j,(listed.setIfInBounds i true).getD j true=if j=i then true else listed.getD j true:=by
   intro j;by_cases e:j=i
   .subst e
    have G:j<listed.size:=by rw[hh.size];exact T
    simp[Array.getD,G]
   .simp only[e,oU]
    by_cases G:j<listed.size
    .simp[Array.getD,G,rj,se e]
    .simp[Array.getD,G]
  have G2:∀ j,listed.getD j false=true->(listed.setIfInBounds i true).getD j false=true:=by
   intro j hj;by_cases G:j<listed.size
   .simp[Array.getD,G,rj] at hj ⊢;right;exact hj
   .simp[Array.getD,G] at hj
  refine⟨by simp[hh.size],by cases o.dst <;> exact hh.defers,by rw[<-hh.tmps];cases o.dst <;> simp[Act.put],hh.below.trans (hb.mono hh.below.size),?_,?_,?_⟩
  .intro j y hj F e he O
   rw[C] at F;by_cases e':j=i
   .subst e';rw[hi] at hj;cases hj;exact G2 _ (E e he O)
   .simp only[e',oU] at F;exact G2 _ (hh.down j y hj F e he O)
  .intro j y t sj hj F M Hb
   rw[C] at F;rw[B8 (λd Hc=>by rw[hh.tmps];exact Hx d Hc)]
   by_cases e':j=i
   .subst e';rw[hi] at hj;cases hj
    rw[hs] at Hb;cases Hb;rw[gt M];exact⟨Gc,H2⟩
   .simp only[e',oU] at F
    have Hd:¬(o.dst=some t):=by
     intro h;rcases tU e' with h' | h'
     .exact((uC B hj hi h').1 t M).2 h
     .exact((uC B hi hj h').1 t h).2 M
    rw[ge Hd];have:=hh.done j y t sj hj F M Hb
    exact⟨this.1,Sm.over (m:=st.next) (λ_ _=>rfl) Gd this.1 this.2⟩
  .intro t ht
   rw[B8 (λd Hc=>by rw[hh.tmps];exact Hx d Hc)]
   have Hd:¬(o.dst=some t):=ht i o hi (by rw[C];simp)
   rw[ge Hd];exact hh.aC t λj y hj F=>ht j y hj (by rw[C];split;rfl;exact F)
 -- the operation
 have A:(Yr zU.val o.op=true/\vQ P zU.ay zU.val o.op (λs'=>s'=s))->o.wp P a w N Q:=by
  intro⟨h1,h2⟩;rw[Z] at h2;have h3:=BG H1 h2;exact Jq Ga o h3 N Q λs' v w' e hl hb H2=>by subst e;exact hN _ _ (after v w' hb hl H2)
 unfold wpOp
 have Go:all.toArray[i]?=some o:=by simpa using hi
 rw[Go]
 simp only
 unfold eI wj at H
 split at H
 .rename_i hg
  simp only[Region.wanted,hg,oV];exact .inl (A H)
 .rename_i j want hg
  split at H
  .rename_i t ht
   split at H
   .rename_i b hb
    have Hi:t∈aX all o:=BH hg ht
    have hv:=(K t Hi _ hb).2;simp only[Sm,R] at hv;have G:t<a.tmps.size:=by
     rcases pe t a.tmps.size with h' | h'
     .exact h'
     .rw[show a.tmps.getD t undef=undef by simp[h']] at hv;simp[undef] at hv
    have hy:yielded all.toArray a.tmps j=some b:=by
     unfold yielded;rw[Yq ht];have Gr:a.tmps[t]?=some (.bool b):=by
      rw[qz G];simp[G] at hv;rw[hv]
     simp[Gr]
    simp only[Region.wanted,hg,hy];by_cases e:b=want
    .subst e
     simp only[tD,oV];exact .inl (A (H.1 rfl))
    .have e':b = !want:=by cases b <;> cases want <;> simp_all
     have:(some b==some want)=false:=by simp[e]
     simp only[this,ou,oU];have hj:=H.2 e';rw[<-hj] at after;exact hN _ _ (after undef w (Below.refl _ _) (by simp[ah.lo]) (by simp[Sm,R]))
   .rename_i v hb
    have Hi:t∈aX all o:=BH hg ht
    have hv:=(K t Hi _ hb).2;obtain⟨rfl,hj⟩:=H;simp only[Sm,R] at hv;have hy:yielded all.toArray a.tmps j=none:=Up (Yq ht) hv
    simp only[Region.wanted,hg,hy];have:((none:Option Bool)==some want)=false:=rfl
    simp only[this,ou,oU];rw[<-hj] at after;exact hN _ _ (after undef w (Below.refl _ _) (by simp[ah.lo]) (by simp[Sm,R]))
   .exact H.elim
  .exact H.elim
theorem Uw(F:yO all=true){listed:Array Bool}(K:listed.size=all.length)(J:Region.ready .any all.toArray listed=[]):∀ i,i<all.length->listed.getD i true=true:=by
 intro i
 induction i using Nat.strongRecOn with
 |_ i ih=>
  intro hi;by_cases h:listed.getD i true=true
  .exact h
  .exfalso
   have L:listed.getD i true=false:=by simpa using h
   have H:i∈Region.ready .any all.toArray listed:=by
    unfold Region.ready;refine oA.2 ⟨by simpa using hi,?_⟩
    have M:all.toArray[i]?=some all[i]:=by simp[hi]
    rw[L,M];simp only[sO,pK,oL,nW];rw[sm];intro e O;by_cases Q:Region.binds .any e=true
    .have E:=(BI F (ac hi)).1 e (by simpa using O) Q
     have:=ih e.on E (by omega)
     have G:e.on<listed.size:=by omega
     simp[Array.getD,G] at this ⊢;right;exact this
    .simp[Q]
   rw[J] at H;cases H
theorem T0(M:yO all=true)(O:ax X w0 st β a0 w00)(K:ff P all all ss st){listed:Array Bool}{a:Act}{w:World}(Q:ls P X all ss st β a0 w00 listed a w)
  (G:∀ i,i<all.length->listed.getD i true=true):ax X w0 (bL all ss st) β a w:=by
 have F:=JC K
 obtain⟨T,V,Y,J,L⟩:=Xu all ss st
 have E:bh w00 (Ex X β st.own) w (Ex X β st.own):=bh.dC Q.below _
 refine⟨O.bU,by rw[J,Y,L];exact O.bI,O.cB,Q.defers.trans O.defers,by rw[V];exact Q.tmps,O.below.next Q.below,by rw[T];exact O.bB,?_,by rw[T];exact O.apart,?_⟩
 .rw[T,Y]
  intro id ob H;obtain⟨q1,q2,q3⟩:=O.own id ob H;exact⟨q1,q2,yV.over (m:=st.next) (λ_ _=>rfl) E q1 q2 (λb Z=>Q.below.block b (O.lt b (.inr ⟨id,ob,H,Z⟩))) q3⟩
 .rw[T,Y]
  intro t s A;rcases Uu (l:=all) (ss:=ss) (st:=st) (t:=t) F with⟨i,o,s',B,C,I,N⟩ | ⟨B,C⟩
  .rw[N] at A;cases A
   exact Q.done i o t s B (G i (nN.1 B).1) I C
  .rw[C] at A
   rw[Q.aC t (λi o hi _=>B i o hi)]
   have:=O.af t s A
   exact⟨this.1,Sm.over (m:=st.next) (λ_ _=>rfl) E this.1 this.2⟩
theorem T8(H:yO all=true)(T:ax X w0 st β a0 w00)(E:ff P all all ss st){Q:Exit->Act->World->Prop}
  (V:∀ a w,ax X w0 (bL all ss st) β a w->Q .normal a w):∀ (fuel:Nat) (listed:Array Bool) (a:Act) (w:World),(listed.toList.filter (!·)).length<=fuel->ls P X all ss st β a0 w00 listed a w ->
  wpAny P .any all.toArray Q fuel listed a w
 |0,listed,a,w,Y,Z=>by
  have G:∀ i,i<all.length->listed.getD i true=true:=by
   intro i hi;have K:i<listed.size:=by rw[Z.size];exact hi
   by_cases h:listed[i]=true
   .simp[Array.getD,K,h]
   .exfalso
    have J:listed[i]∈listed.toList.filter (!·):=oA.2 ⟨by simp,by simpa using h⟩
    have:=AD J
    omega
  refine⟨?_,V a w (T0 H T E Z G)⟩
  unfold Region.ready;rw[rp];intro i hi;rw[G i (by simpa using hi)]
  simp
 |fuel+1,listed,a,w,Y,Z=>by
  refine⟨λA=>V a w (T0 H T E Z (Uw H Z.size A)),λi hi=>?_⟩
  unfold Region.ready at hi;obtain⟨L,hi⟩:=oA.1 hi;simp only[nI,pS] at hi;obtain⟨F,hi⟩:=hi;cases B:all.toArray[i]? with
  |none=>rw[B] at hi;simp at hi
  |some o=>
   rw[B] at hi;simp only[oL,nW] at hi;have M:i<all.length:=by simpa using L
   have K:i<listed.size:=by rw[Z.size];exact M
   refine zmd H T E Z (by simpa using B) F ?_ λa' w' hh'=>T8 H T E V fuel _ a' w' ?_ hh'
   .intro e C hb
    rw[sm] at hi;have:=hi e (by simpa using C)
    simpa[hb] using this
   .have O:listed[i]=false:=by simpa[Array.getD,K] using F
    have key:∀ (l:List Bool) (i:Nat) (h:i<l.length),l[i]=false->((l.set i true).filter (!·)).length+1=(l.filter (!·)).length:=by
     intro l;induction l with
     |nil=>intro i h;simp at h
     |cons x r ih=>
      intro i h I;cases i with
      |zero=>simp at I;subst I;simp
      |succ i=>
       have:=ih i (by simpa using h) (by simpa using I)
       simp only[sk,rK];split <;> simp[this]
    have:=key listed.toList i (by simpa using K) (by simpa using O)
    rw[ut];omega
theorem zfi{id:Nat}(H:P.follows .mixedOrders=true)(F:yO all=true){Q:DE->St->Prop}(h:gg P all all st (Q .normal)):aT P (.region id all.toArray true) Q st:=by
 intro X w0 β a w J
 obtain⟨ss,E,L⟩:=SV h
 refine wp_region_any H ?_
 have G:ax X w0 st β a {w with drawn:=w.drawn+1}:=by
  have M:Below w.heap.size w {w with drawn:=w.drawn+1}:=⟨⟨rfl,rfl,rfl,nJ _,λ_ _=>rfl⟩,λ_=>rr _⟩
  have:=J.put M (dst:=none) (s:=.junk) (v:=undef) (by simp) (by simp[ah.lo]) (by simp[Sm])
  simpa[St.put,Act.put] using this
 refine T8 F G E (λa w K=>⟨.normal,_,β,trivial,L,K⟩) _ _ a _ ?_ ?_
 .simp
 .have O:∀ i,(Array.replicate all.toArray.size false).getD i true=true->¬i<all.length:=by
   intro i h hi;simp[Array.getD,hi] at h
  refine⟨by simp,rfl,G.size,Below.refl _ _,?_,?_,λ_ _=>rfl⟩
  .intro i o hi T
   exact absurd (nN.1 hi).1 (O i T)
  .intro i o t s hi T
   exact absurd (nN.1 hi).1 (O i T)
end
end Go.V
namespace Go.V
variable [Dr] [Ov]
open Go.RowKit
def BJ(P:Program)(all r:List Oper)(K:St->Prop):St->Prop:=λst=>wh P all r st K
def T9(P:Program)(all r:List Oper)(dst:Option Tmp)(st:St)(K:St->Prop):ah->Prop:=λs=>gg P all r (st.put dst s) K
def Ta(P:Program)(all r:List Oper)(dst:Option Tmp)(st:St)(K:St->Prop):ah->Prop:=Us (iD all dst) λs=>gg P all r (st.put dst s) K
def zu0:Op->Bool
 |.call c=>match c.callee with
  |.builtin .copy=>true
  |.builtin .append=>true
  |.builtin .clear=>true
  |_=>false
 |.store _ _ _=>true
 |.box _ _=>true
 |.alloc _=>true
 |.makeSlice _ _ _=>true
 |.makeMap _ _=>true
 |.range _ _=>true
 |.next _ _=>true
 |.mapUpdate _ _ _ _=>true
 |_=>false
def zsg(o:Oper):Bool:=Nat.beq o.type 0&&(match o.op with
 |.call {callee:=.value _,args:=_,argTypes:=_}=>true
 |_=>false)
def JE(ops:List Oper):Bool:=yO ops && !(ops.any λo=>zu0 o.op || zsg o)
theorem zp7{ops:List Oper}(h:JE ops=true):yO ops=true:=by
 unfold JE at h;rw[nI] at h;exact h.1
def ev(P:Program):Code->(DE->St->Prop)->St->Prop
 |.skip,Q,st=>Q .normal st
 |.region id ops draw,Q,st=>if draw=true then (if JE ops.toList=true then gg P ops.toList ops.toList st (Q .normal) else aT P (.region id ops true) Q st)
  else wh P ops.toList ops.toList st (Q .normal)
 |.seq x y,Q,st=>ev P x (Xr (λst'=>ev P y Q st') Q) st
 |.cond c x y,Q,st=>match st.val c with
  |.d (.bool b)=>(b=true->ev P x Q st)/\(b=false->ev P y Q st)
  |_=>False
 |.block id c,Q,st=>ev P c (jD id Q) st
 |.exit id,Q,st=>Q (.exit id) st
 |.ret,Q,st=>Q .ret st
 |.loop c,Q,st=>aT P (.loop c) Q st
 |.scope c,Q,st=>ev P c Q st
 |.label _,Q,st=>Q .normal st
 |c,Q,st=>aT P c Q st
def JF(P:Program)(y:Code)(Q:DE->St->Prop):DE->St->Prop:=Xr (λst=>ev P y Q st) Q
def Ux(Q:DE->St->Prop):St->Prop:=λst=>Q .normal st
section
variable {P:Program} {X:Nat->Prop} {w0:bz} {st:St} {β:Nat->Value} {a:Act} {w w':World}
theorem bF(H:P.follows .mixedOrders=true):∀ {c:Code} {Q:DE->St->Prop} {st:St},ev P c Q st->aT P c Q st
 |.skip,Q,st,h=>ZC (c:=.skip) h
 |.region id ops draw,Q,st,h=>by
  simp only[ev] at h;split at h
  .rename_i e;subst e
   split at h
   .rename_i F
    have:=zfi (id:=id) H (zp7 F) h
    simpa using this
   .exact h
  .rename_i e
   have e:draw=false:=by simpa using e
   subst e;exact ZC (c:=.region id ops false) (by simpa[gd] using h)
 |.seq x y,Q,st,h=>by
  simp only[ev] at h;intro X w0 β a w E;refine wp_seq (wp_mono (bF H h X w0 β a w E) ?_)
  rintro e a' w' ⟨de,st',β',K,J,G⟩
  cases e <;> cases de <;> simp only[yq] at K
  .exact bF H J X w0 β' a' w' G
  .subst K;exact⟨.exit _,st',β',rfl,J,G⟩
  .exact⟨.ret,st',β',trivial,J,G⟩
 |.cond c x y,Q,st,h=>by
  simp only[ev] at h;intro X w0 β a w E;split at h
  .rename_i b hb
   have L:=(E.val c).2;rw[hb] at L;simp only[Sm,R] at L;refine wp_cond L ?_
   cases b
   .exact bF H (h.2 rfl) X w0 β a w E
   .exact bF H (h.1 rfl) X w0 β a w E
  .exact h.elim
 |.block id c,Q,st,h=>by
  simp only[ev] at h;intro X w0 β a w E;refine wp_block (wp_mono (bF H h X w0 β a w E) ?_)
  rintro e a' w' ⟨de,st',β',K,J,G⟩
  cases e <;> cases de <;> simp only[yq] at K
  .exact⟨.normal,st',β',trivial,J,G⟩
  .subst K
   simp only[jD] at J;simp only[Exit.inBlock];split
   .rename_i e;rw[gt e] at J;exact⟨.normal,st',β',trivial,J,G⟩
   .rename_i e;rw[ge e] at J;exact⟨.exit _,st',β',rfl,J,G⟩
  .exact⟨.ret,st',β',trivial,J,G⟩
 |.exit id,Q,st,h=>ZC (c:=.exit id) h
 |.ret,Q,st,h=>ZC (c:=.ret) h
 |.loop c,Q,st,h=>h
 |.rangeFunc ..,Q,st,h=>h
 |.scope c,Q,st,h=>by
  simp only[ev] at h;intro X w0 β a w E;refine wp_scope_straight (wp_mono (bF H h X w0 β a w E) ?_)
  rintro e a' w' ⟨de,st',β',K,J,G⟩
  cases e <;> first | (cases de <;> exact K.elim) | exact⟨de,st',β',K,J,G⟩
 |.label l,Q,st,h=>λX w0 β a w E=>wp_label ⟨.normal,st,β,trivial,h,E⟩
 |.goto ..,Q,st,h=>h
 |.refuse ..,Q,st,h=>h
theorem hZ(E:P.follows .mixedOrders=true){α:Type}{c:Code}{Q:DE->St->Prop}(S:α->St)(inv:α->Prop)(μ:α->Nat)(x0:α)(Y:inv x0)(Z:dx st (S x0))
  (A:∀ x,inv x->ev P c (dB S inv μ x Q) (S x)):aT P (.loop c) Q st:=by
 intro X w0 β a w B
 let I:Nat->Act->World->Prop:=λn a w=>∃ x β,inv x/\μ x=n/\ax X w0 (S x) β a w
 have key:∀ a w,(∃ n,I n a w)->∃ n,I n a w/\∀ m,I m a w->n<=m:=by
  intro a w ⟨n,C⟩;induction n using Nat.strongRecOn with
  |_ n ih=>
   by_cases h:∃ m,m<n/\I m a w
   .obtain⟨m,N,W⟩:=h;exact ih m N W
   .exact⟨n,C,λm B=>by rcases pe m n with h' | h';exact absurd ⟨m,h',B⟩ h;exact h'⟩
 classical
 let M:Act->World->Nat:=λa w=>if h:∃ n,I n a w then Classical.choose (key a w h) else 0
 refine wp_loop (λa w=>∃ n,I n a w) M ⟨_,x0,β,Y,rfl,B.dY Z⟩ ?_
 intro a w hI
 have G:=rv (key a w hI)
 have hM:M a w=Classical.choose (key a w hI):=si hI
 rw[<-hM] at G
 obtain⟨⟨x,β',hx,hμ,L⟩,O⟩:=G
 refine wp_mono (bF E (A x hx) X w0 β' a w L) ?_
 rintro e a' w' ⟨de,st',β'',he,hq,H⟩
 cases e <;> cases de <;> simp only[yq] at he
 .obtain⟨y,hy,V,K⟩:=hq
  have F:∃ n,I n a' w':=⟨μ y,y,β'',hy,rfl,H.dY K⟩
  refine⟨F,?_⟩
  have J:=rv (key a' w' F);have T:M a' w'=Classical.choose (key a' w' F):=si F
  rw[<-T] at J;have:=J.2 (μ y) ⟨y,β'',hy,rfl,H.dY K⟩
  omega
 .subst he;exact⟨.exit _,st',β'',rfl,hq,H⟩
 .exact⟨.ret,st',β'',trivial,hq,H⟩
theorem ip(F:P.follows .mixedOrders=true){f:Nat}{fn:Func}{c:Code}(K:P.funcs[f]?=some fn)(J:fn.body=some c)(G:aN P f=true){args:List D}{r:D}
  (h:ev P c (cJ (eF P fn.results.toList r)) (ct fn.ntmps args)):aq P f args r:=by
 refine⟨G,λw E vs L M=>?_⟩
 refine calls_of_wp K J ?_
 refine wp_mono (bF F h E (.of w) _ _ w (ax.iM L M)) ?_
 rintro e a' w' ⟨de,st',β',O,Q,H⟩
 cases e <;> cases de <;> simp only[yq] at O
 .obtain⟨v,T,V⟩:=kT H Q
  exact⟨H.defers,v,T,v,rfl,H.below.below,V⟩
 .exact Q.elim
 .obtain⟨v,T,V⟩:=kT H Q
  exact⟨H.defers,v,T,v,rfl,H.below.below,V⟩
def ld(P:Program)(rs:List ResultVar)(Φ:D->Prop)(st:St):Prop:=∃ r,Φ r/\eF P rs r st
theorem iy(F:P.follows .mixedOrders=true){f:Nat}{fn:Func}{c:Code}(K:P.funcs[f]?=some fn)(J:fn.body=some c)(G:aN P f=true){args:List D}{Φ:D->Prop}
  (h:ev P c (cJ (ld P fn.results.toList Φ)) (ct fn.ntmps args)):cu P f args Φ:=by
 refine⟨G,λw E vs L M=>?_⟩
 refine calls_of_wp K J ?_
 refine wp_mono (bF F h E (.of w) _ _ w (ax.iM L M)) ?_
 rintro e a' w' ⟨de,st',β',O,Q,H⟩
 cases e <;> cases de <;> simp only[yq] at O
 .obtain⟨r,hΦ,Q⟩:=Q
  obtain⟨v,T,V⟩:=kT H Q;exact⟨H.defers,v,T,v,r,rfl,H.below.below,hΦ,V⟩
 .exact Q.elim
 .obtain⟨r,hΦ,Q⟩:=Q
  obtain⟨v,T,V⟩:=kT H Q;exact⟨H.defers,v,T,v,r,rfl,H.below.below,hΦ,V⟩
theorem gT(K:P.follows .mixedOrders=true){f:Nat}{fn:Func}{c:Code}(M:P.funcs[f]?=some fn)(O:fn.body=some c)(G:aN P f=true){args:List D}{T sz:Nat}{rows:List (List D)}(F:∀ r∈rows,r.length=sz)
  (h:ev P c (cJ (lH fn.results.toList T sz rows)) (ct fn.ntmps args)):eG P f args T sz rows:=by
 refine⟨G,F,λw E vs Q V=>?_⟩
 refine calls_of_wp M O ?_
 refine wp_mono (bF K h E (.of w) _ _ w (ax.iM Q V)) ?_
 have ck:∀ {st' β' a' w'},ax E (.of w) st' β' a' w'->lH fn.results.toList T sz rows st'->a'.defers=[]/\∃ v,(results fn a'.tmps).run P w' = .ok v w' /\
   ∃ u xs,Ending.returned v = .returned u/\Below w.heap.size w w'/\w'.ownsRow w.heap.size T sz u rows.length xs/\(∀ b,bP u=some b->xY w' b)/\zl w' (λb=>E b\/bP u=some b) rows.flatten xs:=by
  intro st' β' a' w' H X;unfold lH at X;split at X
  .rename_i t L
   split at X
   .rename_i id hs
    split at X
    .rename_i T' sz' rows' J
     obtain⟨rfl,rfl,rfl⟩:=X;obtain⟨_,_,xs,q1,q2,q3⟩:=H.dm J;have Y:=(H.af t _ hs).2;simp only[Sm] at Y;refine⟨H.defers,β' id,?_,β' id,xs,rfl,H.below.below,q1.row (λb O=>O.elim (λh=>h) (λh=>h.elim)),λb O=>(q1.2 b O).2,zl.over (bh.dy ?_) _ _ q2⟩
     .have:fn.results = #[.tmp t]:=by
       have:=congrArg List.toArray L;simpa using this
      rw[results_tmp this,Y]
     .rintro b (h | h)
      .exact .inl h
      .exact .inr ⟨id,_,xm J,h⟩
    .exact X.elim
   .exact X.elim
  .exact X.elim
 rintro e a' w' ⟨de,st',β',Z,X,H⟩
 cases e <;> cases de <;> simp only[yq] at Z
 .exact ck H X
 .exact X.elim
 .exact ck H X
theorem zE.pure{f:Operand}{xs:List Operand}{dst:Option Tmp}{K:St->Prop}{g:Nat}{ds:List D}{lent:Bool}{r:D}(H:k7 st f xs=some (g,ds,lent))(G:aq P g ds r)
  (hs:lent=true->r.bZ=true) (F:K (st.put dst (.d r))):zE P st f xs dst K:=by
 unfold zE ZB;left;rw[H];exact .inl ⟨r,G,λe=>.inl (hs e),F⟩
theorem zg{f:Operand}{xs:List Operand}{dst:Option Tmp}{K:St->Prop}{g:Nat}{ds:List D}{lent:Bool}{r:D}(H:aq P g ds r)(G:K (st.put dst (.d r)))(F:k7 st f xs=some (g,ds,lent):=by rfl)(hs:lent=true->r.bZ=true:=by first | exact λ_=>rfl | simp | simp[D.bZ]):zE P st f xs dst K:=.pure F H hs G
theorem zE.im{f:Operand}{xs:List Operand}{dst:Option Tmp}{K:St->Prop}{g:Nat}{ds:List D}{lent:Bool}{T sz:Nat}{rows:List (List D)}(H:k7 st f xs=some (g,ds,lent))(G:eG P g ds T sz rows)
  (hs:lent=true->D.dj rows.flatten=true) (F:K ((st.new (.aQ T sz rows)).put dst (.ar st.next))):zE P st f xs dst K:=by
 unfold zE ZB;left;rw[H];exact .inr ⟨T,sz,rows,G,hs,F⟩
theorem zE.frozen{f:Operand}{xs:List Operand}{dst:Option Tmp}{K:St->Prop}(h:ZB P (st.xn (uB (xs.map st.val))) f xs dst K):zE P st f xs dst K:=.inr (.inl h)
theorem zE.mut{f:Operand}{xs:List Operand}{dst:Option Tmp}{K:St->Prop}{g:Nat}{aJ:List ah}(aD:List Nat)(args0:List ah)(aR:List (Nat×am)){s:ah}{nx:Nat}{own':List (Nat×am)}{mv:List Nat}
  (H:xF (st.val f)=some (g,aJ)) (G:yf (ce aD) args0=xs.map st.val++aJ) (F:ah.a_ aD.length args0) (E:cV st aD aR) (J:aU P g args0 aR aD.length s nx own' mv)
  (L:K ((st.after aD nx own' mv).put dst (cg (yE aD st.next) s))):zE P st f xs dst K:=.inr (.inr (.inl ⟨g,aJ,aD,args0,aR,s,nx,own',mv,H,G,F,E,J,L⟩))
theorem zE.Tc{st':St}{f:Operand}{xs:List Operand}{dst:Option Tmp}{K:St->Prop}{g:Nat}{aJ:List ah}(fz:List Nat)(H:st.xn fz=st')(aD:List Nat)(args0:List ah)(aR:List (Nat×am)){s:ah}{nx:Nat}{own':List (Nat×am)}{mv:List Nat}
  (G:xF (st'.val f)=some (g,aJ)) (F:yf (ce aD) args0=xs.map st'.val++aJ) (E:ah.a_ aD.length args0) (J:cV st' aD aR) (L:aU P g args0 aR aD.length s nx own' mv)
  (M:K ((st'.after aD nx own' mv).put dst (cg (yE aD st'.next) s))):zE P st f xs dst K:=by
 subst H
 exact .inr (.inr (.inr (.inr (.inr ⟨fz,g,aJ,aD,args0,aR,s,nx,own',mv,G,F,E,J,L,M⟩))))
theorem zE.some{f:Operand}{xs:List Operand}{dst:Option Tmp}{K:St->Prop}{g:Nat}{ds:List D}{lent:Bool}{Φ:D->Prop}(H:k7 st f xs=some (g,ds,lent))(G:cu P g ds Φ)
  (F:∀ r,Φ r->(lent=true->r.bZ=true)/\K (st.put dst (.d r))):zE P st f xs dst K:=by
 refine .inr (.inr (.inr (.inr (.inl ?_))))
 unfold Uo;rw[H];exact⟨Φ,G,F⟩
end
section
variable {P:Program} {st:St} {Q:DE->St->Prop} {K:St->Prop} {all r:List Oper}
theorem zsh:ev P .skip Q st=Q .normal st:=rfl
theorem zme(id:Nat)(ops:List Oper):ev P (.region id ops.toArray false) Q st=wh P ops ops st (Ux Q):=by simp[ev];rfl
theorem zsi(id:Nat)(ops:List Oper)(h:JE ops=true):ev P (.region id ops.toArray true) Q st=gg P ops ops st (Ux Q):=by simp[ev,h];rfl
theorem zp8(id:Nat)(ops:List Oper)(h:JE ops=false):ev P (.region id ops.toArray true) Q st=aT P (.region id ops.toArray true) Q st:=by simp[ev,h]
theorem zt0(x y:Code):ev P (.seq x y) Q st=ev P x (JF P y Q) st:=rfl
theorem zsj(c:Operand)(x y:Code):ev P (.cond c x y) Q st=match st.val c with
  |.d (.bool b)=>(b=true->ev P x Q st)/\(b=false->ev P y Q st)
  |_=>False:=rfl
theorem zp9(id:Nat)(c:Code):ev P (.block id c) Q st=ev P c (jD id Q) st:=rfl
theorem zsk(id:Nat):ev P (.exit id) Q st=Q (.exit id) st:=rfl
theorem zt1:ev P .ret Q st=Q .ret st:=rfl
theorem zqa(c:Code):ev P (.scope c) Q st=ev P c Q st:=rfl
theorem zqb(l:Nat):ev P (.label l) Q st=Q .normal st:=rfl
theorem zsl(c:Code):ev P (.loop c) Q st=aT P (.loop c) Q st:=rfl
theorem zic(y:Code):JF P y Q .normal st=ev P y Q st:=rfl
theorem zqc(y:Code)(i:Nat):JF P y Q (.exit i) st=Q (.exit i) st:=rfl
theorem zsm(y:Code):JF P y Q .ret st=Q .ret st:=rfl
theorem zmf:Ux Q st=Q .normal st:=rfl
theorem zab(i:Nat):jD i Q .normal st=Q .normal st:=rfl
theorem za0(i:Nat):jD i Q .ret st=Q .ret st:=rfl
theorem zam(i j:Nat):jD i Q (.exit j) st=if j=i then Q .normal st else Q (.exit j) st:=rfl
theorem zai{α:Type}{S:α->St}{inv:α->Prop}{μ:α->Nat}{x:α}:dB S inv μ x Q .normal st = ∃ y,inv y/\μ y<μ x/\dx st (S y):=rfl
theorem zbv{α:Type}{S:α->St}{inv:α->Prop}{μ:α->Nat}{x:α}:dB S inv μ x Q .ret st=Q .ret st:=rfl
theorem za1{α:Type}{S:α->St}{inv:α->Prop}{μ:α->Nat}{x:α}(i:Nat):dB S inv μ x Q (.exit i) st=Q (.exit i) st:=rfl
theorem zqd:wh P all [] st K=K st:=rfl
theorem zid(dst:Option Tmp)(op:Op)(ty:Nat)(pos:String)(after:Array Edge):
  wh P all (⟨dst,op,ty,pos,after,none⟩::r) st K=yz P ⟨dst,op,ty,pos,after,none⟩ st (BJ P all r K):=rfl
theorem zie(dst:Option Tmp)(op:Op)(ty:Nat)(pos:String)(after:Array Edge)(j:Nat)(want:Bool):
  wh P all (⟨dst,op,ty,pos,after,some (j,want)⟩::r) st K=match (all[j]?).bind (·.dst) with
   |some t=>match zc st.af t with
    |some (.d (.bool b))=>(b=want->yz P ⟨dst,op,ty,pos,after,some (j,want)⟩ (st.put (some t) (.d (.bool want))) (BJ P all r K)) /\
     (b = !want->yp dst st.n=true/\wh P all r ((st.put (some t) (.d (.bool !want))).put dst (.d (.val undef))) K)
    |some (.d (.val v))=>v=undef/\yp dst st.n=true/\wh P all r (st.put dst (.d (.val undef))) K
    |_=>False
   |none=>False:=rfl
theorem zmg:BJ P all r K st=wh P all r st K:=rfl
theorem zqe(dst:Option Tmp)(s:ah):ve st dst K s=K (st.put dst s):=rfl
theorem zmh:gg P all [] st K=K st:=rfl
theorem zif(o:Oper):gg P all (o::r) st K=(yp o.dst st.n=true/\wj P all o st (Ta P all r o.dst st K)):=rfl
theorem zmi(dst:Option Tmp)(s:ah):Ta P all r dst st K s=iz (iD all dst) s (T9 P all r dst st K):=rfl
theorem zmj(dst:Option Tmp)(s:ah):T9 P all r dst st K s=gg P all r (st.put dst s) K:=rfl
end
attribute [simp] Xh zqa zqb zsh zme zsi zp8 zt0 zsj zp9 zsk zt1 zsl zic zqc zsm zmf zab za0 zam zai zbv za1
attribute [simp] zqd zid zie zmg zqe zmh zif zmi zmj iz wj Yr BF iD
attribute [simp] mo Bf QP ld QR Value.oneCell' Uj Uk Ul Um Ui V0 St.iW
attribute [simp] yz vQ uA cJ St.val St.put St.ay St.new St.set zc zT bY yp iq Qx KP KQ KR Qy Jb uX Zv Qw Qu Qv QB QC Qz QA Zw Zx ln cH CS fX Yn wZ vD Qs
attribute [simp] ct V3 Jc eF V2 JA cL vO Zu dJ dx Xt jE ah.lo ah.a_ am.lo vh Jl Ba Bc Xm Jr Js kQ ii dL cp RX uB St.xn St.vP aO St.aV qf xu zA yI qx QQ QO
attribute [simp] Ud QD qe Zy Xj kN uZ Z1 io jw Bn Uc
attribute [simp] Ue Uf Ub U9 Xo dh
attribute [simp] bX xZ Zz ga qw lH
end Go.V
namespace Go.V
variable [Dr] [Ov]
open Go.RowKit
def Yu:Nat->List ah->List (Nat×ah)
 |_,[]=>[]
 |k,d::r=>(k,d)::Yu (k+1) r
def cz(ntmps:Nat)(args:List ah)(own:List (Nat×am))(n:Nat):St:=
 {n:=args.length+(ntmps-args.length),next:=n,af:=Yu 0 args,own:=own,ai:=n,aA:=[]}
def BK(ti:TI)(l:List ah):Option ah:=
 if ti.agg=true then (if ti.size<=l.length then some (wZ (l.take ti.size)) else none) else l.head?
def JG(P:Program)(st:St):ResultVar->Option ah
 |.tmp t=>zc st.af t
 |.cell ad T=>match zc st.af ad,TI.of P T with
  |some (.bp id off),some ti=>match st.ay id with
   |some (.box _ cells)=>BK ti (cells.drop off)
   |_=>none
  |_,_=>none
def V5(P:Program)(st:St):List ResultVar->Option (List ah)
 | []=>some []
 |v::r=>match JG P st v,V5 P st r with
  |some s,some l=>some (s::l)
  |_,_=>none
def BL:List ah->ah
 | [s]=>s
 |l=>.bE l
def fF(P:Program)(rs:List ResultVar)(n:Nat)(s:ah)(nx:Nat)(own':List (Nat×am))(mv:List Nat)(st:St):Prop:=
 (match V5 P st rs with | some l=>BL l=s | none=>False)/\ah.lo nx s/\dx st {n:=st.n,next:=nx,af:=[],own:=own',ai:=n,aA:=mv}
theorem Td:∀ {k t:Nat} {l:List ah} {s:ah},zc (Yu k l) t=some s->∃ j,t=k+j/\l[j]?=some s
 |k,t,[],s,h=>by simp[Yu,zc] at h
 |k,t,d::r,s,h=>by
  simp only[Yu,zc] at h;split at h
  .rename_i e;simp at h;exact⟨0,by omega,by simp[h]⟩
  .obtain⟨j,H,G⟩:=Td h
   exact⟨j+1,by omega,by simpa using G⟩
theorem zi.Tf{w:World}{E:Nat->Prop}{β:Nat->Value}:∀ {l:List ah} {vs:List Value} {j:Nat} {s:ah},zi w E β l vs->l[j]?=some s->∃ v,vs[j]?=some v/\Sm w E β s v
 | [],vs,j,s,h,hj=>by simp at hj
 |x::r,vs,0,s,h,hj=>by
  simp only[zi] at h;obtain⟨v,vs',rfl,H,G⟩:=h;simp at hj;subst hj;exact⟨v,by simp,H⟩
 |x::r,vs,j+1,s,h,hj=>by
  simp only[zi] at h;obtain⟨v,vs',rfl,H,G⟩:=h;obtain⟨u,q1,q2⟩:=zi.Tf G (by simpa using hj)
  exact⟨u,by simpa using q1,q2⟩
theorem Ti{m:Nat}:∀ {l:List ah} {j:Nat} {s:ah},ah.a_ m l->l[j]?=some s->ah.lo m s
 | [],j,s,h,hj=>by simp at hj
 |x::r,0,s,h,hj=>by simp only[ah.a_] at h;simp at hj;subst hj;exact h.1
 |x::r,j+1,s,h,hj=>by simp only[ah.a_] at h;exact Ti h.2 (by simpa using hj)
section
variable {P:Program} {X:Nat->Prop} {w0:bz} {st:St} {β:Nat->Value} {a:Act} {w w':World}
theorem ax.cz{own:List (Nat×am)}{n:Nat}{args:List ah}{vs:List Value}{ntmps:Nat}(E:ax X w0 (yW own n n []) β vv w)(hs:zi w (Ex X β own) β args vs)(K:ah.a_ n args):
  ax X w0 (cz ntmps args own n) β {tmps:=vs.toArray++Array.replicate (ntmps-vs.toArray.size) undef,defers:=[]} w:=by
 have H:=hs.length
 refine⟨E.bU,E.bI,E.cB,E.defers,by simp[Go.V.cz,H],E.below,E.bB,E.own,E.apart,?_⟩
 intro t s J
 obtain⟨j,L,M⟩:=Td J
 have e:t=j:=by omega
 subst e
 obtain⟨v,O,F⟩:=hs.Tf M
 refine⟨Ti K M,?_⟩
 have G:t<vs.length:=by
  rcases pe t vs.length with h | h
  .exact h
  .simp[h] at O
 have Q:(vs.toArray++Array.replicate (ntmps-vs.toArray.size) undef).getD t undef=v:=by
  rw[ac G] at O;simp at O
  simp[Bp,G,O]
 rw[Q];exact F
theorem zda(L:ax X w0 st β a w){v:ResultVar}{s:ah}(h:JG P st v=some s):∃ u,(ZD a.tmps v).run P w = .ok u w/\Sm w (Ex X β st.own) β s u:=by
 cases v with
 |tmp t=>
  simp only[JG] at h;exact⟨_,rfl,(L.af t s h).2⟩
 |cell ad T=>
  simp only[JG] at h;split at h
  .rename_i id off ti hs M
   split at h
   .rename_i T' cells E
    obtain⟨_,K,b,vs,O,F,Q,J,V⟩:=L.dm E;have Y:=(L.af ad _ hs).2;simp only[Sm] at Y;obtain⟨b',H,Y⟩:=Y;rw[O] at H;simp at H;rw[<-H] at Y;have Z:Yn ti (cells.drop off) (λx=>x=s):=by
     unfold BK at h;unfold Yn;split at h
     .rename_i hag
      split at h
      .rename_i G
       simp at h
       rw[gt hag];exact⟨G,h⟩
      .cases h
     .rename_i hag
      rw[ge hag];cases A:cells.drop off with
      |nil=>rw[A] at h;cases h
      |cons x r=>rw[A] at h;simp at h;exact h
    obtain⟨s',u,rfl,_,B,C⟩:=Rr (P:=P) (m:=st.next) (b:=b) (off:=off) M (zi.drop off J) (λu I=>V u (oH I)) (λj u hj=>KX Q (by simpa[oQ] using hj)) (ah.Je off K) Z
    exact⟨u,by simp only[ZD,Y];simpa[asAddr,Instr.loadAt,Instr.sureAddr] using C,B⟩
   .cases h
  .cases h
theorem Tj(H:ax X w0 st β a w):∀ {rs:List ResultVar} {l:List ah},V5 P st rs=some l->∃ us:List Value,(rs.mapM (ZD a.tmps)).run P w = .ok us w/\zi w (Ex X β st.own) β l us
 | [],l,h=>by simp[V5] at h;subst h;exact⟨[],by simp,by simp[zi]⟩
 |v::r,l,h=>by
  simp only[V5] at h;split at h
  .rename_i s l' G F
   simp at h;subst h
   obtain⟨u,e1,e2⟩:=zda H G;obtain⟨us,q1,q2⟩:=Tj H F;refine⟨u::us,?_,by simp only[zi];exact⟨u,us,rfl,e2,q2⟩⟩
   simp only[tl,Sem.run_bind,e1,Result.andThen_ok,q1];rfl
  .cases h
theorem uD(J:[]=w0.dF)(L:ax X w0 st β a w){fn:Func}{n nx:Nat}{s:ah}{own':List (Nat×am)}{mv:List Nat}(h:fF P fn.results.toList n s nx own' mv st):
  ∃ v,(results fn a.tmps).run P w = .ok v w/\ax X w0 (yW own' n nx mv) β vv w/\ah.lo nx s/\Sm w (Ex X β own') β s v:=by
 obtain⟨M,O,Q⟩:=h
 have H:=L.dY Q
 have F:ax X w0 (yW own' n nx mv) β vv w:=⟨H.bU,H.bI,H.cB,J,rfl,H.below,H.bB,H.own,H.apart,by intro t s T;simp[yW,zc] at T⟩
 have E:bh w (Ex X β st.own) w (Ex X β own'):=bh.dy λb V=>V.elim .inl λ⟨i,x,Y,e⟩=>.inr ⟨i,x,xm (Ur Q.2.2.2 Y).1,e⟩
 split at M
 .rename_i l Z
  obtain⟨us,q1,q2⟩:=Tj L Z;have A:=BB fn a.tmps q1;refine⟨_,A,F,O,?_⟩
  refine QL (id:=0) (rows:=.bool true) E ?_
  subst M;unfold BL;split
  .rename_i x
   simp only[zi] at q2;obtain⟨u,us',rfl,e,rfl⟩:=q2;simpa using e
  .rename_i K
   have G:us.length≠1:=by
    rw[q2.length];intro e;cases l with
    |nil=>simp at e
    |cons d r=>
     cases r with
     |nil=>exact K d rfl
     |cons _ _=>simp at e
   simp only[G];simp only[Sm];exact⟨us,rfl,q2⟩
 .exact M.elim
theorem gS(F:P.follows .mixedOrders=true){f:Nat}{fn:Func}{c:Code}(E:P.funcs[f]?=some fn)(K:fn.body=some c)(H:aN P f=true)
  {args:List ah} {own:List (Nat×am)} {n:Nat} {s:ah} {nx:Nat} {own':List (Nat×am)} {mv:List Nat} (J:ah.a_ n args)
  (h:ev P c (cJ (fF P fn.results.toList n s nx own' mv)) (cz fn.ntmps args own n)):aU P f args own n s nx own' mv:=by
 refine⟨H,λX w0 β w vs hβ L hs=>?_⟩
 refine calls_of_wp E K ?_
 refine wp_mono (bF F h X w0 _ _ w (L.cz hs J)) ?_
 rintro e a' w' ⟨de,st',β',M,O,G⟩
 cases e <;> cases de <;> simp only[yq] at M
 .obtain⟨v,Q,T,V,Y⟩:=uD L.defers G O
  exact⟨G.defers.trans L.defers.symm,v,Q,β',v,rfl,T,V,Y⟩
 .exact O.elim
 .obtain⟨v,Q,T,V,Y⟩:=uD L.defers G O
  exact⟨G.defers.trans L.defers.symm,v,Q,β',v,rfl,T,V,Y⟩
def lY(aD:List Nat)(Q:St->Prop):St->Prop:=λst=>Q (st.xn aD)
theorem zac(F:P.follows .mixedOrders=true){f:Nat}{fn:Func}{c:Code}(E:P.funcs[f]?=some fn)(K:fn.body=some c)(H:aN P f=true)
  {args:List ah} {own:List (Nat×am)} {n:Nat} {s:ah} {nx:Nat} {own':List (Nat×am)} {mv:List Nat} (aD:List Nat) (J:ah.a_ n args)
  (h:ev P c (cJ (lY aD (fF P fn.results.toList n s nx own' mv))) (cz fn.ntmps args own n)):aU P f args own n s nx own' mv:=by
 refine⟨H,λX w0 β w vs hβ L hs=>?_⟩
 refine calls_of_wp E K ?_
 refine wp_mono (bF F h X w0 _ _ w (L.cz hs J)) ?_
 rintro e a' w' ⟨de,st',β',M,O,G⟩
 cases e <;> cases de <;> simp only[yq] at M
 .obtain⟨v,Q,T,V,Y⟩:=uD L.defers (G.xn (l:=aD)) O
  exact⟨G.defers.trans L.defers.symm,v,Q,β',v,rfl,T,V,Y⟩
 .exact O.elim
 .obtain⟨v,Q,T,V,Y⟩:=uD L.defers (G.xn (l:=aD)) O
  exact⟨G.defers.trans L.defers.symm,v,Q,β',v,rfl,T,V,Y⟩
theorem fE(F:P.follows .mixedOrders=true){f:Nat}{fn:Func}{c:Code}(K:P.funcs[f]?=some fn)(J:fn.body=some c)(G:aN P f=true){args:List D}{r:D}(aD:List Nat)
  (h:ev P c (cJ (lY aD (eF P fn.results.toList r))) (ct fn.ntmps args)):aq P f args r:=by
 refine⟨G,λw E vs L M=>?_⟩
 refine calls_of_wp K J ?_
 refine wp_mono (bF F h E (.of w) _ _ w (ax.iM L M)) ?_
 rintro e a' w' ⟨de,st',β',O,Q,H⟩
 cases e <;> cases de <;> simp only[yq] at O
 .obtain⟨v,T,V⟩:=kT (H.xn (l:=aD)) Q
  exact⟨H.defers,v,T,v,rfl,H.below.below,V⟩
 .exact Q.elim
 .obtain⟨v,T,V⟩:=kT (H.xn (l:=aD)) Q
  exact⟨H.defers,v,T,v,rfl,H.below.below,V⟩
end
theorem zih{P:Program}{ay:Nat->Option am}{c:ah}{args:List ah}{k:ah->Prop}{f:Nat}{aJ:List ah}{ds:List D}{lent:Bool}{r:D}(H:xF c=some (f,aJ))(G:vO ay (args++aJ)=some (ds,lent))(F:aq P f ds r)
  (hs:lent=true->r.bZ=true) (E:k (.d r)):k5 P ay c args k:=by
 unfold k5 Xi
 rw[H]
 dsimp only
 rw[G]
 exact⟨r,F,λe=>.inl (hs e),E⟩
theorem bw{P:Program}{ay:Nat->Option am}{c:ah}{args:List ah}{k:ah->Prop}{f:Nat}{aJ:List ah}{ds:List D}{lent:Bool}{r:D}(H:aq P f ds r)(G:k (.d r))(F:xF c=some (f,aJ):=by rfl)(E:vO ay (args++aJ)=some (ds,lent):=by rfl)(hs:lent=true->r.bZ=true:=by first | exact λ_=>rfl | simp | simp[D.bZ]):k5 P ay c args k:=zih F E H hs G
attribute [simp] lY cz Yu fF JG V5 BL BK St.after ce yE kS jB cg yf vE zQ qX wE kR cV jC xF
end Go.V

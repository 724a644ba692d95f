/- A program logic of my own over the kit: part V25. It needs no conditions. -/
import Derived.Test.YtgglheknmlfghaaGreatV10
import Derived.Orders
set_option linter.unusedVariables false
set_option linter.unusedSimpArgs false
set_option linter.unusedSectionVars false
namespace Go.V
variable [Dr] [Ov]
open Go.RowKit
def lz {α:Type} (f:α→Prop):α→Prop:=f
def lz2 {α β:Type} (f:α→β→Prop):α→β→Prop:=f
@[congr] theorem ygg {α:Type} (f:α→Prop):lz f=lz f:=rfl
@[congr] theorem yfq {α β:Type} (f:α→β→Prop):lz2 f=lz2 f:=rfl
def yfr (P:Program) (f:Nat) (args:List D) (T sz:Nat) (rows:List (List D)):Prop:=
 callable P f=true∧(∀ r∈rows,r.length=sz)∧∀ (w:World) (E:Nat→Prop) (vs:List Value),Seen w E→za9 w E args vs →
  Calls P f vs.toArray w fun e w'=>∃ v xs,e = .returned v∧Below w.heap.size w w'∧w'.ownsRow w.heap.size T sz v rows.length xs∧(∀ b,blk v=some b→zcv w' b)∧zae w' (fun b=>E b∨blk v=some b) rows.flatten xs
def zef (P:Program) (f:Nat) (args:List D) (Φ:D→Prop):Prop:=
 callable P f=true∧∀ (w:World) (E:Nat→Prop) (vs:List Value),Seen w E→za9 w E args vs →
  Calls P f vs.toArray w fun e w'=>∃ v r,e = .returned v∧Below w.heap.size w w'∧Φ r∧R w' E r v
def zeu (st:St) (f:Operand) (xs:List Operand):Option (Nat×List D×Bool):=
 match zbi (st.val f) with
 | some (g,caps)=>match zid st.look (xs.map st.val++caps) with
  | some (ds,b)=>some (g,ds,b)
  | none=>none
 | none=>none
def zny (P:Program) (st:St) (f:Operand) (xs:List Operand) (dst:Option Tmp) (K:St→Prop):Prop:=
 match zeu st f xs with
 | some (g,ds,lent)=>(∃ r,zay P g ds r∧yfm P g ds lent r∧K (st.put dst (.d r))) ∨
  (∃ T sz rows,yfr P g ds T sz rows∧(lent=true→D.scalars rows.flatten=true)∧K ((st.new (.arr T sz rows)).put dst (.ar st.next)))
 | none=>False
def z1g (P:Program) (st:St) (f:Operand) (xs:List Operand) (dst:Option Tmp) (K:St→Prop):Prop:=
 match zeu st f xs with
 | some (g,ds,lent)=>∃ Φ:D→Prop,zef P g ds Φ∧∀ r,Φ r→(lent=true→r.scalar=true)∧K (st.put dst (.d r))
 | none=>False
def zal (P:Program) (st:St) (f:Operand) (xs:List Operand) (dst:Option Tmp) (K:St→Prop):Prop:=
 zny P st f xs dst K∨zny P (st.frzs (zfy (xs.map st.val))) f xs dst K∨EMut P st f xs dst K∨yb0 P st f xs dst K∨z1g P st f xs dst K∨∃ ids,EMut P (st.frzs ids) f xs dst K
def putK (st:St) (dst:Option Tmp) (K:St→Prop):Sym→Prop:=fun s=>K (st.put dst s)
def dstB (dst:Option Tmp) (n:Nat):Bool:=match dst with
 | some t=>decide (t<n)
 | none=>true
def dop (P:Program) (o:Oper) (st:St) (K:St→Prop):Prop:=
 match o.op with
 | .box T x=>dstB o.dst st.n=true∧eBox st o.dst T (st.val x) K
 | .alloc T=>match TI.of P T with
  | some ti=>dstB o.dst st.n=true∧z7x st o.dst T ti K
  | none=>False
 | .assign (.const (.slice none 0 0))=>match TI.of P o.type with
  | some ⟨.slice e,_,_,_,_⟩=>match TI.of P e with
   | some te=>dstB o.dst st.n=true∧eNil st o.dst e te.size K
   | none=>False
  | _=>False
 | .buildSlice t n parts=>dstB o.dst st.n=true∧zp0 P st o.dst t n parts.toList K
 | .store t ad x=>match o.dst,TI.of P t with
  | none,some ti=>zlj st ti (st.val ad) (st.val x) K
  | _,_=>False
 | .makeSlice t l c=>dstB o.dst st.n=true∧z8d P st o.dst t (st.val l) (st.val c) K
 | .makeMap t none=>dstB o.dst st.n=true∧zol st o.dst t K
 | .mapUpdate t m x v=>match o.dst with
  | none=>zgz P st t (st.val m) (st.val x) (st.val v) K
  | some _=>False
 | .call {callee:=.builtin .append,args:=xs,argTypes:=ts}=>match xs.toList,ts.toList with
  | [s,x],[t,t']=>dstB o.dst st.n=true∧(zkl P st o.dst t t' (st.val s) (st.val x) K∨zom P st o.dst t t' (st.val s) (st.val x) K∨zon P st o.dst t t' (st.val s) (st.val x) K∨zoo P st o.dst t t' (st.val s) (st.val x) K)
  | _,_=>False
 | .call {callee:=.builtin .copy,args:=xs,argTypes:=ts}=>match xs.toList,ts.toList with
  | [s,x],[t,_]=>dstB o.dst st.n=true∧z8c P st o.dst t (st.val s) (st.val x) K
  | _,_=>False
 | .call {callee:=.builtin .cap,args:=xs,argTypes:=ts}=>match xs.toList,ts.toList with
  | [x],[t]=>dstB o.dst st.n=true∧eCap P st o.dst t (st.val x) K
  | _,_=>False
 | .call {callee:=.builtin .clear,args:=xs,argTypes:=ts}=>match xs.toList,ts.toList with
  | [x],[t]=>dstB o.dst st.n=true∧zwt P st o.dst t (st.val x) K
  | _,_=>False
 | .range t x=>dstB o.dst st.n=true∧zwv P st o.dst t (st.val x) K
 | .next x true=>dstB o.dst st.n=true∧z8e st o.dst (st.val x) K
 | .convert s t x=>dstB o.dst st.n=true∧(sopB P st.look st.val (.convert s t x) (putK st o.dst K)∨zc6 P st s t (st.val x) (putK st o.dst K))
 | .call {callee:=.value f,args:=xs,argTypes:=_}=>dstB o.dst st.n=true∧zal P st f xs.toList o.dst K
 | op=>dstB o.dst st.n=true∧sopB P st.look st.val op (putK st o.dst K)
def dops (P:Program) (all:List Oper):List Oper→St→(St→Prop)→Prop
 | [],st,K=>K st
 | o::r,st,K=>match o.guard with
  | none=>dop P o st (lz fun st'=>dops P all r st' K)
  | some (j,want)=>match (all[j]?).bind (·.dst) with
   | some t=>match zab st.slots t with
    | some (.d (.bool b))=>(b=want→dop P o (st.put (some t) (.d (.bool want))) (lz fun st'=>dops P all r st' K)) ∧
     (b = !want→dstB o.dst st.n=true∧dops P all r ((st.put (some t) (.d (.bool !want))).put o.dst (.d (.val undef))) K)
    | some (.d (.val v))=>v=undef∧dstB o.dst st.n=true∧dops P all r (st.put o.dst (.d (.val undef))) K
    | _=>False
   | none=>False
inductive DE where
 | normal
 | exit (id:Nat)
 | ret
def exM:Exit→DE→Prop
 | .normal,.normal=>True
 | .exit i,.exit j=>i=j
 | .ret,.ret=>True
 | _,_=>False
def Triple (P:Program) (c:Code) (Q:DE→St→Prop) (st:St):Prop:=
 ∀ X w0 β a w,Mods X w0 st β a w→c.wp P (fun e a' w'=>∃ de st' β',exM e de∧Q de st'∧Mods X w0 st' β' a' w') a w
def zlv (k:St→Prop) (Q:DE→St→Prop):DE→St→Prop
 | .normal,st=>k st
 | e,st=>Q e st
def zbu (id:Nat) (Q:DE→St→Prop):DE→St→Prop
 | .exit j,st=>if j=id then Q .normal st else Q (.exit j) st
 | e,st=>Q e st
def zp7 (P:Program):Code→(DE→St→Prop)→St→Prop
 | .skip,Q,st=>Q .normal st
 | .region id ops draw,Q,st=>if draw=true then Triple P (.region id ops true) Q st else dops P ops.toList ops.toList st (Q .normal)
 | .seq x y,Q,st=>zp7 P x (zlv (lz fun st'=>zp7 P y Q st') Q) st
 | .cond c x y,Q,st=>match st.val c with
  | .d (.bool b)=>(b=true→zp7 P x Q st)∧(b=false→zp7 P y Q st)
  | _=>False
 | .block id c,Q,st=>zp7 P c (zbu id Q) st
 | .exit id,Q,st=>Q (.exit id) st
 | .ret,Q,st=>Q .ret st
 | .loop c,Q,st=>Triple P (.loop c) Q st
 | c,Q,st=>Triple P c Q st
section
variable {P:Program} {X:Nat→Prop} {w0:Base} {st:St} {β:Nat→Value} {a:Act} {w w':World} {m:Nat} {k:Sym→Prop}
theorem zbk {dst:Option Tmp} {n:Nat} (h:dstB dst n=true) : ∀ t,dst=some t→t<n:=by
 intro t e;subst e;simpa [dstB] using h
theorem zis (hm:Mods X w0 st β a w) {o:Oper} {f:Operand} {args:Array Operand} {ts:Array TypeId} (ho:o.op = .call {callee:=.value f,args,argTypes:=ts})
  (hd : ∀ t,o.dst=some t→t<st.n) {K:St→Prop} (h:zny P st f args.toList o.dst K):Goes P X w0 o a w K:=by
 unfold zny at h
 split at h
 ·rename_i g ds lent hla
  have hla':=hla;unfold zeu at hla;split at hla
  ·rename_i g' caps hc
   split at hla
   ·rename_i ds' b hl
    simp at hla
    obtain ⟨rfl,rfl,rfl⟩:=hla;rcases h with ⟨r,hp,hsc,hk⟩ | ⟨T,sz,rows,hp,hsc,hk⟩
    ·refine Goes.zes hm hd (zkk hm ho ?_)
     unfold zn8 zpn;rw [hc];dsimp only;rw [hl];exact ⟨r,hp,hsc,hk⟩
    ·intro N Q hN
     obtain ⟨hcall,hrl,hp⟩:=hp
     -- the same road aS zkk
     have hv:=(hm.val f).2;obtain ⟨cs,hev,hcs⟩ : ∃ cs:List Value,a.eval f = .func (.func g') #[] cs.toArray∧Sms w (Ex X β st.own) β caps cs:=by
      cases hf:st.val f <;> rw [hf] at hc hv <;> simp only [zbi] at hc
      case d x=>
       cases x <;> simp only [zbi] at hc
       case fn f' l=>
        simp at hc;obtain ⟨rfl,rfl⟩:=hc
        simp only [Sm,R] at hv;obtain ⟨vs,h1,h2⟩:=hv;exact ⟨vs,h1,Sms.zf9 h2⟩
       all_goals cases hc
      case fn f' l=>
       simp at hc;obtain ⟨rfl,rfl⟩:=hc
       simp only [Sm] at hv;exact hv
      all_goals cases hc
     have hargs:=(Sms.zjz hm args.toList).1;have hall:=Sms.append hargs hcs;obtain ⟨hx,hex⟩:=zed hm hl hall;unfold callable at hcall;cases hfn:P.funcs[g']? with
     | none=>simp [hfn] at hcall
     | some fn=>
      simp [hfn] at hcall;have hrun:(execOp a.eval o).run P w = .ok (.enter g' (args.toList.map a.eval++cs).toArray) w:=by
       have e1:¬ fn.body=none:=by intro e;rw [e] at hcall;simp at hcall
       have e3:Array.map a.eval args++cs.toArray=(List.map a.eval args.toList++cs).toArray:=by simp
       rw [← e3];simp [execOp,ho,resolve,hev,Deferred.ofValue,invoke,callFunc,hfn,e1,hcall.1]
      unfold Oper.wp;rw [hrun];simp only [Oper.upon];have fin : ∀ (w':World) (v:Value) (xs:List Value),Below w.heap.size w w'→w'.ownsRow w.heap.size T sz v rows.length xs→(∀ b,blk v=some b→zcv w' b)→zae w' (fun b=>Ex X β st.own b∨blk v=some b) rows.flatten xs→N (a.put o.dst v) w':=by
       intro w' v xs hb ho' hones hc';have hbase:Owns w0.may w' T sz v rows.length xs:=Owns.yfl ho' hones fun b hb=>.inl (Nat.le_trans hm.below.size hb)
       have hm':=hm.new (o:=.arr T sz rows) hb (zzg ho') trivial (fun b hbv=>(ho'.lt b (by rw [zhj ho'];exact hbv)).1) ⟨xs,by simpa using hbase,hc',hrl⟩
       exact hN _ _ _ _ hk (hm'.za0 hd (by simp [Sym.lo,St.new]) (by simp [Sm]))
      cases b with
      | false=>
       refine (hp w (Ex X β st.own) _ hm.seen (hex rfl)).mono fun e w' he=>?_
       obtain ⟨v,xs,rfl,hb,ho',hones,hc'⟩:=he;exact fin w' v xs hb ho' hones hc'
      | true=>
       refine (hp w X _ hm.ybw hx).mono fun e w' he=>?_
       obtain ⟨v,xs,rfl,hb,ho',hones,hc'⟩:=he;exact fin w' v xs hb ho' hones (za9.cells (zfx (hsc rfl) hc'.vals) hc'.one)
   ·cases hla
  ·cases hla
 ·exact h.elim
theorem zw3 (hm:Mods X w0 st β a w) {o:Oper} {f:Operand} {args:Array Operand} {ts:Array TypeId} (ho:o.op = .call {callee:=.value f,args,argTypes:=ts})
  (hd : ∀ t,o.dst=some t→t<st.n) {K:St→Prop} (h:z1g P st f args.toList o.dst K):Goes P X w0 o a w K:=by
 unfold z1g at h
 split at h
 ·rename_i g ds lent hla
  unfold zeu at hla;split at hla
  ·rename_i g' caps hc
   split at hla
   ·rename_i ds' b hl
    simp at hla
    obtain ⟨rfl,rfl,rfl⟩:=hla;obtain ⟨Φ,⟨hcall,hp⟩,hk⟩:=h;intro N Q hN;have hv:=(hm.val f).2;obtain ⟨cs,hev,hcs⟩ : ∃ cs:List Value,a.eval f = .func (.func g') #[] cs.toArray∧Sms w (Ex X β st.own) β caps cs:=by
     cases hf:st.val f <;> rw [hf] at hc hv <;> simp only [zbi] at hc
     case d x=>
      cases x <;> simp only [zbi] at hc
      case fn f' l=>
       simp at hc;obtain ⟨rfl,rfl⟩:=hc
       simp only [Sm,R] at hv;obtain ⟨vs,h1,h2⟩:=hv;exact ⟨vs,h1,Sms.zf9 h2⟩
      all_goals cases hc
     case fn f' l=>
      simp at hc;obtain ⟨rfl,rfl⟩:=hc
      simp only [Sm] at hv;exact hv
     all_goals cases hc
    have hargs:=(Sms.zjz hm args.toList).1;have hall:=Sms.append hargs hcs;obtain ⟨hx,hex⟩:=zed hm hl hall;unfold callable at hcall;cases hfn:P.funcs[g']? with
    | none=>simp [hfn] at hcall
    | some fn=>
     simp [hfn] at hcall;have hrun:(execOp a.eval o).run P w = .ok (.enter g' (args.toList.map a.eval++cs).toArray) w:=by
      have e1:¬ fn.body=none:=by intro e;rw [e] at hcall;simp at hcall
      have e3:Array.map a.eval args++cs.toArray=(List.map a.eval args.toList++cs).toArray:=by simp
      rw [← e3];simp [execOp,ho,resolve,hev,Deferred.ofValue,invoke,callFunc,hfn,e1,hcall.1]
     unfold Oper.wp;rw [hrun];simp only [Oper.upon];cases b with
     | false=>
      refine (hp w (Ex X β st.own) _ hm.seen (hex rfl)).mono fun e w' he=>?_
      obtain ⟨v,r,rfl,hb,hΦ,hr⟩:=he;obtain ⟨_,hK⟩:=hk r hΦ;exact hN _ _ _ _ hK (hm.put hb hd (by simp [Sym.lo]) (by simpa [Sm] using hr))
     | true=>
      refine (hp w X _ hm.ybw hx).mono fun e w' he=>?_
      obtain ⟨v,r,rfl,hb,hΦ,hr⟩:=he;obtain ⟨hsc,hK⟩:=hk r hΦ;exact hN _ _ _ _ hK (hm.put hb hd (by simp [Sym.lo]) (by simpa [Sm] using zkj (hsc rfl) hr))
   ·cases hla
  ·cases hla
 ·exact h.elim
theorem zdy (hm:Mods X w0 st β a w) {o:Oper} {K:St→Prop} (h:dop P o st K):Goes P X w0 o a w K:=by
 unfold dop at h
 split at h
 ·rename_i T x ho
  exact zsm hm ho (zbk h.1) h.2
 ·rename_i T ho
  split at h
  ·rename_i ti ht
   exact znq hm ho ht (zbk h.1) h.2
  ·exact h.elim
 ·rename_i ho
  split at h
  ·split at h
   ·exact zsn hm ho (zbk h.1) h.2
   ·exact h.elim
  ·exact h.elim
 ·rename_i t n parts ho
  exact znt hm ho (zbk h.1) h.2
 ·rename_i t ad x ho
  split at h
  ·rename_i ti hd ht
   exact znr hm ho ht hd h
  ·exact h.elim
 ·rename_i t l c ho
  exact zp2 hm ho (zbk h.1) h.2
 ·rename_i t ho
  exact zj1 hm ho (zbk h.1) h.2
 ·rename_i t m x v ho
  split at h
  ·rename_i hd
   exact zhw hm ho hd h
  ·exact h.elim
 ·rename_i xs ts ho
  split at h
  ·rename_i s x t t' hx ht
   have e1:xs = #[s,x]:=by cases xs;simp at hx;rw [hx]
   have e2:ts = #[t,t']:=by cases ts;simp at ht;rw [ht]
   subst e1;subst e2;rcases h.2 with h2 | h2 | h2 | h2
   ·exact zlp hm ho (zbk h.1) h2
   ·exact zra hm ho (zbk h.1) h2
   ·exact zrb hm ho (zbk h.1) h2
   ·exact zrd hm ho (zbk h.1) h2
  ·exact h.elim
 ·rename_i xs ts ho
  split at h
  ·rename_i s x t t' hx ht
   have e1:xs = #[s,x]:=by cases xs;simp at hx;rw [hx]
   have e2:ts = #[t,t']:=by cases ts;simp at ht;rw [ht]
   subst e1;subst e2;exact zp1 hm ho (zbk h.1) h.2
  ·exact h.elim
 ·rename_i xs ts ho
  split at h
  ·rename_i x t hx ht
   have e1:xs = #[x]:=by cases xs;simp at hx;rw [hx]
   have e2:ts = #[t]:=by cases ts;simp at ht;rw [ht]
   subst e1;subst e2;exact z3z hm ho (zbk h.1) h.2
  ·exact h.elim
 ·rename_i xs ts ho
  split at h
  ·rename_i x t hx ht
   have e1:xs = #[x]:=by cases xs;simp at hx;rw [hx]
   have e2:ts = #[t]:=by cases ts;simp at ht;rw [ht]
   subst e1;subst e2;exact znv hm ho (zbk h.1) h.2
  ·exact h.elim
 ·rename_i t x ho
  exact znx hm ho (zbk h.1) h.2
 ·rename_i x ho
  exact zp3 hm ho (zbk h.1) h.2
 ·rename_i s t x ho
  rcases h.2 with h2 | h2
  ·rw [← ho] at h2
   exact Goes.zes hm (zbk h.1) (ze9 hm o h2)
  ·exact Goes.zes hm (zbk h.1) (zir hm ho h2)
 ·rename_i f xs ts ho
  obtain ⟨hd,h⟩:=h;rcases h with h | h | h | h | h | ⟨ids,h⟩
  ·exact zis hm ho (zbk hd) h
  rotate_left
  ·exact zjk hm ho (zbk hd) h
  ·exact zzi hm ho (zbk hd) h
  ·exact zw3 hm ho (zbk hd) h
  ·exact zjk hm.frzs ho (by rw [(zio _ st).2];exact zbk hd) h
  ·exact zis hm.frzs ho (by rw [(zio _ st).2];exact zbk hd) h
 ·exact Goes.zes hm (zbk h.1) (ze9 hm o h.2)
theorem zdo {all:List Oper} {j t:Nat} (h:(all[j]?).bind (·.dst)=some t):((all.toArray[j]?).bind (·.dst))=some t:=by simpa using h
theorem zdf {ops:Array Oper} {tmps:Array Value} {j t:Nat} (h:(ops[j]?).bind (·.dst)=some t) (hu:tmps.getD t undef=undef):yielded ops tmps j=none:=by
 unfold yielded
 rw [h]
 by_cases hlt:t<tmps.size
 ·have hg:tmps[t]?=some undef:=by
   rw [Array.getElem?_eq_getElem hlt];simp [hlt] at hu;rw [hu]
  simp [hg,undef]
 ·simp [hlt]
theorem zg2 {all:List Oper} {N:Exit→Act→World→Prop} : ∀ {l:List Oper} {st:St} {β:Nat→Value} {a:Act} {w:World} {K:St→Prop},Mods X w0 st β a w→dops P all l st K →
  (∀ a' w' st' β',K st'→Mods X w0 st' β' a' w'→N .normal a' w')→wpList P all.toArray N l a w
 | [],st,β,a,w,K,hm,h,hN=>wpList_nil (hN a w st β h hm)
 | o::r,st,β,a,w,K,hm,h,hN=>by
  simp only [dops] at h;refine wpList_step fun N' hN'=>?_
  split at h
  ·rename_i hg
   simp only [Region.wanted,hg,if_true];exact zdy hm h N' _ fun a' w' st' β' hk hm'=>hN' a' w' (zg2 hm' hk hN)
  ·rename_i j want hg
   split at h
   ·rename_i t ht
    split at h
    ·rename_i b hb
     obtain ⟨hs1,hs2⟩:=hm.slots t _ hb;simp only [Sm,R] at hs2;have hlt:t<a.tmps.size:=by
      rcases Nat.lt_or_ge t a.tmps.size with h' | h'
      ·exact h'
      ·rw [show a.tmps.getD t undef=undef by simp [h']] at hs2;simp [undef] at hs2
     have hy:yielded all.toArray a.tmps j=some b:=by
      unfold yielded;rw [zdo ht];have hg':a.tmps[t]?=some (.bool b):=by
       rw [Array.getElem?_eq_getElem hlt];simp [hlt] at hs2;rw [hs2]
      simp [hg']
     have hput : ∀ v:Bool,b=v→Mods X w0 (st.put (some t) (.d (.bool v))) β a w:=by
      intro v hv;have:=hm.za0 (dst:=some t) (s:=.d (.bool v)) (v:=.bool v) (fun t' e=>by cases e;rw [← hm.size];exact hlt) (by simp [Sym.lo]) (by simp [Sm,R])
      have e:a.put (some t) (.bool v)=a:=by
       cases a with
       | mk tmps defers=>
        simp only [Act.put,Act.mk.injEq,and_true];simp [hlt] at hs2;apply Array.ext_getElem?
        intro i;by_cases hi:t=i
        ·subst hi;simp at hlt;simp [hlt,hs2,hv]
        ·simp [Array.getElem?_setIfInBounds,hi]
      rw [e] at this;exact this
     simp only [Region.wanted,hg,hy];by_cases hbw:b=want
     ·subst hbw
      simp only [beq_self_eq_true,if_true];exact zdy (hput b rfl) (h.1 rfl) N' _ fun a' w' st' β' hk hm'=>hN' a' w' (zg2 hm' hk hN)
     ·have hn:b = !want:=by cases b <;> cases want <;> simp_all
      have:(some b==some want)=false:=by simp [hbw]
      simp only [this,Bool.false_eq_true,if_false];obtain ⟨hd,h2⟩:=h.2 hn;exact hN' _ w (zg2 ((hput (!want) hn).za0 (zbk hd) (by simp [Sym.lo]) (by simp [Sm,R])) h2 hN)
    ·rename_i v hv
     obtain ⟨rfl,hd,h2⟩:=h;obtain ⟨hs1,hs2⟩:=hm.slots t _ hv;simp only [Sm,R] at hs2;have hy:yielded all.toArray a.tmps j=none:=zdf (zdo ht) hs2
     simp only [Region.wanted,hg,hy];have:((none:Option Bool)==some want)=false:=rfl
     simp only [this,Bool.false_eq_true,if_false];exact hN' _ w (zg2 (hm.za0 (zbk hd) (by simp [Sym.lo]) (by simp [Sm,R])) h2 hN)
    ·exact h.elim
   ·exact h.elim
theorem zcs : ∀ {c:Code} {Q:DE→St→Prop} {st:St},zp7 P c Q st→Triple P c Q st
 | .skip,Q,st,h=>fun X w0 β a w hm=>wp_skip ⟨.normal,st,β,trivial,h,hm⟩
 | .region id ops draw,Q,st,h=>by
  simp only [zp7] at h;split at h
  ·rename_i e;subst e;exact h
  ·rename_i e
   have e:draw=false:=by simpa using e
   subst e;intro X w0 β a w hm;refine wp_region_list ?_
   have:=zg2 (P:=P) (all:=ops.toList) (N:=fun e a' w'=>∃ de st' β',exM e de∧Q de st'∧Mods X w0 st' β' a' w') hm h (fun a' w' st' β' hk hm'=>⟨.normal,st',β',trivial,hk,hm'⟩)
   simpa using this
 | .seq x y,Q,st,h=>by
  simp only [zp7] at h;intro X w0 β a w hm;refine wp_seq (wp_mono (zcs h X w0 β a w hm) ?_)
  rintro e a' w' ⟨de,st',β',he,hq,hm'⟩
  cases e <;> cases de <;> simp only [exM] at he
  ·exact zcs hq X w0 β' a' w' hm'
  ·subst he;exact ⟨.exit _,st',β',rfl,hq,hm'⟩
  ·exact ⟨.ret,st',β',trivial,hq,hm'⟩
 | .cond c x y,Q,st,h=>by
  simp only [zp7] at h;intro X w0 β a w hm;split at h
  ·rename_i b hb
   have hv:=(hm.val c).2;rw [hb] at hv;simp only [Sm,R] at hv;refine wp_cond hv ?_
   cases b
   ·exact zcs (h.2 rfl) X w0 β a w hm
   ·exact zcs (h.1 rfl) X w0 β a w hm
  ·exact h.elim
 | .block id c,Q,st,h=>by
  simp only [zp7] at h;intro X w0 β a w hm;refine wp_block (wp_mono (zcs h X w0 β a w hm) ?_)
  rintro e a' w' ⟨de,st',β',he,hq,hm'⟩
  cases e <;> cases de <;> simp only [exM] at he
  ·exact ⟨.normal,st',β',trivial,hq,hm'⟩
  ·subst he
   simp only [zbu] at hq;simp only [Exit.inBlock];split
   ·rename_i e;rw [if_pos e] at hq;exact ⟨.normal,st',β',trivial,hq,hm'⟩
   ·rename_i e;rw [if_neg e] at hq;exact ⟨.exit _,st',β',rfl,hq,hm'⟩
  ·exact ⟨.ret,st',β',trivial,hq,hm'⟩
 | .exit id,Q,st,h=>fun X w0 β a w hm=>wp_exit ⟨.exit id,st,β,rfl,h,hm⟩
 | .ret,Q,st,h=>fun X w0 β a w hm=>wp_ret ⟨.ret,st,β,trivial,h,hm⟩
 | .loop c,Q,st,h=>h
 | .rangeFunc ..,Q,st,h=>h
 | .scope ..,Q,st,h=>h
 | .label ..,Q,st,h=>h
 | .goto ..,Q,st,h=>h
 | .refuse ..,Q,st,h=>h
end
end Go.V
namespace Go.V
variable [Dr] [Ov]
open Go.RowKit
def z8j (st:St) (m:Nat):List (Nat×Sym)→Prop
 | []=>True
 | (t,s)::r=>(match zab st.slots t with | some s'=>s'=s | none=>False)∧Sym.lo m s∧z8j st m r
def zko (st:St) (m:Nat):List (Nat×Obj')→Prop
 | []=>True
 | (id,o)::r=>(match zab st.own id with | some o'=>o'=o | none=>False)∧id<m∧o.lo m∧zko st m r
def Weak (st st':St):Prop:=(st'.n=st.n∧st'.base=st.base∧st'.base≤st'.next∧∀ id∈st.moved,id∈st'.moved)∧(st'.own.map (·.1)).Nodup∧z8j st st'.next st'.slots∧zko st st'.next st'.own
section
variable {P:Program} {X:Nat→Prop} {w0:Base} {st st':St} {β:Nat→Value} {a:Act} {w w':World}
theorem zw4 {m:Nat} : ∀ {l:List (Nat×Sym)} {t:Nat} {s:Sym},z8j st m l→zab l t=some s→zab st.slots t=some s∧Sym.lo m s
 | [],t,s,_,h=>by simp [zab] at h
 | (k,u)::r,t,s,hw,h=>by
  simp only [z8j] at hw;simp only [zab] at h;split at h
  ·rename_i e;subst e;simp at h;subst h
   refine ⟨?_,hw.2.1⟩
   have:=hw.1
   split at this
   ·rename_i s' hs;rw [hs,this]
   ·exact this.elim
  ·exact zw4 hw.2.2 h
theorem zlw {m:Nat} : ∀ {l:List (Nat×Obj')} {id:Nat} {o:Obj'},zko st m l→(id,o)∈l→zab st.own id=some o∧id<m∧o.lo m
 | [],id,o,_,h=>by cases h
 | (k,u)::r,id,o,hw,h=>by
  simp only [zko] at hw;rcases List.mem_cons.1 h with e | h
  ·cases e
   refine ⟨?_,hw.2.1,hw.2.2.1⟩
   have:=hw.1
   split at this
   ·rename_i s' hs;rw [hs,this]
   ·exact this.elim
  ·exact zlw hw.2.2.2 h
theorem Mods.weak (hm:Mods X w0 st β a w) (h:Weak st st'):Mods X w0 st' β a w:=by
 obtain ⟨⟨hn,hba,hbl,hmv⟩,hk,hs,ho⟩:=h
 have hsub : ∀ id o,(id,o)∈st'.own→(id,o)∈st.own:=fun id o hmem=>zaw (zlw ho hmem).1
 have hov:Over w (Ex X β st.own) w (Ex X β st'.own):=Over.less (fun b hb=>hb.elim .inl fun ⟨i,x,hx,e⟩=>.inr ⟨i,x,hsub i x hx,e⟩)
 refine ⟨hm.outer,⟨hbl,fun i h1 h2=>hm.still.2 i (by rw [← hba];exact h1) (fun h=>h2 (hmv i h))⟩,hm.one,hm.defers,by rw [hn];exact hm.size,hm.below,hk,?_,?_,?_⟩
 ·intro id o hmem
  obtain ⟨_,h2,h3⟩:=zlw ho hmem;obtain ⟨q1,q2,q3⟩:=hm.own id o (hsub id o hmem);exact ⟨h2,h3,zc9.over (m:=st.next) (fun _ _=>rfl) hov q1 q2 (fun _ _=>rfl) q3⟩
 ·exact fun i x j y c hx hy e1 e2=>hm.apart i x j y c (hsub i x hx) (hsub j y hy) e1 e2
 ·intro t s ht
  obtain ⟨h1,h2⟩:=zw4 hs ht;exact ⟨h2,zmv (id:=0) (rows:=.bool true) hov (hm.slots t s h1).2⟩
def afterLoop {α:Type} (S:α→St) (inv:α→Prop) (μ:α→Nat) (x:α) (Q:DE→St→Prop):DE→St→Prop
 | .normal,st'=>∃ y,inv y∧μ y<μ x∧Weak st' (S y)
 | e,st'=>Q e st'
def zw5 (P:Program) (st:St):ResultVar→Option D
 | .tmp t=>match zab st.slots t with
  | some s=>match lend st.look s with
   | some (d,_)=>some d
   | none=>none
  | none=>none
 | .cell ad T=>match zab st.slots ad,TI.of P T with
  | some (.bp id off),some ti=>match st.look id with
   | some (.box _ cells)=>if ti.agg=true then (if off+ti.size≤cells.length then (match cellsD st.look ((cells.drop off).take ti.size) with
     | some ds=>some (.agg ds)
     | none=>none) else none)
    else (match cells.drop off with
     | s::_=>zt3 st.look s
     | []=>none)
   | _=>none
  | _,_=>none
def zss (P:Program) (st:St):List ResultVar→Option (List D)
 | []=>some []
 | v::r=>match zw5 P st v,zss P st r with
  | some d,some ds=>some (d::ds)
  | _,_=>none
def zui (P:Program) (rs:List ResultVar) (r:D) (st:St):Prop:=
 match zss P st rs with
 | some [d]=>d=r
 | some ds=>.tup ds=r
 | none=>False
def zw6 (K:St→Prop):DE→St→Prop
 | .normal,st=>K st
 | .ret,st=>K st
 | .exit _,_=>False
def zjl:Nat→List D→List (Nat×Sym)
 | _,[]=>[]
 | k,d::r=>(k,.d d)::zjl (k+1) r
def zg3 (ntmps:Nat) (args:List D):St:={n:=args.length+(ntmps-args.length),next:=0,slots:=zjl 0 args,own:=[]}
theorem zlx : ∀ {k t:Nat} {l:List D} {s:Sym},zab (zjl k l) t=some s→∃ j d,t=k+j∧l[j]?=some d∧s = .d d
 | k,t,[],s,h=>by simp [zjl,zab] at h
 | k,t,d::r,s,h=>by
  simp only [zjl,zab] at h;split at h
  ·rename_i e;simp at h;exact ⟨0,d,by omega,by simp,h.symm⟩
  ·obtain ⟨j,d',h1,h2,h3⟩:=zlx h
   exact ⟨j+1,d',by omega,by simpa using h2,h3⟩
theorem Mods.init {E:Nat→Prop} {w:World} {vs:List Value} {args:List D} {ntmps:Nat} (hE:Seen w E) (hr:za9 w E args vs) :
  Mods E (.of w) (zg3 ntmps args) (fun _=>.pointer none) {tmps:=vs.toArray++Array.replicate (ntmps-vs.toArray.size) undef,defers:=[]} w:=by
 have hl:=hr.length
 refine ⟨⟨fun b hb hm=>hm.elim (fun h=>by have:w.heap.size≤b:=h;have:=hE.1 b hb;omega) (fun h=>h),hE.2.over (Over.less fun b h=>h.elim id False.elim)⟩,⟨Nat.zero_le _,fun i h=>by simp [zg3] at h⟩,fun _=>rfl,rfl,by simp [zg3,hl],Kept.refl _,by simp [zg3],by simp [zg3],by simp [zg3],?_⟩
 intro t s ht
 obtain ⟨j,d,h1,h2,h3⟩:=zlx ht
 have e:t=j:=by omega
 subst e;subst h3
 obtain ⟨v,hv,hrv⟩:=hr.get h2
 refine ⟨by simp [Sym.lo],?_⟩
 have hlt:t<vs.length:=by
  rcases Nat.lt_or_ge t vs.length with h | h
  ·exact h
  ·simp [h] at hv
 have hg:(vs.toArray++Array.replicate (ntmps-vs.toArray.size) undef).getD t undef=v:=by
  rw [List.getElem?_eq_getElem hlt] at hv;simp at hv
  simp [Array.getElem?_append,hlt,hv]
 simp only [hg,Sm]
 exact R.over (Over.less (fun b hb=>hb.elim (fun h=>h) (fun ⟨i,x,hx,_⟩=>by simp [zg3] at hx))) _ _ hrv
def zly (tmps:Array Value):ResultVar→Sem Value
 | .tmp t=>pure (tmps.getD t undef)
 | .cell ad t=>do loadVar t (← asAddr (tmps.getD ad undef))
theorem zhm (fn:Func) (tmps:Array Value) {us:List Value} (h:(fn.results.toList.mapM (zly tmps)).run P w = .ok us w) :
  (results fn tmps).run P w = .ok (if h:us.length=1 then us[0] else .tuple us.toArray) w:=by
 have e:(fun v:ResultVar=>(match v with | .tmp t=>(pure (tmps.getD t undef):Sem Value) | .cell ad t=>(do loadVar t (← asAddr (tmps.getD ad undef)))))=zly tmps:=by
  funext v;cases v <;> rfl
 unfold results
 rw [Array.mapM_eq_mapM_toList]
 simp only [Sem.run_bind,Sem.run_map]
 have h':=h
 rw [← e] at h'
 erw [h']
 simp
theorem zw7 (hm:Mods X w0 st β a w) {v:ResultVar} {d:D} (h:zw5 P st v=some d) :
  ∃ u,(zly a.tmps v).run P w = .ok u w∧R w X d u:=by
 cases v with
 | tmp t=>
  simp only [zw5] at h;split at h
  ·rename_i s hs
   split at h
   ·rename_i d' b hl
    simp at h;subst h
    exact ⟨_,rfl,(zms hm hl (hm.slots t s hs).2).1⟩
   ·cases h
  ·cases h
 | cell ad T=>
  simp only [zw5] at h;split at h
  ·rename_i id off ti hs ht
   split at h
   ·rename_i T' cells hob
    obtain ⟨_,hlo,b,vs,hb,hbase,hh,hsm,h1⟩:=hm.obj hob;have hv:=(hm.slots ad _ hs).2;simp only [Sm] at hv;obtain ⟨b',hb',hv⟩:=hv;rw [hb] at hb';simp at hb';rw [← hb'] at hv;have hc : ∀ (j:Nat) u,(vs.drop off)[j]?=some u→w.cell? ⟨b,off+j,none⟩=some u:=fun j u hj=>zli hh (by simpa [List.getElem?_drop] using hj)
    split at h
    ·rename_i hag
     split at h
     ·rename_i hfit
      split at h
      ·rename_i ds hds
       simp at h;subst h
       have hvs:=hsm.length;have hr:=zf8 (P:=P) (w:=w) ht hag (b:=b) (off:=off) (vs:=(vs.drop off).take ti.size) (by simp;omega) (fun j u hj=>by
        rw [List.getElem?_take] at hj;split at hj
        ·exact hc j u hj
        ·cases hj)
       refine ⟨.agg ((vs.drop off).take ti.size).toArray,?_,?_⟩
       ·simp only [zly,hv];simpa [asAddr,Instr.loadAt,Instr.sureAddr] using hr
       ·simp only [R]
        exact ⟨_,rfl,zii hm hds (Sms.take ti.size (Sms.drop off hsm)) (fun u hu=>h1 u (List.mem_of_mem_drop (List.mem_of_mem_take hu)))⟩
      ·cases h
     ·cases h
    ·rename_i hag
     cases hd:cells.drop off with
     | nil=>rw [hd] at h;cases h
     | cons s r=>
      rw [hd] at h;have hsm':=Sms.drop off hsm;rw [hd] at hsm';simp only [Sms] at hsm';obtain ⟨u,us,hu,hsu,_⟩:=hsm';have hr:=zf7 (P:=P) (w:=w) ht (by simpa using hag) (b:=b) (off:=off) (by simpa using hc 0 u (by rw [hu];rfl))
      exact ⟨u,by simp only [zly,hv];simpa [asAddr,Instr.loadAt,Instr.sureAddr] using hr,zpt hm h hsu⟩
   ·cases h
  ·cases h
theorem zit (hm:Mods X w0 st β a w) : ∀ {rs:List ResultVar} {ds:List D},zss P st rs=some ds →
  ∃ us:List Value,(rs.mapM (zly a.tmps)).run P w = .ok us w∧za9 w X ds us
 | [],ds,h=>by simp [zss] at h;subst h;exact ⟨[],by simp,by simp [za9]⟩
 | v::r,ds,h=>by
  simp only [zss] at h;split at h
  ·rename_i d ds' h1 h2
   simp at h;subst h
   obtain ⟨u,e1,e2⟩:=zw7 hm h1;obtain ⟨us,q1,q2⟩:=zit hm h2;refine ⟨u::us,?_,by simp only [za9];exact ⟨u,us,rfl,e2,q2⟩⟩
   simp only [List.mapM_cons,Sem.run_bind,e1,Result.andThen_ok,q1];rfl
  ·cases h
theorem zdz (hm:Mods X w0 st β a w) {fn:Func} {r:D} (h:zui P fn.results.toList r st) : ∃ v,(results fn a.tmps).run P w = .ok v w∧R w X r v:=by
 unfold zui at h
 split at h
 ·rename_i d hd
  obtain ⟨us,q1,q2⟩:=zit hm hd;simp only [za9] at q2;obtain ⟨u,us',rfl,e,rfl⟩:=q2;subst h;refine ⟨u,?_,e⟩
  rw [zhm fn a.tmps q1];simp
 ·rename_i ds hne hd
  obtain ⟨us,q1,q2⟩:=zit hm hd;subst h;refine ⟨.tuple us.toArray,?_,by simp only [R];exact ⟨us,rfl,q2⟩⟩
  have hl:us.length≠1:=by
   rw [q2.length];intro e;cases ds with
   | nil=>simp at e
   | cons d r=>
    cases r with
    | nil=>exact hne d rfl
    | cons _ _=>simp at e
  rw [zhm fn a.tmps q1];simp [hl]
 ·exact h.elim
def resF (rs:List ResultVar) (T sz:Nat) (rows:List (List D)) (st:St):Prop:=
 match rs with
 | [.tmp t]=>match zab st.slots t with
  | some (.ar id)=>match st.look id with
   | some (.arr T' sz' rows')=>T'=T∧sz'=sz∧rows'=rows
   | _=>False
  | _=>False
 | _=>False
end
end Go.V
namespace Go.V
variable [Dr] [Ov]
open Go.RowKit
def Fun1 (F:(Sym→Prop)→Prop):Prop:=∀ k,F k→∃ s,F (fun s'=>s'=s)∧k s
theorem Fun1.app (s:Sym):Fun1 (fun k=>k s):=fun k h=>⟨s,rfl,h⟩
theorem Fun1.and {p:Prop} {F:(Sym→Prop)→Prop} (h:Fun1 F):Fun1 (fun k=>p∧F k):=fun k ⟨h1,h2⟩=>let ⟨s,h3,h4⟩:=h k h2;⟨s,⟨h1,h3⟩,h4⟩
section
variable (P:Program) (look:Nat→Option Obj') (ρ:Operand→Sym)
theorem z8k (ti:TI) (l:List D):Fun1 (headD ti l):=by
 intro k h
 unfold headD at h ⊢
 split at h
 ·rename_i e;simp only [e,if_true];exact ⟨_,⟨h.1,rfl⟩,h.2⟩
 ·rename_i e;simp only [e]
  cases l with
  | nil=>exact h.elim
  | cons x _=>exact ⟨_,rfl,h⟩
theorem yeb (ti:TI) (l:List Sym):Fun1 (zq6 ti l):=by
 intro k h
 unfold zq6 at h ⊢
 split at h
 ·rename_i e;simp only [e,if_true];exact ⟨_,⟨h.1,rfl⟩,h.2⟩
 ·rename_i e;simp only [e]
  cases l with
  | nil=>exact h.elim
  | cons x _=>exact ⟨_,rfl,h⟩
theorem yec (ti:TI) (s:Sym):Fun1 (zkh look ti s):=by
 intro k h
 cases s <;> simp only [zkh] at h ⊢
 case d x=>cases x <;> simp only [zkh] at h ⊢ <;> first | exact z8k ti _ k h | exact h.elim
 case bp id off=>
  cases hl:look id with
  | none=>simp only [hl] at h
  | some o=>cases o <;> simp only [hl] at h ⊢;exact yeb ti _ k h
 case ap id sz i off=>
  cases hl:look id with
  | none=>simp only [hl] at h
  | some o=>
   cases o <;> simp only [hl] at h ⊢
   obtain ⟨h1,h2,h3⟩:=h;obtain ⟨s,q1,q2⟩:=z8k ti _ k h3;exact ⟨s,⟨h1,h2,q1⟩,q2⟩
theorem zw8 (kd:TK) (x:Sym) (f:Nat):Fun1 (zdq kd x f):=by
 intro k h
 cases kd <;> simp only [zdq] at h ⊢
 rename_i fs
 cases hf:fs[f]? with
 | none=>simp only [hf] at h
 | some y=>
  obtain ⟨off,sz,b⟩:=y;simp only [hf] at h ⊢;cases x <;> (try simp only at h ⊢)
  case d x=>cases x <;> (try simp only at h ⊢) <;> first | exact h.elim | exact ⟨_,⟨h.1,rfl⟩,h.2⟩
  all_goals exact ⟨_,⟨h.1,rfl⟩,h.2⟩
theorem yb1 (kd:TK) (x:Sym) (f:Nat):Fun1 (znl kd x f):=by
 intro k h
 cases kd <;> simp only [znl] at h ⊢
 rename_i fs
 cases hf:fs[f]? with
 | none=>simp only [hf] at h
 | some y=>
  obtain ⟨off,sz,b⟩:=y;simp only [hf] at h ⊢;cases x <;> (try simp only at h ⊢)
  case d x=>
   cases x <;> (try simp only at h ⊢)
   case agg l=>
    cases b <;> simp only [if_true,Bool.false_eq_true,if_false] at h ⊢
    ·cases hd:l.drop off with
     | nil=>rw [hd] at h;exact h.elim
     | cons y r=>rw [hd] at h;exact ⟨_,rfl,h⟩
    ·exact ⟨_,⟨h.1,rfl⟩,h.2⟩
  case agg l=>
   cases b <;> simp only [if_true,Bool.false_eq_true,if_false] at h ⊢
   ·cases hd:l.drop off with
    | nil=>rw [hd] at h;exact h.elim
    | cons y r=>rw [hd] at h;exact ⟨_,rfl,h⟩
   ·exact ⟨_,⟨h.1,rfl⟩,h.2⟩
theorem zw9 (esz:Nat) (s s':Sym):Fun1 (zce look esz s s'):=by
 intro k h
 unfold zce at h ⊢
 split at h
 ·exact ⟨_,⟨h.1,h.2.1,rfl⟩,h.2.2⟩
 ·rename_i id kd n
  cases hl:look id with
  | none=>simp only [hl] at h
  | some o=>cases o <;> simp only [hl] at h ⊢;exact ⟨_,⟨h.1,h.2.1,rfl⟩,h.2.2⟩
 ·exact h.elim
theorem yb2 (s s':Sym):Fun1 (znm s s'):=by
 intro k h
 unfold znm at h ⊢
 split at h
 ·exact ⟨_,⟨h.1,rfl⟩,h.2⟩
 ·exact h.elim
theorem zzk (kd:IntKind) (n:Int):Fun1 (arith kd n):=by
 intro k h
 unfold arith at h ⊢
 cases kd <;> simp only at h ⊢ <;> first | exact ⟨_,rfl,h⟩ | skip
 split at h
 ·rename_i e;simp only [if_pos e];exact ⟨_,rfl,h⟩
 ·rename_i e;simp only [if_neg e];exact ⟨_,⟨h.1,rfl⟩,h.2⟩
theorem yfs (op:BinOp) (s s':Sym) (hs : ∀ l,s≠.d (.sl l)):Fun1 (sbin op s s'):=by
 intro k h
 unfold sbin at h ⊢
 split at h
 ·cases op <;> simp only [zmn] at h ⊢ <;> first
   | exact ⟨_,⟨h.1,rfl⟩,h.2⟩
   | (obtain ⟨h1,h2⟩:=h;obtain ⟨s,q1,q2⟩:=zzk _ _ k h2;exact ⟨s,⟨h1,q1⟩,q2⟩)
   | (obtain ⟨h1,h2,h3⟩:=h;obtain ⟨s,q1,q2⟩:=zzk _ _ k h3;exact ⟨s,⟨h1,h2,q1⟩,q2⟩)
   | (obtain ⟨h1,h2,h3⟩:=h;exact ⟨_,⟨h1,h2,rfl⟩,h3⟩)
   | exact h.2.elim
   | exact h.elim
 ·cases op <;> simp only [zmo] at h ⊢ <;> first | exact ⟨_,⟨h.1,rfl⟩,h.2⟩ | exact ⟨_,rfl,h⟩ | exact h.elim
 ·cases op <;> simp only [zjc] at h ⊢ <;> first | exact ⟨_,rfl,h⟩ | exact h.elim
 ·exact absurd rfl (hs _)
 ·cases op <;> simp only at h ⊢ <;> first | exact ⟨_,rfl,h⟩ | exact h.elim
 ·exact h.elim
theorem ygo (op:UnOp) (s:Sym):Fun1 (sun op s):=by
 intro k h
 unfold sun at h ⊢
 split at h
 ·cases op <;> simp only at h ⊢ <;> first | exact ⟨_,rfl,h⟩ | exact h.elim
 ·cases op <;> simp only at h ⊢ <;> first | exact zzk _ _ k h | exact h.elim
 ·exact h.elim
theorem z4a (kd:TK) (s:Sym):Fun1 (ze2 kd s):=by
 intro k h
 unfold ze2 at h ⊢
 split at h
 ·exact ⟨_,rfl,h⟩
 ·exact ⟨_,rfl,h⟩
 ·exact h.elim
theorem z4b (s:Sym) (i:Nat):Fun1 (ze3 s i):=by
 intro k h
 unfold ze3 at h ⊢
 split at h
 ·split at h
  ·rename_i hx;simp only [hx];exact ⟨_,rfl,h⟩
  ·exact h.elim
 ·split at h
  ·rename_i hx;simp only [hx];exact ⟨_,rfl,h⟩
  ·exact h.elim
 ·exact h.elim
theorem yft (kd:TK) (s:Sym):Fun1 (slen look kd s):=by
 intro k h
 unfold slen at h ⊢
 split at h
 ·exact ⟨_,rfl,h⟩
 ·exact ⟨_,rfl,h⟩
 ·exact ⟨_,rfl,h⟩
 ·split at h
  ·rename_i hx;simp only [hx];exact ⟨_,rfl,h⟩
  ·exact h.elim
 ·exact ⟨_,rfl,h⟩
 ·exact ⟨_,rfl,h⟩
 ·exact h.elim
theorem zxa (mx:Bool) (l:List Sym):Fun1 (zhc mx l):=by
 intro k h
 unfold zhc at h ⊢
 split at h
 ·exact ⟨_,rfl,h⟩
 ·exact h.elim
theorem yb3 (kd:TK) (s:Sym) (lo hi:Option Sym):Fun1 (zgr P look kd s lo hi):=by
 intro k h
 unfold zgr at h ⊢
 split at h
 ·split at h
  ·rename_i h1 h2;(try simp only [h1,h2]);exact ⟨_,⟨h.1,h.2.1,rfl⟩,h.2.2⟩
  ·exact h.elim
 ·split at h
  ·rename_i h0;try simp only [h0]
   split at h
   ·rename_i h1 h2;(try simp only [h1,h2]);exact ⟨_,⟨h.1,h.2.1,rfl⟩,h.2.2⟩
   ·exact h.elim
  ·exact h.elim
 ·split at h
  ·rename_i h0;try simp only [h0]
   split at h
   ·rename_i h1 h2;(try simp only [h1,h2]);exact ⟨_,⟨h.1,h.2.1,rfl⟩,h.2.2⟩
   ·exact h.elim
  ·exact h.elim
 ·split at h
  ·rename_i h1 h2;(try simp only [h1,h2]);exact ⟨_,⟨h.1,rfl⟩,h.2⟩
  ·exact h.elim
 ·exact h.elim
theorem z8l (kd:TK) (s a b c:Sym):Fun1 (zhd P look kd s a b c):=by
 intro k h
 unfold zhd at h ⊢
 split at h
 ·split at h
  ·rename_i h0;try simp only [h0]
   exact ⟨_,⟨h.1,h.2.1,rfl⟩,h.2.2⟩
  ·exact h.elim
 ·exact h.elim
theorem yfu (s:Sym):Fun1 (snil s):=by
 intro k h
 unfold snil at h ⊢
 split at h <;> first | exact ⟨_,rfl,h⟩ | exact h.elim
theorem yed (c:Sym) (args:List Sym):Fun1 (zn8 P look c args):=by
 intro k h
 unfold zn8 at h ⊢
 split at h
 ·unfold zpn at h ⊢
  split at h
  ·rename_i hl;simp only [hl]
   obtain ⟨r,h1,h2,h3⟩:=h;exact ⟨_,⟨r,h1,h2,rfl⟩,h3⟩
  ·exact h.elim
 ·exact h.elim
theorem yee (c x y:Sym):Fun1 (zy5 c x y):=by
 intro k h
 unfold zy5 at h ⊢
 split at h
 ·exact ⟨_,rfl,h⟩
 ·exact h.elim
theorem yef (ti:TI):Fun1 (zeroS ti):=by
 intro k h
 unfold zeroS at h ⊢
 split at h
 ·rename_i hg;simp only [hg,if_true];exact ⟨_,⟨h.1,rfl⟩,h.2⟩
 ·rename_i hg;simp only [hg]
  split at h
  ·exact ⟨_,rfl,h⟩
  ·exact h.elim
theorem z8m (kk:TK) (te:TI) (c:Bool) (m x:Sym):Fun1 (zfj look kk te c m x):=by
 intro k h
 unfold zfj at h ⊢
 split at h
 ·rename_i rows y h1
  simp only [h1];obtain ⟨h2,h⟩:=h;split at h
  ·rename_i d hd;try simp only [hd]
   exact ⟨_,⟨h2,rfl⟩,h⟩
  ·rename_i hd;try simp only [hd]
   obtain ⟨s,q1,q2⟩:=yef te _ h;refine ⟨_,⟨h2,?_⟩,q2⟩
   unfold zeroS at q1 ⊢;split at q1
   ·rename_i hg;simp only [hg,if_true];exact ⟨q1.1,by rw [q1.2]⟩
   ·rename_i hg;simp only [hg]
    split at q1
    ·rename_i v hv;rw [← q1];rfl
    ·exact q1.elim
  ·exact h.elim
 ·exact h.elim
theorem yb4 (op:BinOp) (t:Nat) (x y:Sym):Fun1 (znn P op t x y):=by
 intro k h
 unfold znn at h ⊢
 split at h
 ·split at h
  ·rename_i hk;try simp only [hk]
   split at h
   ·rename_i hr;try simp only [hr]
    split at h
    ·exact ⟨_,rfl,h⟩
    ·exact ⟨_,rfl,h⟩
    ·exact h.elim
   ·exact h.elim
  ·exact h.elim
 ·exact h.elim
theorem yb5 (ti:TI) (parts:List (Nat×Sym)):Fun1 (zns ti parts):=by
 intro k h
 unfold zns at h ⊢
 split at h
 ·rename_i fs hk
  obtain ⟨h1,h⟩:=h;split at h
  ·rename_i out ho;simp only [ho];exact ⟨_,⟨h1,rfl⟩,h⟩
  ·exact h.elim
 ·exact h.elim
theorem z4c (P:Program) (t n:Nat) (parts:List (Nat×Sym)):Fun1 (zhi P t n parts):=by
 intro k h
 unfold zhi at h ⊢
 split at h
 ·split at h
  ·split at h
   ·rename_i xs hxs
    obtain ⟨h1,h2,h3,h⟩:=h;split at h
    ·rename_i rows hr
     (try simp only [hr])
     exact ⟨_,⟨h1,h2,h3,rfl⟩,h⟩
    ·exact h.elim
   ·exact h.elim
  ·exact h.elim
 ·exact h.elim
def yeg:Sym→Bool
 | .d (.sl _)=>false
 | _=>true
def opD (ρ:Operand→Sym):Op→Bool
 | .binOp _ _ x _ _=>yeg (ρ x)
 | _=>true
theorem yc7 (op:Op) (ho:opD ρ op=true):Fun1 (sopB P look ρ op):=by
 intro k h
 unfold sopB at h ⊢
 split at h
 ·split at h
  ·rename_i ht;try simp only [ht]
   exact yb5 _ _ k h
  ·exact h.elim
 ·exact z4c _ _ _ _ k h
 ·split at h
  ·rename_i hf;try simp only [hf]
   exact ⟨_,rfl,h⟩
  ·exact h.elim
 ·unfold sop at h ⊢
  split at h
  ·exact ⟨_,rfl,h⟩
  ·exact ⟨_,rfl,h⟩
  ·exact yee _ _ _ k h
  ·split at h
   ·rename_i ht;try simp only [ht]
    exact yec _ _ _ k h
   ·exact h.elim
  ·split at h
   ·rename_i ht;try simp only [ht]
    exact zw8 _ _ _ k h
   ·exact h.elim
  ·split at h
   ·rename_i ht;try simp only [ht]
    exact yb1 _ _ _ k h
   ·exact h.elim
  ·split at h
   ·split at h
    ·exact zw9 _ _ _ _ k h
    ·exact h.elim
   ·exact h.elim
  ·split at h
   ·rename_i ht;try simp only [ht]
    exact yb2 _ _ k h
   ·exact h.elim
  ·split at h
   ·rename_i ht;try simp only [ht]
    obtain ⟨h1,h2⟩:=h;obtain ⟨s,q1,q2⟩:=yb3 _ _ _ _ _ _ k h2;exact ⟨s,⟨h1,q1⟩,q2⟩
   ·exact h.elim
  ·split at h
   ·rename_i ht;try simp only [ht]
    exact z8l _ _ _ _ _ _ _ k h
   ·exact h.elim
  ·split at h
   ·rename_i ht;try simp only [ht]
    rcases h with h | h
    ·obtain ⟨h1,h2⟩:=h
     obtain ⟨s,q1,q2⟩:=yfs _ _ _ (by intro l e;simp [opD,e,yeg] at ho) k h2
     exact ⟨s,.inl ⟨h1,q1⟩,q2⟩
    ·obtain ⟨s,q1,q2⟩:=yb4 _ _ _ _ _ k h
     exact ⟨s,.inr q1,q2⟩
   ·exact h.elim
  ·exact ygo _ _ k h
  ·split at h
   ·rename_i ht ht';try simp only [ht,ht']
    exact z4a _ _ k h
   ·exact h.elim
  ·exact z4b _ _ k h
  ·split at h
   ·split at h
    ·rename_i h1 h2;try simp only [h1,h2]
     obtain ⟨hz,h⟩:=h;obtain ⟨s,q1,q2⟩:=z8m _ _ _ _ _ _ k h;exact ⟨s,⟨hz,q1⟩,q2⟩
    ·exact h.elim
   ·exact h.elim
  ·exact yfu _ k h
  ·split at h
   ·rename_i hx hy
    split at h
    ·rename_i ht;try simp only [hx,hy,ht]
     exact yft _ _ _ k h
    ·exact h.elim
   ·exact h.elim
  ·exact zxa _ _ k h
  ·exact zxa _ _ k h
  ·exact yed _ _ _ _ k h
  ·exact h.elim
end
end Go.V
namespace Go.V
variable [Dr] [Ov]
open Go.RowKit
def guards (all:List Oper) (t:Option Tmp):Bool:=match t with
 | some t=>all.any fun o=>match o.guard with
  | some (j,_)=>(all[j]?).bind (·.dst)==some t
  | none=>false
 | none=>false
def splitB (g:Bool) (s:Sym) (k:Sym→Prop):Prop:=
 match g,s with
 | true,.d (.bool b)=>(b=true→k (.d (.bool true)))∧(b=false→k (.d (.bool false)))
 | _,s=>k s
def z1h (g:Bool) (k:Sym→Prop):Sym→Prop:=fun s=>splitB g s k
def zkp (P:Program) (all:List Oper) (o:Oper) (st:St) (k:Sym→Prop):Prop:=
 match o.guard with
 | none=>opD st.val o.op=true∧sopB P st.look st.val o.op k
 | some (j,want)=>match (all[j]?).bind (·.dst) with
  | some t=>match zab st.slots t with
   | some (.d (.bool b))=>(b=want→opD st.val o.op=true∧sopB P st.look st.val o.op k)∧(b = !want→k (.d (.val undef)))
   | some (.d (.val v))=>v=undef∧k (.d (.val undef))
   | _=>False
  | none=>False
def zp8 (P:Program) (all:List Oper):List Oper→St→(St→Prop)→Prop
 | [],st,K=>K st
 | o::r,st,K=>dstB o.dst st.n=true∧zkp P all o st (z1h (guards all o.dst) fun s=>zp8 P all r (st.put o.dst s) K)
def DStep (P:Program) (all:List Oper) (o:Oper) (st:St) (s:Sym):Prop:=zkp P all o st (fun s'=>s'=s)
def Chain (P:Program) (all:List Oper):List Oper→List Sym→St→Prop
 | [],ss,_=>ss=[]
 | o::r,ss,st=>∃ s ss',ss=s::ss'∧dstB o.dst st.n=true∧DStep P all o st s∧Chain P all r ss' (st.put o.dst s)
def puts:List Oper→List Sym→St→St
 | o::r,s::ss,st=>puts r ss (st.put o.dst s)
 | _,_,st=>st
theorem z8n {g:Bool} {k:Sym→Prop} {s:Sym} (h:z1h g k s):k s:=by
 unfold z1h splitB at h
 split at h
 ·rename_i b;cases b
  ·exact h.2 rfl
  ·exact h.1 rfl
 ·exact h
section
variable {P:Program} {X:Nat→Prop} {w0:Base} {st:St} {β:Nat→Value} {a:Act} {w w':World}
theorem zop {all:List Oper} {o:Oper} {k:Sym→Prop} (h:zkp P all o st k) : ∃ s,DStep P all o st s∧k s:=by
 unfold DStep
 unfold zkp at h ⊢
 split at h
 ·obtain ⟨h1,h2⟩:=h
  obtain ⟨s,q1,q2⟩:=yc7 P st.look st.val o.op h1 k h2;exact ⟨s,⟨h1,q1⟩,q2⟩
 ·rename_i j want hg
  split at h
  ·rename_i t ht
   split at h
   ·rename_i b hb
    by_cases e:b=want
    ·obtain ⟨h1,h2⟩:=h.1 e
     obtain ⟨s,q1,q2⟩:=yc7 P st.look st.val o.op h1 k h2;refine ⟨s,⟨fun _=>⟨h1,q1⟩,fun e'=>?_⟩,q2⟩
     subst e;cases b <;> simp at e'
    ·have e':b = !want:=by cases b <;> cases want <;> simp_all
     exact ⟨_,⟨fun e''=>absurd e'' e,fun _=>rfl⟩,h.2 e'⟩
   ·exact ⟨_,⟨h.1,rfl⟩,h.2⟩
   ·exact h.elim
  ·exact h.elim
theorem zp9 {all:List Oper} : ∀ {l:List Oper} {st:St} {K:St→Prop},zp8 P all l st K→∃ ss,Chain P all l ss st∧K (puts l ss st)
 | [],st,K,h=>⟨[],rfl,h⟩
 | o::r,st,K,h=>by
  simp only [zp8] at h;obtain ⟨hd,h⟩:=h;obtain ⟨s,h1,h2⟩:=zop h;obtain ⟨ss,q1,q2⟩:=zp9 (z8n h2);exact ⟨s::ss,⟨s,ss,rfl,hd,h1,q1⟩,q2⟩
theorem zqa {all:List Oper} : ∀ {l:List Oper} {ss:List Sym} {st:St} {i:Nat} {o:Oper},Chain P all l ss st→l[i]?=some o →
  ∃ s,ss[i]?=some s∧dstB o.dst st.n=true∧DStep P all o (puts (l.take i) (ss.take i) st) s
 | [],ss,st,i,o,h,hi=>by simp at hi
 | x::r,ss,st,0,o,h,hi=>by
  simp at hi;subst hi
  obtain ⟨s,ss',rfl,hd,h1,h2⟩:=h;exact ⟨s,by simp,hd,by simpa [puts] using h1⟩
 | x::r,ss,st,i+1,o,h,hi=>by
  obtain ⟨s,ss',rfl,hd,h1,h2⟩:=h;obtain ⟨s',q1,q2,q3⟩:=zqa h2 (by simpa using hi)
  refine ⟨s',by simpa using q1,?_,by simpa [puts] using q3⟩
  have:(st.put x.dst s).n=st.n:=by cases x.dst <;> rfl
  rw [this] at q2;exact q2
theorem zjm : ∀ (l:List Oper) (ss:List Sym) (st:St),(puts l ss st).own=st.own∧(puts l ss st).n=st.n∧(puts l ss st).next=st.next∧(puts l ss st).base=st.base∧(puts l ss st).moved=st.moved
 | [],ss,st=>by simp [puts]
 | o::r,[],st=>by simp [puts]
 | o::r,s::ss,st=>by
  have h:=zjm r ss (st.put o.dst s);have e:(st.put o.dst s).own=st.own∧(st.put o.dst s).n=st.n∧(st.put o.dst s).next=st.next∧(st.put o.dst s).base=st.base∧(st.put o.dst s).moved=st.moved:=by cases o.dst <;> exact ⟨rfl,rfl,rfl,rfl,rfl⟩
  exact ⟨h.1.trans e.1,h.2.1.trans e.2.1,h.2.2.1.trans e.2.2.1,h.2.2.2.1.trans e.2.2.2.1,h.2.2.2.2.trans e.2.2.2.2⟩
theorem zlz : ∀ {l:List Oper} {ss:List Sym} {st:St} {t:Nat},l.length=ss.length →
  (∃ (i:Nat) (o:Oper) (s:Sym),l[i]?=some o∧ss[i]?=some s∧o.dst=some t∧zab (puts l ss st).slots t=some s)∨((∀ (i:Nat) (o:Oper),l[i]?=some o→o.dst≠some t)∧zab (puts l ss st).slots t=zab st.slots t)
 | [],[],st,t,_=>.inr ⟨by simp,by simp [puts]⟩
 | o::r,s::ss,st,t,hl=>by
  rcases zlz (l:=r) (ss:=ss) (st:=st.put o.dst s) (t:=t) (by simpa using hl) with ⟨i,o',s',h1,h2,h3,h4⟩ | ⟨h1,h2⟩
  ·exact .inl ⟨i+1,o',s',by simpa using h1,by simpa using h2,h3,by simpa [puts] using h4⟩
  ·by_cases e:o.dst=some t
   ·refine .inl ⟨0,o,s,by simp,by simp,e,?_⟩
    simp only [puts];rw [h2];simp only [e,St.put,zab,if_true]
   ·refine .inr ⟨?_,?_⟩
    ·intro i o' hi
     cases i with
     | zero=>simp at hi;subst hi;exact e
     | succ i=>exact h1 i o' (by simpa using hi)
    ·simp only [puts];rw [h2]
     cases hd:o.dst with
     | none=>rfl
     | some d=>
      rw [hd] at e;simp only [St.put,zab];rw [if_neg (by simpa using e)]
theorem zf1 {all:List Oper} : ∀ {l:List Oper} {ss:List Sym} {st:St},Chain P all l ss st→l.length=ss.length
 | [],ss,st,h=>by simp only [Chain] at h;simp [h]
 | o::r,ss,st,h=>by obtain ⟨s,ss',rfl,_,_,h2⟩:=h;simp [zf1 h2]
def tmpsOf (all:List Oper) (o:Oper):List Tmp:=
 (o.op.operands.toList.filterMap fun | .tmp t=>some t | _=>none)++(match o.guard with
  | some (j,_)=>((all[j]?).bind (·.dst)).toList
  | none=>[])
def bound (o:Oper) (j:Nat):Bool:=o.after.toList.any fun e=>Region.binds .any e&&e.on==j
def z8o (i:Nat) (o:Oper):Bool:=o.after.toList.all fun e=>!Region.binds .any e || decide (e.on<i)
def yc8 (all:List Oper) (i j:Nat) (x y:Oper):Bool:=
 (match x.dst with
  | some t=>(!(tmpsOf all y).contains t || bound y i)&&y.dst != some t
  | none=>true) &&
 (match y.dst with
  | some t=>!(tmpsOf all x).contains t || bound y i
  | none=>true)
def yc9 (all:List Oper) (x:Oper):Bool:=match x.dst with
 | some t=>!(tmpsOf all x).contains t
 | none=>true
def zb7 (all:List Oper):Bool:=
 all.zipIdx.all fun (y,j)=>z8o j y&&yc9 all y&&all.zipIdx.all fun (x,i)=>!decide (i<j) || yc8 all i j x y
end
end Go.V
namespace Go.V
variable [Dr] [Ov]
open Go.RowKit
theorem yb6 {P:Program} {look:Nat→Option Obj'} {ρ ρ':Operand→Sym} {op:Op} {k:Sym→Prop} (h : ∀ x∈op.operands,ρ x=ρ' x) (hs:sop P look ρ op k):sop P look ρ' op k:=by
 unfold sop at hs ⊢
 split at hs
 ·rename_i x;rw [← h x (by simp [Op.operands])];exact hs
 ·rename_i x;rw [← h x (by simp [Op.operands])];exact hs
 ·rename_i c x y;rw [← h c (by simp [Op.operands]),← h x (by simp [Op.operands]),← h y (by simp [Op.operands])];exact hs
 ·rename_i t x;rw [← h x (by simp [Op.operands])];exact hs
 ·rename_i t x f;rw [← h x (by simp [Op.operands])];exact hs
 ·rename_i t x f;rw [← h x (by simp [Op.operands])];exact hs
 ·rename_i t x i;rw [← h x (by simp [Op.operands]),← h i (by simp [Op.operands])];exact hs
 ·rename_i t x i;rw [← h x (by simp [Op.operands]),← h i (by simp [Op.operands])];exact hs
 ·rename_i t x lo hi
  have e1:lo.map ρ=lo.map ρ':=by
   cases lo with
   | none=>rfl
   | some y=>simp [h y (by simp [Op.operands])]
  have e2:hi.map ρ=hi.map ρ':=by
   cases hi with
   | none=>rfl
   | some y=>simp [h y (by simp [Op.operands])]
  rw [← h x (by simp [Op.operands]),← e1,← e2];exact hs
 ·rename_i t x lo hi mx
  rw [← h x (by simp [Op.operands]),← h lo (by simp [Op.operands]),← h hi (by simp [Op.operands]),← h mx (by simp [Op.operands])];exact hs
 ·rename_i op t x y ty;rw [← h x (by simp [Op.operands]),← h y (by simp [Op.operands])];exact hs
 ·rename_i op t x;rw [← h x (by simp [Op.operands])];exact hs
 ·rename_i s t x;rw [← h x (by simp [Op.operands])];exact hs
 ·rename_i t i;rw [← h t (by simp [Op.operands])];exact hs
 ·rename_i t m x c;rw [← h m (by simp [Op.operands]),← h x (by simp [Op.operands])];exact hs
 ·rename_i x;rw [← h x (by simp [Op.operands])];exact hs
 ·rename_i ar ts
  split at hs
  ·rename_i x t hx ht
   have:ρ x=ρ' x:=h x (by simp only [Op.operands,Call.operands];have:x∈ar.toList:=(by rw [hx];simp);simpa using this)
   rw [← this];exact hs
  ·exact hs.elim
 ·rename_i ar ts
  have e1:ar.toList.map ρ=ar.toList.map ρ':=by
   apply List.map_congr_left
   intro x hx;exact h x (by simp only [Op.operands,Call.operands];simpa using hx)
  rw [← e1];exact hs
 ·rename_i ar ts
  have e1:ar.toList.map ρ=ar.toList.map ρ':=by
   apply List.map_congr_left
   intro x hx;exact h x (by simp only [Op.operands,Call.operands];simpa using hx)
  rw [← e1];exact hs
 ·rename_i f ar ts
  have e0:ρ f=ρ' f:=h f (by simp [Op.operands,Call.operands])
  have e1:ar.toList.map ρ=ar.toList.map ρ':=by
   apply List.map_congr_left
   intro x hx;exact h x (by simp only [Op.operands,Call.operands];simp;right;simpa using hx)
  rw [← e0,← e1];exact hs
 ·exact hs.elim
theorem zxb {P:Program} {look:Nat→Option Obj'} {ρ ρ':Operand→Sym} {op:Op} {k:Sym→Prop} (h : ∀ x∈op.operands,ρ x=ρ' x) (hs:sopB P look ρ op k):sopB P look ρ' op k:=by
 unfold sopB at hs ⊢
 split at hs
 ·rename_i t parts
  have e:(parts.toList.map fun (i,x)=>(i,ρ x))=(parts.toList.map fun (i,x)=>(i,ρ' x)):=by
   apply List.map_congr_left
   rintro ⟨i,x⟩ hx
   simp only
   rw [h x (by simp only [Op.operands];simp;exact ⟨i,by simpa using hx⟩)]
  rw [e] at hs;exact hs
 ·rename_i t n parts
  have e:(parts.toList.map fun (i,x)=>(i,ρ x))=(parts.toList.map fun (i,x)=>(i,ρ' x)):=by
   apply List.map_congr_left
   rintro ⟨i,x⟩ hx
   simp only
   rw [h x (by simp only [Op.operands];simp;exact ⟨i,by simpa using hx⟩)]
  rw [e] at hs;exact hs
 ·rename_i f first cap
  split at hs
  ·rename_i hf
   have e:cap.toList.map ρ=cap.toList.map ρ':=by
    apply List.map_congr_left
    intro x hx;exact h x (by simp only [Op.operands];simp;right;simpa using hx)
   rw [e] at hs;exact hs
  ·exact hs.elim
 ·exact yb6 h hs
section
variable {P:Program} {X:Nat→Prop} {w0:Base} {st:St} {β:Nat→Value} {a0:Act} {w00:World}
structure Half (P:Program) (X:Nat→Prop) (all:List Oper) (ss:List Sym) (st:St) (β:Nat→Value) (a0:Act) (w00:World) (listed:Array Bool) (a:Act) (w:World):Prop where
 size:listed.size=all.length
 defers:a.defers=[]
 tmps:a.tmps.size=st.n
 below:Below w00.heap.size w00 w
 down : ∀ i o,all[i]?=some o→listed.getD i true=true→∀ e∈o.after.toList,Region.binds .any e=true→listed.getD e.on false=true
 done : ∀ i o t s,all[i]?=some o→listed.getD i true=true→o.dst=some t→ss[i]?=some s→Sym.lo st.next s∧Sm w (Ex X β st.own) β s (a.tmps.getD t undef)
 rest : ∀ t,(∀ i o,all[i]?=some o→listed.getD i true=true→o.dst≠some t)→a.tmps.getD t undef=a0.tmps.getD t undef
def seen (all:List Oper) (o:Oper) (st:St):List (Nat×Sym):=(tmpsOf all o).filterMap fun t=>(zab st.slots t).map fun s=>(t,s)
theorem zg4 {t:Nat} : ∀ {l:List Tmp} {s:Sym},zab (l.filterMap fun t=>(zab st.slots t).map fun s=>(t,s)) t=some s→t∈l∧zab st.slots t=some s
 | [],s,h=>by simp [zab] at h
 | x::r,s,h=>by
  simp only [List.filterMap_cons] at h;cases hx:zab st.slots x with
  | none=>simp only [hx,Option.map_none] at h;have:=zg4 h;exact ⟨List.mem_cons_of_mem _ this.1,this.2⟩
  | some y=>
   simp only [hx,Option.map_some,zab] at h;split at h
   ·rename_i e;subst e;simp at h;subst h;exact ⟨by simp,hx⟩
   ·have:=zg4 h;exact ⟨List.mem_cons_of_mem _ this.1,this.2⟩
theorem zoq {t:Nat} {s:Sym} : ∀ {l:List Tmp},t∈l→zab st.slots t=some s→zab (l.filterMap fun t=>(zab st.slots t).map fun s=>(t,s)) t=some s
 | [],h,_=>by cases h
 | x::r,h,hs=>by
  simp only [List.filterMap_cons];by_cases e:x=t
  ·subst e;simp [hs,zab]
  ·have hr:t∈r:=by rcases List.mem_cons.1 h with h | h;exact absurd h.symm e;exact h
   cases hx:zab st.slots x with
   | none=>simp only [Option.map_none];exact zoq hr hs
   | some y=>simp only [Option.map_some,zab,e,if_false];exact zoq hr hs
end
end Go.V
namespace Go.V
variable [Dr] [Ov]
open Go.RowKit
theorem zct {all:List Oper} {o:Oper} {t:Nat} (h:Operand.tmp t∈o.op.operands):t∈tmpsOf all o:=by
 unfold tmpsOf
 refine List.mem_append.2 (.inl (List.mem_filterMap.2 ⟨.tmp t,?_,rfl⟩))
 simpa using h
theorem zkq {all:List Oper} {o:Oper} {j t:Nat} {want:Bool} (hg:o.guard=some (j,want)) (ht:(all[j]?).bind (·.dst)=some t):t∈tmpsOf all o:=by
 unfold tmpsOf
 refine List.mem_append.2 (.inr ?_)
 rw [hg];simp [ht]
section
variable {P:Program} {X:Nat→Prop} {w0:Base} {st:St} {β:Nat→Value} {a0:Act} {w00:World} {all:List Oper} {ss:List Sym}
theorem ziu (h:zb7 all=true) {i:Nat} {o:Oper} (hi:all[i]?=some o):(∀ e∈o.after.toList,Region.binds .any e=true→e.on<i)∧(∀ t,o.dst=some t→t∉tmpsOf all o):=by
 unfold zb7 at h
 have hm:(o,i)∈all.zipIdx:=by rw [List.mem_zipIdx_iff_getElem?];exact hi
 have:=(List.all_eq_true.1 h) _ hm
 simp only [Bool.and_eq_true] at this
 obtain ⟨⟨h1,h2⟩,_⟩:=this
 constructor
 ·intro e he hb
  unfold z8o at h1;have:=(List.all_eq_true.1 h1) e he
  simpa [hb] using this
 ·intro t ht
  unfold yc9 at h2;rw [ht] at h2;simpa using h2
theorem zb8 (h:zb7 all=true) {i j:Nat} {x y:Oper} (hi:all[i]?=some x) (hj:all[j]?=some y) (hij:i<j) :
  (∀ t,x.dst=some t→(t∈tmpsOf all y→bound y i=true)∧y.dst≠some t)∧(∀ t,y.dst=some t→t∈tmpsOf all x→bound y i=true):=by
 unfold zb7 at h
 have hm:(y,j)∈all.zipIdx:=by rw [List.mem_zipIdx_iff_getElem?];exact hj
 have hm':(x,i)∈all.zipIdx:=by rw [List.mem_zipIdx_iff_getElem?];exact hi
 have h1:=(List.all_eq_true.1 h) _ hm
 simp only [Bool.and_eq_true] at h1
 have h2:=(List.all_eq_true.1 h1.2) _ hm'
 simp only [hij,decide_true,Bool.not_true,Bool.false_or] at h2
 unfold yc8 at h2
 simp only [Bool.and_eq_true] at h2
 constructor
 ·intro t ht
  have h3:=h2.1;rw [ht] at h3;simp only [Bool.and_eq_true,Bool.or_eq_true,Bool.not_eq_true',bne_iff_ne] at h3;refine ⟨fun hmem=>?_,h3.2⟩
  rcases h3.1 with h4 | h4
  ·rw [List.contains_iff_mem.2 hmem] at h4;cases h4
  ·exact h4
 ·intro t ht hmem
  have h3:=h2.2;rw [ht] at h3;simp only [Bool.or_eq_true,Bool.not_eq_true'] at h3;rcases h3 with h4 | h4
  ·rw [List.contains_iff_mem.2 hmem] at h4;cases h4
  ·exact h4
theorem zfn {o:Oper} {j:Nat} (h:bound o j=true) : ∃ e∈o.after.toList,Region.binds .any e=true∧e.on=j:=by
 unfold bound at h
 obtain ⟨e,he,h⟩:=List.any_eq_true.1 h
 simp at h
 exact ⟨e,he,h.1,h.2⟩
theorem z8p (hok:zb7 all=true) (hm:Mods X w0 st β a0 w00) (hch:Chain P all all ss st) {listed:Array Bool} {a:Act} {w:World} (hh:Half P X all ss st β a0 w00 listed a w)
  {i:Nat} {o:Oper} (hi:all[i]?=some o) (hnot:listed.getD i true=false) (hready : ∀ e∈o.after.toList,Region.binds .any e=true→listed.getD e.on false=true) {N:Act→World→Prop} {Q:Exit→Act→World→Prop}
  (hN : ∀ a' w',Half P X all ss st β a0 w00 (listed.setIfInBounds i true) a' w'→N a' w'):wpOp P all.toArray Q i N a w:=by
 have hlen:=zf1 hch
 obtain ⟨s,hs,hd,hstep⟩:=zqa hch hi
 have hilt:i<all.length:=(List.getElem?_eq_some_iff.1 hi).1
 generalize hst:puts (all.take i) (ss.take i) st=sti at hstep
 obtain ⟨ho,hn,hx⟩:=zjm (all.take i) (ss.take i) st
 rw [hst] at ho hn hx
 -- what the slots that it looks at hold
 have hslot : ∀ t∈tmpsOf all o,∀ s',zab sti.slots t=some s'→Sym.lo st.next s'∧Sm w (Ex X β st.own) β s' (a.tmps.getD t undef):=by
  intro t ht s' hs';rw [← hst] at hs';rcases zlz (l:=all.take i) (ss:=ss.take i) (st:=st) (t:=t) (by simp [hlen]) with ⟨j,y,sj,h1,h2,h3,h4⟩ | ⟨h1,h2⟩
  ·rw [h4] at hs';cases hs'
   have hji:j<i:=by
    rcases Nat.lt_or_ge j i with h | h
    ·exact h
    ·rw [List.getElem?_take,if_neg (by omega)] at h1;cases h1
   rw [List.getElem?_take,if_pos hji] at h1;rw [List.getElem?_take,if_pos hji] at h2;have hb:=((zb8 hok h1 hi hji).1 t h3).1 ht;obtain ⟨e,he,hbe,hej⟩:=zfn hb;have hl:=hready e he hbe;rw [hej] at hl;have hl':listed.getD j true=true:=by
    have hlt:j<listed.size:=by rw [hh.size];omega
    simp [Array.getD,hlt] at hl ⊢;exact hl
   exact hh.done j y t s' h1 hl' h3 h2
  ·rw [h2] at hs'
   have hrest:a.tmps.getD t undef=a0.tmps.getD t undef:=by
    refine hh.rest t fun j y hj hlj hdj=>?_
    rcases Nat.lt_trichotomy j i with h | h | h
    ·exact h1 j y (by rw [List.getElem?_take,if_pos h];exact hj) hdj
    ·subst h;rw [hnot] at hlj;cases hlj
    ·have hb:=(zb8 hok hi hj h).2 t hdj ht
     obtain ⟨e,he,hbe,hej⟩:=zfn hb;have:=hh.down j y hj hlj e he hbe
     rw [hej] at this;have hlt:i<listed.size:=by rw [hh.size];exact hilt
     simp [Array.getD,hlt] at this hnot;rw [this] at hnot;cases hnot
   rw [hrest];have:=hm.slots t s' hs'
   exact ⟨this.1,Sm.over (m:=st.next) (fun _ _=>rfl) (Over.of_below hh.below _) this.1 this.2⟩
 -- a state for it
 let st':St:={st with slots:=seen all o sti}
 have hm':Mods X w0 st' β a w:=by
  refine ⟨hm.outer,hm.still,hm.one,hh.defers,hh.tmps,hm.below.next hh.below,hm.keys,?_,hm.apart,?_⟩
  ·intro id ob hmem
   obtain ⟨q1,q2,q3⟩:=hm.own id ob hmem;exact ⟨q1,q2,zc9.over (m:=st.next) (fun _ _=>rfl) (Over.of_below hh.below _) q1 q2 (fun b hb=>hh.below.block b (hm.lt b (.inr ⟨id,ob,hmem,hb⟩))) q3⟩
  ·intro t s' ht
   obtain ⟨q1,q2⟩:=zg4 ht;exact hslot t q1 s' q2
 have hval : ∀ x∈o.op.operands,sti.val x=st'.val x:=by
  intro x hx';cases x with
  | tmp t=>
   simp only [St.val];have hmem:t∈tmpsOf all o:=zct hx'
   cases hl:zab sti.slots t with
   | some s'=>
    have:zab st'.slots t=some s':=zoq hmem hl
    rw [this]
   | none=>
    cases hl':zab st'.slots t with
    | none=>rfl
    | some s'=>have:=(zg4 hl').2;rw [hl] at this;cases this
  | _=>rfl
 have hlook:sti.look=st'.look:=by funext id;simp only [St.look,ho];rfl
 -- behind it
 have after : ∀ v w',Below w.heap.size w w'→Sym.lo st.next s→Sm w' (Ex X β st.own) β s v→Half P X all ss st β a0 w00 (listed.setIfInBounds i true) (a.put o.dst v) w':=by
  intro v w' hb hlo hsm;have hdt:=zbk hd;have hov:Over w (Ex X β st.own) w' (Ex X β st.own):=Over.of_below hb _
  have hgd : ∀ j,(listed.setIfInBounds i true).getD j true=if j=i then true else listed.getD j true:=by
   intro j;by_cases e:j=i
   ·subst e
    have hlt:j<listed.size:=by rw [hh.size];exact hilt
    simp [Array.getD,hlt]
   ·simp only [e,if_false]
    by_cases hlt:j<listed.size
    ·simp [Array.getD,hlt,Array.getElem_setIfInBounds,Ne.symm e]
    ·simp [Array.getD,hlt]
  have hgf : ∀ j,listed.getD j false=true→(listed.setIfInBounds i true).getD j false=true:=by
   intro j hj;by_cases hlt:j<listed.size
   ·simp [Array.getD,hlt,Array.getElem_setIfInBounds] at hj ⊢;right;exact hj
   ·simp [Array.getD,hlt] at hj
  refine ⟨by simp [hh.size],by cases o.dst <;> exact hh.defers,by rw [← hh.tmps];cases o.dst <;> simp [Act.put],hh.below.trans (hb.mono hh.below.size),?_,?_,?_⟩
  ·intro j y hj hlj e he hbe
   rw [hgd] at hlj;by_cases e':j=i
   ·subst e';rw [hi] at hj;cases hj;exact hgf _ (hready e he hbe)
   ·simp only [e',if_false] at hlj;exact hgf _ (hh.down j y hj hlj e he hbe)
  ·intro j y t sj hj hlj hdj hsj
   rw [hgd] at hlj;rw [zt7 (fun d hd'=>by rw [hh.tmps];exact hdt d hd')]
   by_cases e':j=i
   ·subst e';rw [hi] at hj;cases hj
    rw [hs] at hsj;cases hsj;rw [if_pos hdj];exact ⟨hlo,hsm⟩
   ·simp only [e',if_false] at hlj
    have hne:¬(o.dst=some t):=by
     intro h;rcases Nat.lt_or_gt_of_ne e' with h' | h'
     ·exact ((zb8 hok hj hi h').1 t hdj).2 h
     ·exact ((zb8 hok hi hj h').1 t h).2 hdj
    rw [if_neg hne];have:=hh.done j y t sj hj hlj hdj hsj
    exact ⟨this.1,Sm.over (m:=st.next) (fun _ _=>rfl) hov this.1 this.2⟩
  ·intro t ht
   rw [zt7 (fun d hd'=>by rw [hh.tmps];exact hdt d hd')]
   have hne:¬(o.dst=some t):=ht i o hi (by rw [hgd];simp)
   rw [if_neg hne];exact hh.rest t fun j y hj hlj=>ht j y hj (by rw [hgd];split;rfl;exact hlj)
 -- the operation
 have hrun:(opD sti.val o.op=true∧sopB P sti.look sti.val o.op (fun s'=>s'=s))→o.wp P a w N Q:=by
  intro ⟨h1,h2⟩;rw [hlook] at h2;have h3:=zxb hval h2;exact ze9 hm' o h3 N Q fun s' v w' e hl hb hsm=>by subst e;exact hN _ _ (after v w' hb hl hsm)
 unfold wpOp
 have hia:all.toArray[i]?=some o:=by simpa using hi
 rw [hia]
 simp only
 unfold DStep zkp at hstep
 split at hstep
 ·rename_i hg
  simp only [Region.wanted,hg,if_true];exact .inl (hrun hstep)
 ·rename_i j want hg
  split at hstep
  ·rename_i t ht
   split at hstep
   ·rename_i b hb
    have htm:t∈tmpsOf all o:=zkq hg ht
    have hv:=(hslot t htm _ hb).2;simp only [Sm,R] at hv;have hlt:t<a.tmps.size:=by
     rcases Nat.lt_or_ge t a.tmps.size with h' | h'
     ·exact h'
     ·rw [show a.tmps.getD t undef=undef by simp [h']] at hv;simp [undef] at hv
    have hy:yielded all.toArray a.tmps j=some b:=by
     unfold yielded;rw [zdo ht];have hg':a.tmps[t]?=some (.bool b):=by
      rw [Array.getElem?_eq_getElem hlt];simp [hlt] at hv;rw [hv]
     simp [hg']
    simp only [Region.wanted,hg,hy];by_cases e:b=want
    ·subst e
     simp only [beq_self_eq_true,if_true];exact .inl (hrun (hstep.1 rfl))
    ·have e':b = !want:=by cases b <;> cases want <;> simp_all
     have:(some b==some want)=false:=by simp [e]
     simp only [this,Bool.false_eq_true,if_false];have hj:=hstep.2 e';rw [← hj] at after;exact hN _ _ (after undef w (Below.refl _ _) (by simp [Sym.lo]) (by simp [Sm,R]))
   ·rename_i v hb
    have htm:t∈tmpsOf all o:=zkq hg ht
    have hv:=(hslot t htm _ hb).2;obtain ⟨rfl,hj⟩:=hstep;simp only [Sm,R] at hv;have hy:yielded all.toArray a.tmps j=none:=zdf (zdo ht) hv
    simp only [Region.wanted,hg,hy];have:((none:Option Bool)==some want)=false:=rfl
    simp only [this,Bool.false_eq_true,if_false];rw [← hj] at after;exact hN _ _ (after undef w (Below.refl _ _) (by simp [Sym.lo]) (by simp [Sm,R]))
   ·exact hstep.elim
  ·exact hstep.elim
theorem zgc (hok:zb7 all=true) {listed:Array Bool} (hsz:listed.size=all.length) (hr:Region.ready .any all.toArray listed=[]) : ∀ i,i<all.length→listed.getD i true=true:=by
 intro i
 induction i using Nat.strongRecOn with
 | _ i ih=>
  intro hi;by_cases h:listed.getD i true=true
  ·exact h
  ·exfalso
   have h':listed.getD i true=false:=by simpa using h
   have hmem:i∈Region.ready .any all.toArray listed:=by
    unfold Region.ready;refine List.mem_filter.2 ⟨by simpa using hi,?_⟩
    have ho:all.toArray[i]?=some all[i]:=by simp [hi]
    rw [h',ho];simp only [Bool.not_false,Bool.true_and,Option.map_some,Option.getD_some];rw [Array.all_eq_true'];intro e he;by_cases hb:Region.binds .any e=true
    ·have hlt:=(ziu hok (List.getElem?_eq_getElem hi)).1 e (by simpa using he) hb
     have:=ih e.on hlt (by omega)
     have hlt':e.on<listed.size:=by omega
     simp [Array.getD,hlt'] at this ⊢;right;exact this
    ·simp [hb]
   rw [hr] at hmem;cases hmem
theorem zxc (hok:zb7 all=true) (hm:Mods X w0 st β a0 w00) (hch:Chain P all all ss st) {listed:Array Bool} {a:Act} {w:World} (hh:Half P X all ss st β a0 w00 listed a w)
  (hall : ∀ i,i<all.length→listed.getD i true=true):Mods X w0 (puts all ss st) β a w:=by
 have hlen:=zf1 hch
 obtain ⟨ho,hn,hx,hba,hmv⟩:=zjm all ss st
 have hov:Over w00 (Ex X β st.own) w (Ex X β st.own):=Over.of_below hh.below _
 refine ⟨hm.outer,by rw [hba,hx,hmv];exact hm.still,hm.one,hh.defers,by rw [hn];exact hh.tmps,hm.below.next hh.below,by rw [ho];exact hm.keys,?_,by rw [ho];exact hm.apart,?_⟩
 ·rw [ho,hx]
  intro id ob hmem;obtain ⟨q1,q2,q3⟩:=hm.own id ob hmem;exact ⟨q1,q2,zc9.over (m:=st.next) (fun _ _=>rfl) hov q1 q2 (fun b hb=>hh.below.block b (hm.lt b (.inr ⟨id,ob,hmem,hb⟩))) q3⟩
 ·rw [ho,hx]
  intro t s ht;rcases zlz (l:=all) (ss:=ss) (st:=st) (t:=t) hlen with ⟨i,o,s',h1,h2,h3,h4⟩ | ⟨h1,h2⟩
  ·rw [h4] at ht;cases ht
   exact hh.done i o t s h1 (hall i (List.getElem?_eq_some_iff.1 h1).1) h3 h2
  ·rw [h2] at ht
   rw [hh.rest t (fun i o hi _=>h1 i o hi)]
   have:=hm.slots t s ht
   exact ⟨this.1,Sm.over (m:=st.next) (fun _ _=>rfl) hov this.1 this.2⟩
theorem zxd (hok:zb7 all=true) (hm:Mods X w0 st β a0 w00) (hch:Chain P all all ss st) {Q:Exit→Act→World→Prop}
  (hQ : ∀ a w,Mods X w0 (puts all ss st) β a w→Q .normal a w) : ∀ (fuel:Nat) (listed:Array Bool) (a:Act) (w:World),(listed.toList.filter (!·)).length≤fuel→Half P X all ss st β a0 w00 listed a w →
  wpAny P .any all.toArray Q fuel listed a w
 | 0,listed,a,w,hf,hh=>by
  have hall : ∀ i,i<all.length→listed.getD i true=true:=by
   intro i hi;have hlt:i<listed.size:=by rw [hh.size];exact hi
   by_cases h:listed[i]=true
   ·simp [Array.getD,hlt,h]
   ·exfalso
    have hmem:listed[i]∈listed.toList.filter (!·):=List.mem_filter.2 ⟨by simp,by simpa using h⟩
    have:=List.length_pos_of_mem hmem
    omega
  refine ⟨?_,hQ a w (zxc hok hm hch hh hall)⟩
  unfold Region.ready;rw [List.filter_eq_nil_iff];intro i hi;rw [hall i (by simpa using hi)]
  simp
 | fuel+1,listed,a,w,hf,hh=>by
  refine ⟨fun hr=>hQ a w (zxc hok hm hch hh (zgc hok hh.size hr)),fun i hi=>?_⟩
  unfold Region.ready at hi;obtain ⟨hir,hi⟩:=List.mem_filter.1 hi;simp only [Bool.and_eq_true,Bool.not_eq_true'] at hi;obtain ⟨hnot,hi⟩:=hi;cases ho:all.toArray[i]? with
  | none=>rw [ho] at hi;simp at hi
  | some o=>
   rw [ho] at hi;simp only [Option.map_some,Option.getD_some] at hi;have hil:i<all.length:=by simpa using hir
   have hlt:i<listed.size:=by rw [hh.size];exact hil
   refine z8p hok hm hch hh (by simpa using ho) hnot ?_ fun a' w' hh'=>zxd hok hm hch hQ fuel _ a' w' ?_ hh'
   ·intro e he hb
    rw [Array.all_eq_true'] at hi;have:=hi e (by simpa using he)
    simpa [hb] using this
   ·have hlf:listed[i]=false:=by simpa [Array.getD,hlt] using hnot
    have key : ∀ (l:List Bool) (i:Nat) (h:i<l.length),l[i]=false→((l.set i true).filter (!·)).length+1=(l.filter (!·)).length:=by
     intro l;induction l with
     | nil=>intro i h;simp at h
     | cons x r ih=>
      intro i h hx;cases i with
      | zero=>simp at hx;subst hx;simp
      | succ i=>
       have:=ih i (by simpa using h) (by simpa using hx)
       simp only [List.set_cons_succ,List.filter_cons];split <;> simp [this]
    have:=key listed.toList i (by simpa using hlt) (by simpa using hlf)
    rw [Array.toList_setIfInBounds];omega
theorem zzl {id:Nat} (hmix:P.follows .mixedOrders=true) (hok:zb7 all=true) {Q:DE→St→Prop} (h:zp8 P all all st (Q .normal)):Triple P (.region id all.toArray true) Q st:=by
 intro X w0 β a w hm
 obtain ⟨ss,hch,hk⟩:=zp9 h
 refine wp_region_any hmix ?_
 have hm1:Mods X w0 st β a {w with drawn:=w.drawn+1}:=by
  have hb:Below w.heap.size w {w with drawn:=w.drawn+1}:=⟨⟨rfl,rfl,rfl,Nat.le_refl _,fun _ _=>rfl⟩,fun _=>Nat.le_succ _⟩
  have:=hm.put hb (dst:=none) (s:=.junk) (v:=undef) (by simp) (by simp [Sym.lo]) (by simp [Sm])
  simpa [St.put,Act.put] using this
 refine zxd hok hm1 hch (fun a w hm'=>⟨.normal,_,β,trivial,hk,hm'⟩) _ _ a _ ?_ ?_
 ·simp
 ·have hf : ∀ i,(Array.replicate all.toArray.size false).getD i true=true→¬ i<all.length:=by
   intro i h hi;simp [Array.getD,hi] at h
  refine ⟨by simp,hm1.defers,hm1.size,Below.refl _ _,?_,?_,fun _ _=>rfl⟩
  ·intro i o hi hl
   exact absurd (List.getElem?_eq_some_iff.1 hi).1 (hf i hl)
  ·intro i o t s hi hl
   exact absurd (List.getElem?_eq_some_iff.1 hi).1 (hf i hl)
end
end Go.V
namespace Go.V
variable [Dr] [Ov]
open Go.RowKit
def yeh (P:Program) (all r:List Oper) (K:St→Prop):St→Prop:=fun st=>dops P all r st K
def yfv (P:Program) (all r:List Oper) (dst:Option Tmp) (st:St) (K:St→Prop):Sym→Prop:=fun s=>zp8 P all r (st.put dst s) K
def yfw (P:Program) (all r:List Oper) (dst:Option Tmp) (st:St) (K:St→Prop):Sym→Prop:=z1h (guards all dst) fun s=>zp8 P all r (st.put dst s) K
def ygp:Op→Bool
 | .call c=>match c.callee with
  | .builtin .copy=>true
  | .builtin .append=>true
  | .builtin .clear=>true
  | _=>false
 | .store _ _ _=>true
 | .box _ _=>true
 | .alloc _=>true
 | .makeSlice _ _ _=>true
 | .makeMap _ _=>true
 | .range _ _=>true
 | .next _ _=>true
 | .mapUpdate _ _ _ _=>true
 | _=>false
def yei (o:Oper):Bool:=Nat.beq o.type 0&&(match o.op with
 | .call {callee:=.value _,args:=_,argTypes:=_}=>true
 | _=>false)
def z8q (ops:List Oper):Bool:=zb7 ops && !(ops.any fun o=>ygp o.op || yei o)
theorem yb7 {ops:List Oper} (h:z8q ops=true):zb7 ops=true:=by
 unfold z8q at h;rw [Bool.and_eq_true] at h;exact h.1
def ev (P:Program):Code→(DE→St→Prop)→St→Prop
 | .skip,Q,st=>Q .normal st
 | .region id ops draw,Q,st=>if draw=true then (if z8q ops.toList=true then zp8 P ops.toList ops.toList st (Q .normal) else Triple P (.region id ops true) Q st)
  else dops P ops.toList ops.toList st (Q .normal)
 | .seq x y,Q,st=>ev P x (zlv (fun st'=>ev P y Q st') Q) st
 | .cond c x y,Q,st=>match st.val c with
  | .d (.bool b)=>(b=true→ev P x Q st)∧(b=false→ev P y Q st)
  | _=>False
 | .block id c,Q,st=>ev P c (zbu id Q) st
 | .exit id,Q,st=>Q (.exit id) st
 | .ret,Q,st=>Q .ret st
 | .loop c,Q,st=>Triple P (.loop c) Q st
 | .scope c,Q,st=>ev P c Q st
 | .label _,Q,st=>Q .normal st
 | c,Q,st=>Triple P c Q st
def evK (P:Program) (y:Code) (Q:DE→St→Prop):DE→St→Prop:=zlv (fun st=>ev P y Q st) Q
def yb8 (Q:DE→St→Prop):St→Prop:=fun st=>Q .normal st
section
variable {P:Program} {X:Nat→Prop} {w0:Base} {st:St} {β:Nat→Value} {a:Act} {w w':World}
theorem zaq (hmix:P.follows .mixedOrders=true) : ∀ {c:Code} {Q:DE→St→Prop} {st:St},ev P c Q st→Triple P c Q st
 | .skip,Q,st,h=>zcs (c:=.skip) h
 | .region id ops draw,Q,st,h=>by
  simp only [ev] at h;split at h
  ·rename_i e;subst e
   split at h
   ·rename_i hok
    have:=zzl (id:=id) hmix (yb7 hok) h
    simpa using this
   ·exact h
  ·rename_i e
   have e:draw=false:=by simpa using e
   subst e;exact zcs (c:=.region id ops false) (by simpa [zp7] using h)
 | .seq x y,Q,st,h=>by
  simp only [ev] at h;intro X w0 β a w hm;refine wp_seq (wp_mono (zaq hmix h X w0 β a w hm) ?_)
  rintro e a' w' ⟨de,st',β',he,hq,hm'⟩
  cases e <;> cases de <;> simp only [exM] at he
  ·exact zaq hmix hq X w0 β' a' w' hm'
  ·subst he;exact ⟨.exit _,st',β',rfl,hq,hm'⟩
  ·exact ⟨.ret,st',β',trivial,hq,hm'⟩
 | .cond c x y,Q,st,h=>by
  simp only [ev] at h;intro X w0 β a w hm;split at h
  ·rename_i b hb
   have hv:=(hm.val c).2;rw [hb] at hv;simp only [Sm,R] at hv;refine wp_cond hv ?_
   cases b
   ·exact zaq hmix (h.2 rfl) X w0 β a w hm
   ·exact zaq hmix (h.1 rfl) X w0 β a w hm
  ·exact h.elim
 | .block id c,Q,st,h=>by
  simp only [ev] at h;intro X w0 β a w hm;refine wp_block (wp_mono (zaq hmix h X w0 β a w hm) ?_)
  rintro e a' w' ⟨de,st',β',he,hq,hm'⟩
  cases e <;> cases de <;> simp only [exM] at he
  ·exact ⟨.normal,st',β',trivial,hq,hm'⟩
  ·subst he
   simp only [zbu] at hq;simp only [Exit.inBlock];split
   ·rename_i e;rw [if_pos e] at hq;exact ⟨.normal,st',β',trivial,hq,hm'⟩
   ·rename_i e;rw [if_neg e] at hq;exact ⟨.exit _,st',β',rfl,hq,hm'⟩
  ·exact ⟨.ret,st',β',trivial,hq,hm'⟩
 | .exit id,Q,st,h=>zcs (c:=.exit id) h
 | .ret,Q,st,h=>zcs (c:=.ret) h
 | .loop c,Q,st,h=>h
 | .rangeFunc ..,Q,st,h=>h
 | .scope c,Q,st,h=>by
  simp only [ev] at h;intro X w0 β a w hm;refine wp_scope_straight (wp_mono (zaq hmix h X w0 β a w hm) ?_)
  rintro e a' w' ⟨de,st',β',he,hq,hm'⟩
  cases e <;> first | (cases de <;> exact he.elim) | exact ⟨de,st',β',he,hq,hm'⟩
 | .label l,Q,st,h=>fun X w0 β a w hm=>wp_label ⟨.normal,st,β,trivial,h,hm⟩
 | .goto ..,Q,st,h=>h
 | .refuse ..,Q,st,h=>h
theorem zaf (hmix:P.follows .mixedOrders=true) {α:Type} {c:Code} {Q:DE→St→Prop} (S:α→St) (inv:α→Prop) (μ:α→Nat) (x0:α) (h0:inv x0) (hw:Weak st (S x0))
  (hr : ∀ x,inv x→ev P c (afterLoop S inv μ x Q) (S x)):Triple P (.loop c) Q st:=by
 intro X w0 β a w hm
 let I:Nat→Act→World→Prop:=fun n a w=>∃ x β,inv x∧μ x=n∧Mods X w0 (S x) β a w
 have key : ∀ a w,(∃ n,I n a w)→∃ n,I n a w∧∀ m,I m a w→n≤m:=by
  intro a w ⟨n,hn⟩;induction n using Nat.strongRecOn with
  | _ n ih=>
   by_cases h : ∃ m,m<n∧I m a w
   ·obtain ⟨m,h1,h2⟩:=h;exact ih m h1 h2
   ·exact ⟨n,hn,fun m hm=>by rcases Nat.lt_or_ge m n with h' | h';exact absurd ⟨m,h',hm⟩ h;exact h'⟩
 classical
 let M:Act→World→Nat:=fun a w=>if h : ∃ n,I n a w then Classical.choose (key a w h) else 0
 refine wp_loop (fun a w=>∃ n,I n a w) M ⟨_,x0,β,h0,rfl,hm.weak hw⟩ ?_
 intro a w hI
 have hspec:=Classical.choose_spec (key a w hI)
 have hM:M a w=Classical.choose (key a w hI):=dif_pos hI
 rw [← hM] at hspec
 obtain ⟨⟨x,β',hx,hμ,hm'⟩,hmin⟩:=hspec
 refine wp_mono (zaq hmix (hr x hx) X w0 β' a w hm') ?_
 rintro e a' w' ⟨de,st',β'',he,hq,hm''⟩
 cases e <;> cases de <;> simp only [exM] at he
 ·obtain ⟨y,hy,hlt,hwk⟩:=hq
  have hI' : ∃ n,I n a' w':=⟨μ y,y,β'',hy,rfl,hm''.weak hwk⟩
  refine ⟨hI',?_⟩
  have hs':=Classical.choose_spec (key a' w' hI');have hM':M a' w'=Classical.choose (key a' w' hI'):=dif_pos hI'
  rw [← hM'] at hs';have:=hs'.2 (μ y) ⟨y,β'',hy,rfl,hm''.weak hwk⟩
  omega
 ·subst he;exact ⟨.exit _,st',β'',rfl,hq,hm''⟩
 ·exact ⟨.ret,st',β'',trivial,hq,hm''⟩
theorem zaa (hmix:P.follows .mixedOrders=true) {f:Nat} {fn:Func} {c:Code} (hf:P.funcs[f]?=some fn) (hb:fn.body=some c) (hcall:callable P f=true) {args:List D} {r:D}
  (h:ev P c (zw6 (zui P fn.results.toList r)) (zg3 fn.ntmps args)):zay P f args r:=by
 refine ⟨hcall,fun w E vs hE hr=>?_⟩
 refine calls_of_wp hf hb ?_
 refine wp_mono (zaq hmix h E (.of w) _ _ w (Mods.init hE hr)) ?_
 rintro e a' w' ⟨de,st',β',he,hq,hm'⟩
 cases e <;> cases de <;> simp only [exM] at he
 ·obtain ⟨v,h1,h2⟩:=zdz hm' hq
  exact ⟨hm'.defers,v,h1,v,rfl,hm'.below.below,h2⟩
 ·exact hq.elim
 ·obtain ⟨v,h1,h2⟩:=zdz hm' hq
  exact ⟨hm'.defers,v,h1,v,rfl,hm'.below.below,h2⟩
def resE (P:Program) (rs:List ResultVar) (Φ:D→Prop) (st:St):Prop:=∃ r,Φ r∧zui P rs r st
theorem za3 (hmix:P.follows .mixedOrders=true) {f:Nat} {fn:Func} {c:Code} (hf:P.funcs[f]?=some fn) (hb:fn.body=some c) (hcall:callable P f=true) {args:List D} {Φ:D→Prop}
  (h:ev P c (zw6 (resE P fn.results.toList Φ)) (zg3 fn.ntmps args)):zef P f args Φ:=by
 refine ⟨hcall,fun w E vs hE hr=>?_⟩
 refine calls_of_wp hf hb ?_
 refine wp_mono (zaq hmix h E (.of w) _ _ w (Mods.init hE hr)) ?_
 rintro e a' w' ⟨de,st',β',he,hq,hm'⟩
 cases e <;> cases de <;> simp only [exM] at he
 ·obtain ⟨r,hΦ,hq⟩:=hq
  obtain ⟨v,h1,h2⟩:=zdz hm' hq;exact ⟨hm'.defers,v,h1,v,r,rfl,hm'.below.below,hΦ,h2⟩
 ·exact hq.elim
 ·obtain ⟨r,hΦ,hq⟩:=hq
  obtain ⟨v,h1,h2⟩:=zdz hm' hq;exact ⟨hm'.defers,v,h1,v,r,rfl,hm'.below.below,hΦ,h2⟩
theorem zay.some {f:Nat} {args:List D} {r:D} (h:zay P f args r):zef P f args (fun x=>x=r):=
 ⟨h.1,fun w E vs hE hr=>(h.2 w E vs hE hr).mono fun e w' ⟨v,h1,h2,h3⟩=>⟨v,r,h1,h2,rfl,h3⟩⟩
theorem zef.mono {f:Nat} {args:List D} {Φ Ψ:D→Prop} (h:zef P f args Φ) (hi : ∀ r,Φ r→Ψ r):zef P f args Ψ:=
 ⟨h.1,fun w E vs hE hr=>(h.2 w E vs hE hr).mono fun e w' ⟨v,r,h1,h2,h3,h4⟩=>⟨v,r,h1,h2,hi r h3,h4⟩⟩
theorem zal.pure {f:Operand} {xs:List Operand} {dst:Option Tmp} {K:St→Prop} {g:Nat} {ds:List D} {lent:Bool} {r:D} (hl:zeu st f xs=some (g,ds,lent)) (hp:zay P g ds r)
  (hs:lent=true→r.scalar=true) (hk:K (st.put dst (.d r))):zal P st f xs dst K:=by
 unfold zal zny;left;rw [hl];exact .inl ⟨r,hp,fun e=>.inl (hs e),hk⟩
theorem zal.fresh {f:Operand} {xs:List Operand} {dst:Option Tmp} {K:St→Prop} {g:Nat} {ds:List D} {lent:Bool} {T sz:Nat} {rows:List (List D)} (hl:zeu st f xs=some (g,ds,lent)) (hp:yfr P g ds T sz rows)
  (hs:lent=true→D.scalars rows.flatten=true) (hk:K ((st.new (.arr T sz rows)).put dst (.ar st.next))):zal P st f xs dst K:=by
 unfold zal zny;left;rw [hl];exact .inr ⟨T,sz,rows,hp,hs,hk⟩
theorem zal.frozen {f:Operand} {xs:List Operand} {dst:Option Tmp} {K:St→Prop} (h:zny P (st.frzs (zfy (xs.map st.val))) f xs dst K):zal P st f xs dst K:=.inr (.inl h)
theorem zal.mut {f:Operand} {xs:List Operand} {dst:Option Tmp} {K:St→Prop} {g:Nat} {caps:List Sym} (ids:List Nat) (args0:List Sym) (own0:List (Nat×Obj')) {s:Sym} {nx:Nat} {own':List (Nat×Obj')} {mv:List Nat}
  (hc:zbi (st.val f)=some (g,caps)) (ha:rens (rho ids) args0=xs.map st.val++caps) (hl:Sym.los ids.length args0) (hf:Fits st ids own0) (hp:zcb P g args0 own0 ids.length s nx own' mv)
  (hk:K ((st.after ids nx own' mv).put dst (ren (rho' ids st.next) s))):zal P st f xs dst K:=.inr (.inr (.inl ⟨g,caps,ids,args0,own0,s,nx,own',mv,hc,ha,hl,hf,hp,hk⟩))
theorem zal.over {f:Operand} {xs:List Operand} {dst:Option Tmp} {K:St→Prop} (h:yb0 P st f xs dst K):zal P st f xs dst K:=.inr (.inr (.inr (.inl h)))
theorem zal.mutf {st':St} {f:Operand} {xs:List Operand} {dst:Option Tmp} {K:St→Prop} {g:Nat} {caps:List Sym} (fz:List Nat) (he:st.frzs fz=st') (ids:List Nat) (args0:List Sym) (own0:List (Nat×Obj')) {s:Sym} {nx:Nat} {own':List (Nat×Obj')} {mv:List Nat}
  (hc:zbi (st'.val f)=some (g,caps)) (ha:rens (rho ids) args0=xs.map st'.val++caps) (hl:Sym.los ids.length args0) (hf:Fits st' ids own0) (hp:zcb P g args0 own0 ids.length s nx own' mv)
  (hk:K ((st'.after ids nx own' mv).put dst (ren (rho' ids st'.next) s))):zal P st f xs dst K:=by
 subst he
 exact .inr (.inr (.inr (.inr (.inr ⟨fz,g,caps,ids,args0,own0,s,nx,own',mv,hc,ha,hl,hf,hp,hk⟩))))
theorem zal.some {f:Operand} {xs:List Operand} {dst:Option Tmp} {K:St→Prop} {g:Nat} {ds:List D} {lent:Bool} {Φ:D→Prop} (hl:zeu st f xs=some (g,ds,lent)) (hp:zef P g ds Φ)
  (hk : ∀ r,Φ r→(lent=true→r.scalar=true)∧K (st.put dst (.d r))):zal P st f xs dst K:=by
 refine .inr (.inr (.inr (.inr (.inl ?_))))
 unfold z1g;rw [hl];exact ⟨Φ,hp,hk⟩
end
section
variable {P:Program} {st:St} {Q:DE→St→Prop} {K:St→Prop} {all r:List Oper}
theorem yej:ev P .skip Q st=Q .normal st:=rfl
theorem z8r (id:Nat) (ops:List Oper):ev P (.region id ops.toArray false) Q st=dops P ops ops st (yb8 Q):=by simp [ev];rfl
theorem yek (id:Nat) (ops:List Oper) (h:z8q ops=true):ev P (.region id ops.toArray true) Q st=zp8 P ops ops st (yb8 Q):=by simp [ev,h];rfl
theorem yb9 (id:Nat) (ops:List Oper) (h:z8q ops=false):ev P (.region id ops.toArray true) Q st=Triple P (.region id ops.toArray true) Q st:=by simp [ev,h]
theorem yfx (x y:Code):ev P (.seq x y) Q st=ev P x (evK P y Q) st:=rfl
theorem yel (c:Operand) (x y:Code):ev P (.cond c x y) Q st=match st.val c with
  | .d (.bool b)=>(b=true→ev P x Q st)∧(b=false→ev P y Q st)
  | _=>False:=rfl
theorem yca (id:Nat) (c:Code):ev P (.block id c) Q st=ev P c (zbu id Q) st:=rfl
theorem yem (id:Nat):ev P (.exit id) Q st=Q (.exit id) st:=rfl
theorem yfy:ev P .ret Q st=Q .ret st:=rfl
theorem ycb (c:Code):ev P (.scope c) Q st=ev P c Q st:=rfl
theorem ycc (l:Nat):ev P (.label l) Q st=Q .normal st:=rfl
theorem yen (c:Code):ev P (.loop c) Q st=Triple P (.loop c) Q st:=rfl
theorem z4d (y:Code):evK P y Q .normal st=ev P y Q st:=rfl
theorem ycd (y:Code) (i:Nat):evK P y Q (.exit i) st=Q (.exit i) st:=rfl
theorem yeo (y:Code):evK P y Q .ret st=Q .ret st:=rfl
theorem z8s:yb8 Q st=Q .normal st:=rfl
theorem zm3 (i:Nat):zbu i Q .normal st=Q .normal st:=rfl
theorem zre (i:Nat):zbu i Q .ret st=Q .ret st:=rfl
theorem zqb (i j:Nat):zbu i Q (.exit j) st=if j=i then Q .normal st else Q (.exit j) st:=rfl
theorem zoc {α:Type} {S:α→St} {inv:α→Prop} {μ:α→Nat} {x:α}:afterLoop S inv μ x Q .normal st = ∃ y,inv y∧μ y<μ x∧Weak st (S y):=rfl
theorem zuj {α:Type} {S:α→St} {inv:α→Prop} {μ:α→Nat} {x:α}:afterLoop S inv μ x Q .ret st=Q .ret st:=rfl
theorem zrf {α:Type} {S:α→St} {inv:α→Prop} {μ:α→Nat} {x:α} (i:Nat):afterLoop S inv μ x Q (.exit i) st=Q (.exit i) st:=rfl
theorem ycf:dops P all [] st K=K st:=rfl
theorem z4e (dst:Option Tmp) (op:Op) (ty:Nat) (pos:String) (after:Array Edge) :
  dops P all (⟨dst,op,ty,pos,after,none⟩::r) st K=dop P ⟨dst,op,ty,pos,after,none⟩ st (yeh P all r K):=rfl
theorem z4f (dst:Option Tmp) (op:Op) (ty:Nat) (pos:String) (after:Array Edge) (j:Nat) (want:Bool) :
  dops P all (⟨dst,op,ty,pos,after,some (j,want)⟩::r) st K=match (all[j]?).bind (·.dst) with
   | some t=>match zab st.slots t with
    | some (.d (.bool b))=>(b=want→dop P ⟨dst,op,ty,pos,after,some (j,want)⟩ (st.put (some t) (.d (.bool want))) (yeh P all r K)) ∧
     (b = !want→dstB dst st.n=true∧dops P all r ((st.put (some t) (.d (.bool !want))).put dst (.d (.val undef))) K)
    | some (.d (.val v))=>v=undef∧dstB dst st.n=true∧dops P all r (st.put dst (.d (.val undef))) K
    | _=>False
   | none=>False:=rfl
theorem z8t:yeh P all r K st=dops P all r st K:=rfl
theorem ycg (dst:Option Tmp) (s:Sym):putK st dst K s=K (st.put dst s):=rfl
theorem z8u:zp8 P all [] st K=K st:=rfl
theorem z4g (o:Oper):zp8 P all (o::r) st K=(dstB o.dst st.n=true∧zkp P all o st (yfw P all r o.dst st K)):=rfl
theorem z8v (dst:Option Tmp) (s:Sym):yfw P all r dst st K s=splitB (guards all dst) s (yfv P all r dst st K):=rfl
theorem z8w (dst:Option Tmp) (s:Sym):yfv P all r dst st K s=zp8 P all r (st.put dst s) K:=rfl
end
attribute [simp] zhc ycb ycc yej z8r yek yb9 yfx yel yca yem yfy yen z4d ycd yeo z8s zm3 zre zqb zoc zuj zrf
attribute [simp] ycf z4e z4f z8t ycg z8u z4g z8v z8w splitB zkp opD yeg guards
attribute [simp] isNil z8a zpx resE zhi Value.oneCell' eCap zom zon zoo ybz zg1 St.opened
attribute [simp] dop sopB sop zw6 St.val St.put St.look St.new St.set zab aset ofConst dstB slen sbin zmn zmo zjc zki zie zkh zce znm zdq znl ze3 snil sun ze2 zgr zhd bnd elemSize zpm headD zq6 zlf allD unD
attribute [simp] zg3 zjl zy5 zui zss zw5 lend zid zt3 cellsD Weak z8j zko Sym.lo Sym.los Obj'.lo zbd eBox z7x eNil zlj zp0 zkl zc1 rowOf rowsOf inOrder yfn zfy St.frzs St.frz splice St.renew zca zb4 zbf zdx zem zns zzb
attribute [simp] z8d znn zbp zfj zif zn9 putD zwi zeroS zfw zol zgz
attribute [simp] zwv z8e zwt z8c zza rowLen
attribute [simp] thaw zmu zt8 zcw zcl resF
end Go.V
namespace Go.V
variable [Dr] [Ov]
open Go.RowKit
def zd0:Nat→List Sym→List (Nat×Sym)
 | _,[]=>[]
 | k,d::r=>(k,d)::zd0 (k+1) r
def initC (ntmps:Nat) (args:List Sym) (own:List (Nat×Obj')) (n:Nat):St:=
 {n:=args.length+(ntmps-args.length),next:=n,slots:=zd0 0 args,own:=own,base:=n,moved:=[]}
def ych (ti:TI) (l:List Sym):Option Sym:=
 if ti.agg=true then (if ti.size≤l.length then some (zlf (l.take ti.size)) else none) else l.head?
def znz (P:Program) (st:St):ResultVar→Option Sym
 | .tmp t=>zab st.slots t
 | .cell ad T=>match zab st.slots ad,TI.of P T with
  | some (.bp id off),some ti=>match st.look id with
   | some (.box _ cells)=>ych ti (cells.drop off)
   | _=>none
  | _,_=>none
def zhn (P:Program) (st:St):List ResultVar→Option (List Sym)
 | []=>some []
 | v::r=>match znz P st v,zhn P st r with
  | some s,some l=>some (s::l)
  | _,_=>none
def tupS:List Sym→Sym
 | [s]=>s
 | l=>.tup l
def resC (P:Program) (rs:List ResultVar) (n:Nat) (s:Sym) (nx:Nat) (own':List (Nat×Obj')) (mv:List Nat) (st:St):Prop:=
 (match zhn P st rs with | some l=>tupS l=s | none=>False)∧Sym.lo nx s∧Weak st {n:=st.n,next:=nx,slots:=[],own:=own',base:=n,moved:=mv}
theorem zl0 : ∀ {k t:Nat} {l:List Sym} {s:Sym},zab (zd0 k l) t=some s→∃ j,t=k+j∧l[j]?=some s
 | k,t,[],s,h=>by simp [zd0,zab] at h
 | k,t,d::r,s,h=>by
  simp only [zd0,zab] at h;split at h
  ·rename_i e;simp at h;exact ⟨0,by omega,by simp [h]⟩
  ·obtain ⟨j,h1,h2⟩:=zl0 h
   exact ⟨j+1,by omega,by simpa using h2⟩
theorem Sms.get2 {w:World} {E:Nat→Prop} {β:Nat→Value} : ∀ {l:List Sym} {vs:List Value} {j:Nat} {s:Sym},Sms w E β l vs→l[j]?=some s→∃ v,vs[j]?=some v∧Sm w E β s v
 | [],vs,j,s,h,hj=>by simp at hj
 | x::r,vs,0,s,h,hj=>by
  simp only [Sms] at h;obtain ⟨v,vs',rfl,h1,h2⟩:=h;simp at hj;subst hj;exact ⟨v,by simp,h1⟩
 | x::r,vs,j+1,s,h,hj=>by
  simp only [Sms] at h;obtain ⟨v,vs',rfl,h1,h2⟩:=h;obtain ⟨u,q1,q2⟩:=Sms.get2 h2 (by simpa using hj)
  exact ⟨u,by simpa using q1,q2⟩
theorem z8x {m:Nat} : ∀ {l:List Sym} {j:Nat} {s:Sym},Sym.los m l→l[j]?=some s→Sym.lo m s
 | [],j,s,h,hj=>by simp at hj
 | x::r,0,s,h,hj=>by simp only [Sym.los] at h;simp at hj;subst hj;exact h.1
 | x::r,j+1,s,h,hj=>by simp only [Sym.los] at h;exact z8x h.2 (by simpa using hj)
section
variable {P:Program} {X:Nat→Prop} {w0:Base} {st:St} {β:Nat→Value} {a:Act} {w w':World}
theorem Mods.initC {own:List (Nat×Obj')} {n:Nat} {args:List Sym} {vs:List Value} {ntmps:Nat} (hm:Mods X w0 (zde own n n []) β act0 w) (hs:Sms w (Ex X β own) β args vs) (hl:Sym.los n args) :
  Mods X w0 (initC ntmps args own n) β {tmps:=vs.toArray++Array.replicate (ntmps-vs.toArray.size) undef,defers:=[]} w:=by
 have hlen:=hs.length
 refine ⟨hm.outer,hm.still,hm.one,rfl,by simp [Go.V.initC,hlen],hm.below,hm.keys,hm.own,hm.apart,?_⟩
 intro t s ht
 obtain ⟨j,h1,h2⟩:=zl0 ht
 have e:t=j:=by omega
 subst e
 obtain ⟨v,hv,hsv⟩:=hs.get2 h2
 refine ⟨z8x hl h2,?_⟩
 have hlt:t<vs.length:=by
  rcases Nat.lt_or_ge t vs.length with h | h
  ·exact h
  ·simp [h] at hv
 have hg:(vs.toArray++Array.replicate (ntmps-vs.toArray.size) undef).getD t undef=v:=by
  rw [List.getElem?_eq_getElem hlt] at hv;simp at hv
  simp [Array.getElem?_append,hlt,hv]
 rw [hg];exact hsv
theorem zxe (hm:Mods X w0 st β a w) {v:ResultVar} {s:Sym} (h:znz P st v=some s) : ∃ u,(zly a.tmps v).run P w = .ok u w∧Sm w (Ex X β st.own) β s u:=by
 cases v with
 | tmp t=>
  simp only [znz] at h;exact ⟨_,rfl,(hm.slots t s h).2⟩
 | cell ad T=>
  simp only [znz] at h;split at h
  ·rename_i id off ti hs ht
   split at h
   ·rename_i T' cells hob
    obtain ⟨_,hlo,b,vs,hb,hbase,hh,hsm,h1⟩:=hm.obj hob;have hv:=(hm.slots ad _ hs).2;simp only [Sm] at hv;obtain ⟨b',hb',hv⟩:=hv;rw [hb] at hb';simp at hb';rw [← hb'] at hv;have hS:zq6 ti (cells.drop off) (fun x=>x=s):=by
     unfold ych at h;unfold zq6;split at h
     ·rename_i hag
      split at h
      ·rename_i hfit
       simp at h
       rw [if_pos hag];exact ⟨hfit,h⟩
      ·cases h
     ·rename_i hag
      rw [if_neg hag];cases hd:cells.drop off with
      | nil=>rw [hd] at h;cases h
      | cons x r=>rw [hd] at h;simp at h;exact h
    obtain ⟨s',u,rfl,_,h2,hr⟩:=zpr (P:=P) (m:=st.next) (b:=b) (off:=off) ht (Sms.drop off hsm) (fun u hu=>h1 u (List.mem_of_mem_drop hu)) (fun j u hj=>zli hh (by simpa [List.getElem?_drop] using hj)) (Sym.zlg off hlo) hS
    exact ⟨u,by simp only [zly,hv];simpa [asAddr,Instr.loadAt,Instr.sureAddr] using hr,h2⟩
   ·cases h
  ·cases h
theorem zho (hm:Mods X w0 st β a w) : ∀ {rs:List ResultVar} {l:List Sym},zhn P st rs=some l→∃ us:List Value,(rs.mapM (zly a.tmps)).run P w = .ok us w∧Sms w (Ex X β st.own) β l us
 | [],l,h=>by simp [zhn] at h;subst h;exact ⟨[],by simp,by simp [Sms]⟩
 | v::r,l,h=>by
  simp only [zhn] at h;split at h
  ·rename_i s l' h1 h2
   simp at h;subst h
   obtain ⟨u,e1,e2⟩:=zxe hm h1;obtain ⟨us,q1,q2⟩:=zho hm h2;refine ⟨u::us,?_,by simp only [Sms];exact ⟨u,us,rfl,e2,q2⟩⟩
   simp only [List.mapM_cons,Sem.run_bind,e1,Result.andThen_ok,q1];rfl
  ·cases h
theorem zjn (hm:Mods X w0 st β a w) {fn:Func} {n nx:Nat} {s:Sym} {own':List (Nat×Obj')} {mv:List Nat} (h:resC P fn.results.toList n s nx own' mv st) :
  ∃ v,(results fn a.tmps).run P w = .ok v w∧Mods X w0 (zde own' n nx mv) β act0 w∧Sym.lo nx s∧Sm w (Ex X β own') β s v:=by
 obtain ⟨h1,h2,h3⟩:=h
 have hm1:=hm.weak h3
 have hm':Mods X w0 (zde own' n nx mv) β act0 w:=⟨hm1.outer,hm1.still,hm1.one,rfl,rfl,hm1.below,hm1.keys,hm1.own,hm1.apart,by intro t s ht;simp [zde,zab] at ht⟩
 have hov:Over w (Ex X β st.own) w (Ex X β own'):=Over.less fun b hb=>hb.elim .inl fun ⟨i,x,hx,e⟩=>.inr ⟨i,x,zaw (zlw h3.2.2.2 hx).1,e⟩
 split at h1
 ·rename_i l hl
  obtain ⟨us,q1,q2⟩:=zho hm hl;have hr:=zhm fn a.tmps q1;refine ⟨_,hr,hm',h2,?_⟩
  refine zmv (id:=0) (rows:=.bool true) hov ?_
  subst h1;unfold tupS;split
  ·rename_i x
   simp only [Sms] at q2;obtain ⟨u,us',rfl,e,rfl⟩:=q2;simpa using e
  ·rename_i hne
   have hlen:us.length≠1:=by
    rw [q2.length];intro e;cases l with
    | nil=>simp at e
    | cons d r=>
     cases r with
     | nil=>exact hne d rfl
     | cons _ _=>simp at e
   simp only [hlen];simp only [Sm];exact ⟨us,rfl,q2⟩
 ·exact h1.elim
theorem zbg (hmix:P.follows .mixedOrders=true) {f:Nat} {fn:Func} {c:Code} (hf:P.funcs[f]?=some fn) (hb:fn.body=some c) (hcall:callable P f=true)
  {args:List Sym} {own:List (Nat×Obj')} {n:Nat} {s:Sym} {nx:Nat} {own':List (Nat×Obj')} {mv:List Nat} (hl:Sym.los n args)
  (h:ev P c (zw6 (resC P fn.results.toList n s nx own' mv)) (initC fn.ntmps args own n)):zcb P f args own n s nx own' mv:=by
 refine ⟨hcall,fun X w0 β w vs hβ hm hs=>?_⟩
 refine calls_of_wp hf hb ?_
 refine wp_mono (zaq hmix h X w0 _ _ w (hm.initC hs hl)) ?_
 rintro e a' w' ⟨de,st',β',he,hq,hm'⟩
 cases e <;> cases de <;> simp only [exM] at he
 ·obtain ⟨v,h1,h2,h3,h4⟩:=zjn hm' hq
  exact ⟨hm'.defers,v,h1,β',v,rfl,h2,h3,h4⟩
 ·exact hq.elim
 ·obtain ⟨v,h1,h2,h3,h4⟩:=zjn hm' hq
  exact ⟨hm'.defers,v,h1,β',v,rfl,h2,h3,h4⟩
def frzR (ids:List Nat) (Q:St→Prop):St→Prop:=fun st=>Q (st.frzs ids)
theorem zhy (hmix:P.follows .mixedOrders=true) {f:Nat} {fn:Func} {c:Code} (hf:P.funcs[f]?=some fn) (hb:fn.body=some c) (hcall:callable P f=true) {args:List D} {r:D} (ids:List Nat)
  (h:ev P c (zw6 (frzR ids (zui P fn.results.toList r))) (zg3 fn.ntmps args)):zay P f args r:=by
 refine ⟨hcall,fun w E vs hE hr=>?_⟩
 refine calls_of_wp hf hb ?_
 refine wp_mono (zaq hmix h E (.of w) _ _ w (Mods.init hE hr)) ?_
 rintro e a' w' ⟨de,st',β',he,hq,hm'⟩
 cases e <;> cases de <;> simp only [exM] at he
 ·obtain ⟨v,h1,h2⟩:=zdz (hm'.frzs (l:=ids)) hq
  exact ⟨hm'.defers,v,h1,v,rfl,hm'.below.below,h2⟩
 ·exact hq.elim
 ·obtain ⟨v,h1,h2⟩:=zdz (hm'.frzs (l:=ids)) hq
  exact ⟨hm'.defers,v,h1,v,rfl,hm'.below.below,h2⟩
end
theorem zah {P:Program} {look:Nat→Option Obj'} {c:Sym} {args:List Sym} {k:Sym→Prop} {f:Nat} {caps:List Sym} {ds:List D} {lent:Bool} {r:D} (hc:zbi c=some (f,caps)) (hl:zid look (args++caps)=some (ds,lent)) (hp:zay P f ds r)
  (hs:lent=true→r.scalar=true) (hk:k (.d r)):zn8 P look c args k:=by
 unfold zn8 zpn
 rw [hc]
 dsimp only
 rw [hl]
 exact ⟨r,hp,fun e=>.inl (hs e),hk⟩
attribute [simp] frzR initC zd0 resC znz zhn tupS ych St.after rho rho' zg0 zdb ren rens zcm zar zbt zbl za8 Fits zf0 zbi
end Go.V

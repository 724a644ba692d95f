/- A program logic of my own over the kit: part W2. It needs no conditions. -/
import Derived.Test.YtknekjalbninmaaGreatS1
import Derived.Recover
set_option linter.unusedVariables false
set_option linter.unusedSimpArgs false
set_option linter.unusedSectionVars false
namespace Go.V
variable [Dr] [Ov]
open Go.RowKit
section
variable {P:Program} {st:St} {Q:DE->St->Prop} {Qp:Value->St->Prop}
end
section
variable {P:Program} {X:Nat->Prop} {w0:Base} {st:St} {β:Nat->Value} {a:Act} {w w':World}
theorem yo1(H:Mods X w0 st β a w){f:Operand}{g:Nat}{caps:List Sym}(G:zbm (st.val f)=some (g,caps)):∃ vs:List Value,a.eval f = .func (.func g) #[] vs.toArray/\Sms w (Ex X β st.own) β caps vs:=by
 have F:=(H.val f).2
 cases E:st.val f <;> rw[E] at G F <;> simp only[zbm] at G
 case d x=>
  cases x <;> simp only[zbm] at G
  case fn f' l=>
   simp at G;obtain⟨rfl,rfl⟩:=G
   simp only[Sm,R] at F;obtain⟨vs,K,h2⟩:=F;exact⟨vs,K,Sms.zd1 h2⟩
  all_goals cases G
 case fn f' l=>
  simp at G;obtain⟨rfl,rfl⟩:=G
  simp only[Sm] at F;exact F
 all_goals cases G
theorem Mods.hold(H:Mods X w0 st β {a with defers:=w0.dfs} w)(ds:List Deferred)(G:a.defers=ds):
  Mods X {w0 with β0:=β,dfs:=ds} {st with base:=st.next,moved:=[]} β a w:=by
 refine⟨H.outer,⟨Nat.le_refl _,λ_ _ _=>rfl⟩,H.one,G,H.size,⟨H.below.os,H.below.tape,H.below.output,H.below.size,H.below.block,H.below.drawn⟩,H.keys,H.own,H.apart,H.slots⟩
end
def yng(P:Program)(g k:Nat):Prop:=callable P g=true/\∀ (vs:List Value) (w:World),vs.length=k->CallsD P g vs.toArray .returning w λe u' w'=>e = .returned (.tuple #[])/\u' = .returning/\Below w.heap.size w w'
theorem Mods.grow{P:Program}{X:Nat->Prop}{w0:Base}{st:St}{β:Nat->Value}{a:Act}{w w':World}(H:Mods X w0 st β a w)(G:Below w.heap.size w w'):Mods X w0 st β a w':=by
 have:=H.put G (dst:=none) (s:=.junk) (v:=undef) (by simp) (by simp[Sym.lo]) (by simp[Sm])
 exact this
theorem ycg{P:Program}{g:Nat}(G:callable P g=true)(vs:Array Value)(w:World):(invoke (.fn (.func g) vs) #[]).run P w = .ok (.enter g vs) w:=by
 unfold callable at G
 cases H:P.funcs[g]? with
 |none=>simp[H] at G
 |some fnn=>
  simp[H] at G;have e1:¬fnn.body=none:=by intro e;rw[e] at G;simp at G
  simp[invoke,callFunc,H,e1,G.1]
end Go.V
namespace Go.V
variable [Dr] [Ov]
open Go.RowKit
end Go.V
namespace Go.V
variable [Dr] [Ov]
open Go.RowKit
def xcut(Γ:XG)(call:Caller)(run:Runner)(draw:List Oper->XS->Option XS):Nat->Code->XS->Option (XS×Code)
 |0,c,xs=>some (xs,c)
 |n+1,.seq a b,xs=>match zek Γ call run draw a true xs,zbo a with
  |some (.normal,xs'),false=>xcut Γ call run draw n b xs'
  |_,_=>none
 |_+1,_,_=>none
def yhc(Γ:XG)(call:Caller):List Oper->XS->Option (Nat×Nat×XS)
 | [],_=>none
 |o::r,xs=>match o.guard with
  |some _=>none
  |none=>match r with
   | []=>match o.op with
    |.defer {callee:=.value f,args:=⟨[]⟩,argTypes:=_}=>match zbm (xs.val f) with
     |some (g,caps)=>zau (xdst o.dst xs.n) (some (g,caps.length,xs.put o.dst (.d (.val undef))))
     |none=>none
    |_=>none
   |_::_=>match zzf Γ call o xs with
    |some xs'=>yhc Γ call r xs'
    |none=>none
def ynh(Γ:XG)(call:Caller)(run:Runner)(draw:List Oper->XS->Option XS)(g0 n0 f k:Nat)(args:List D):Option D:=
 match Γ.fn f with
 |some (ntmps,c,rs)=>zau (Nat.blt args.length 4000) (match xcut Γ call run draw k c ⟨args.length+(ntmps-args.length),0,zvq 0 (args.map .d) .leaf,[],0,[]⟩ with
  |some (xs1,.seq (.region _ ⟨ops⟩ false) B)=>match yhc Γ call ops xs1 with
   |some (g,m,xs2)=>zau (Nat.beq g g0&&Nat.beq m n0 && !zbo B) (match zek Γ call run draw B true {xs2 with base:=xs2.next,moved:=[]} with
    |some (de,xs3)=>zau (ykn de&&Nat.beq xs3.base xs2.next) (match z6y Γ (xs3.frzs (ycl Γ xs3 rs)) rs with
     |some l=>match allD l with
      |some [d]=>some d
      |some ds=>some (.tup ds)
      |none=>none
     |none=>none)
    |none=>none)
   |none=>none
  |_=>none)
 |none=>none
section
variable {P:Program} {Γ:XG} {call:Caller} {run:Runner} {X:Nat->Prop} {w0:Base}
theorem z9l(J:XGood P Γ)(L:zbe P call)(M:zhp P run){draw:List Oper->XS->Option XS}(F:zf9 P draw){c:Code}{xs xs':XS}{e:DE}{st:St}(h:zek Γ call run draw c true xs=some (e,xs'))(O:zbo c=false)
  (E:Ag st xs) {β:Nat->Value} {a:Act} {w:World} (Q:Mods X w0 st β a w):c.wp P (λe' a' w'=>∃ st' β',exM e' e/\Ag st' xs'/\Mods X w0 st' β' a' w') a w:=by
 refine(wpIn_wide (n:=0)).1 (wpIn_mono (zfj (r:=none) J L M F (zp6 L) h E X w0 β a w [] 0 (.of Q) (λ_=>⟨rfl,rfl⟩)) ?_)
 rintro e' a' w' ⟨st',β',ms',T,G,K,H⟩
 have:=H (by simp[O])
 subst this
 exact⟨st',β',T,G,K.nil⟩
theorem yhd(K:XGood P Γ)(J:zbe P call)(L:zhp P run){draw:List Oper->XS->Option XS}(F:zf9 P draw){Q:Exit->Act->World->Prop}:∀ {n:Nat} {c c':Code} {xs xs':XS} {st:St} {β:Nat->Value} {a:Act} {w:World},
  xcut Γ call run draw n c xs=some (xs',c')->Ag st xs->Mods X w0 st β a w->(∀ st' β' a' w',Ag st' xs'->Mods X w0 st' β' a' w'->c'.wp P Q a' w')->c.wp P Q a w
 |0,c,c',xs,xs',st,β,a,w,h,H,M,O=>by
  simp only[xcut,Option.some.injEq,Prod.mk.injEq] at h;obtain⟨rfl,rfl⟩:=h;exact O st β a w H M
 |n+1,c,c',xs,xs',st,β,a,w,h,H,M,O=>by
  cases c with
  |seq x y=>
   simp only[xcut] at h;split at h
   .rename_i xs1 T h2
    refine wp_seq (wp_mono (z9l K J L F T h2 H M) ?_)
    rintro e' a' w' ⟨st',β',V,G,E⟩
    cases e' <;> simp only[exM] at V
    exact yhd K J L F h G E O
   .cases h
  |_=>simp[xcut] at h
theorem z9m(Q:XGood P Γ)(T:zbe P call){all:List Oper}{N:Exit->Act->World->Prop}{g m:Nat}{xs':XS}:∀ {l:List Oper} {xs:XS} {st:St} {β:Nat->Value} {a:Act} {w:World},yhc Γ call l xs=some (g,m,xs')->Ag st xs->Mods X w0 st β a w ->
  (∀ a' w' st' β' (vs:List Value),Ag st' xs'->Mods X w0 st' β' {a' with defers:=w0.dfs} w'->a'.defers = {target:=.fn (.func g) vs.toArray,args:=#[]}::w0.dfs->vs.length=m->N .normal a' w')->wpList P all.toArray N l a w
 | [],xs,st,β,a,w,h,H,V,Y=>by simp[yhc] at h
 |o::r,xs,st,β,a,w,h,H,V,Y=>by
  unfold yhc at h;split at h
  .cases h
  .rename_i K
   refine wpList_step λN' E=>?_
   simp only[Region.wanted,K,if_true];cases r with
   |nil=>
    simp only at h
    split at h
    .rename_i f ts Z
     split at h
     .rename_i g' caps G
      rw[zaf] at h;obtain⟨A,h⟩:=h;cases h;rw[<-H.val] at G;obtain⟨vs,J,L⟩:=yo1 V G;have F:(execOp a.eval o).run P w = .ok (.defer {target:=.fn (.func g) vs.toArray,args:=#[]}) w:=by
       simp[execOp,Z,resolve,J,Deferred.ofValue]
      have M:∀ t,o.dst=some t->t<st.n:=λt e=>by rw[H.n];exact(zgy A).1 t e
      unfold Oper.wp;rw[F];simp only[Oper.upon];refine E _ _ (wpList_nil (Y _ _ (st.put o.dst (.d (.val undef))) β vs (H.put A _) ?_ ?_ (by rw[L.length])))
      .have B:=V.za1 (dst:=o.dst) (s:=.d (.val undef)) (v:=undef) M (by simp[Sym.lo]) (by simp[Sm,R])
       have e:({({a with defers:={target:=.fn (.func g) vs.toArray,args:=#[]}::a.defers}:Act).put o.dst undef with defers:=w0.dfs}:Act)=a.put o.dst undef:=by
        have:=V.defers
        cases a;simp only at this
        subst this;cases o.dst <;> rfl
       rw[e];exact B
      .rw[<-V.defers];cases o.dst <;> rfl
     .cases h
    .cases h
   |cons o2 r2=>
    simp only at h
    split at h
    .rename_i xs1 B
     exact zi9 Q T H V B N' _ λa' w' st' β' C O=>E a' w' (z9m Q T h C O Y)
    .cases h
theorem z6p(hg:XGood P Γ)(hc:zbe P call)(hr:zhp P run){draw:List Oper->XS->Option XS}(C:zf9 P draw){g0 n0 f k:Nat}(hid:yng P g0 n0){args:List D}{r:D}(h:ynh Γ call run draw g0 n0 f k args=some r):zan P f args r:=by
 unfold ynh at h
 split at h
 case h_2=>cases h
 rename_i ntmps c rs H1
 obtain⟨H2,fn,hf,hb,I,H3⟩:=hg.fn H1
 rw[zaf,zbu] at h
 obtain⟨O,h⟩:=h
 split at h
 case h_2=>cases h
 rename_i xs1 id ops B Q
 split at h
 case h_2=>cases h
 rename_i g m xs2 T
 rw[zaf] at h
 simp only[Bool.and_eq_true,beq_iff,Bool.not_eq_true'] at h
 obtain⟨⟨⟨rfl,rfl⟩,H4⟩,h⟩:=h
 split at h
 case h_2=>cases h
 rename_i de xs3 hB
 rw[zaf] at h
 simp only[Bool.and_eq_true,beq_iff] at h
 obtain⟨⟨K,N⟩,h⟩:=h
 split at h
 case h_2=>cases h
 rename_i l V
 obtain⟨H5,J⟩:=hid
 refine⟨H2,λw E vs hE S=>?_⟩
 refine calls_of_wp_defers hf hb ?_
 have hm:Mods E (.of w) (zbt [] 0 0 []) (λ_=>.pointer none) act0 w:=
  ⟨⟨λb hb hmay=>hmay.elim (λh=>by have:w.heap.size<=b:=h;have:=hE.1 b hb;omega) (λh=>h),hE.2.over (Over.less λb h=>h.elim (λh=>h) False.elim)⟩,⟨Nat.le_refl _,λ_ _ _=>rfl⟩,λ_=>rfl,rfl,rfl,Kept.refl _,by simp[zbt],by simp[zbt],by simp[zbt],by intro t s ht;simp[zbt,zac] at ht⟩
 have H6:Over w E w (Ex E (λ_=>Value.pointer none) []):=Over.less λb hb=>hb.elim (λh=>h) λ⟨_,_,hx,_⟩=>by cases hx
 have Hi:vs.length=args.length:=S.length
 have L:(args.map Sym.d).length<4000:=by rw[List.length_map];exact O
 have M:=Ag.init (args.map Sym.d) [] 0 fn.ntmps L
 rw[List.length_map,I] at M
 have H7:Sms w (Ex E (λ_=>Value.pointer none) []) (λ_=>Value.pointer none) (args.map Sym.d) vs:=Sms.zd1 (za9.over H6 _ _ S)
 have W:=hm.initC (ntmps:=fn.ntmps) H7 (Sym.zwn 0 args)
 rw[I] at W ⊢
 refine yhd hg hc hr C Q M W ?_
 intro st1 β1 a1 w1 X H8
 refine wp_seq (wp_region_list ?_)
 refine z9m hg hc T X H8 ?_
 intro a2 w2 st2 β2 vs2 G H9 Ha Hb
 show B.wp P _ a2 w2
 have Hc:=H9.hold [{target:=.fn (.func g) vs2.toArray,args:=#[]}] Ha
 have Y:Ag {st2 with base:=st2.next,moved:=[]} {xs2 with base:=xs2.next,moved:=[]}:=⟨G.n,G.next,G.own,G.next,λ_ _ h=>(by simp at h),G.slots⟩
 refine wp_mono (z9l hg hc hr C hB H4 Y Hc) ?_
 rintro e a' w' ⟨st',β',he,Z,H0⟩
 have fin:Leaves P fn a'.tmps (λe w'=>∃ v,e = .returned v/\Below w.heap.size w w'/\R w' E r v) a'.defers .returning w':=by
  rw[H0.defers];refine leaves_cons (by simp) (ycg H5 _ _) ?_
  refine(J vs2 w' Hb).mono ?_
  rintro e2 u' w'' ⟨rfl,rfl,Hd⟩
  have H:=Mods.grow (P:=P) H0 Hd;have hk:Kept (.of w) w'':=⟨H.below.os,H.below.tape,H.below.output,H.below.size,H.below.block,H.below.drawn⟩
  have He:=H.frzs (l:=ycl Γ xs3 rs);have A:=Z.frzs (l:=ycl Γ xs3 rs);obtain⟨us,q1,q2⟩:=zf8 He (zza hg A V);rw[<-H3] at q1;have Hf:=zgv fn a'.tmps q1;have hR:R w'' E r (if h:us.length=1 then us[0] else .tuple us.toArray):=by
   have F:Over w'' (Ex E β' (st'.frzs (ycl Γ xs3 rs)).own) w'' E:=Over.less λb hb=>.inl hb
   split at h
   .rename_i d hd
    cases h;have hv:=zkw hd q2;simp only[za9] at hv;obtain⟨u,_,rfl,hu,rfl⟩:=hv;simpa using R.over F _ _ hu
   .rename_i ds Hg hd
    cases h;have hv:=zkw hd q2;have Hh:us.length≠1:=by
     rw[hv.length];intro e1;cases ds with
     |nil=>simp at e1
     |cons x y=>
      cases y with
      |nil=>exact Hg x rfl
      |cons _ _=>simp at e1
    simp only[Hh,dite_false];simp only[R];exact⟨us,rfl,za9.over F _ _ hv⟩
   .cases h
  exact⟨_,Hf,_,rfl,hk.below,hR⟩
 cases e <;> cases de <;> simp only[exM] at he <;> simp only[ykn] at K
 .exact fin
 .cases K
 .exact fin
end
end Go.V
namespace Go.V
variable [Dr] [Ov]
open Go.RowKit
def zor:List (Nat×Obj')->List Nat
 | []=>[]
 |(i,o)::r=>match o with
  |.arr _ _ _=>i::zor r
  |_=>zor r
def zre(Γ:XG)(call:Caller)(ops:List Oper)(xs:XS):Option XS:=orElse' (z3i Γ call ops xs) (z3i Γ call ops (xs.frzs (zor xs.own)))
section
variable {P:Program} {Γ:XG}
theorem zkq(H:P.follows .mixedOrders=true)(F:XGood P Γ){call:Caller}(E:zbe P call):zf9 P (zre Γ call):=by
 intro id ops xs xs' st G h
 rcases orElse_some h with h | h
 .exact zjb H F E id ops xs xs' st G h
 .have:=zjb H F E id ops (xs.frzs (zor xs.own)) xs' (st.frzs (zor xs.own)) G.frzs h
  exact λX w0 β a w hm=>this X w0 β a w hm.frzs
theorem zw5(H:P.follows .mixedOrders=true)(G:XGood P Γ)(k:Nat):zbe P (z3b Γ (zre Γ) k):=zuy G (λcall F=>zkq H G F) k
def xAll(Γ:XG)(k g0 n0 f j:Nat)(ds:List D):Option D:=match xenv Γ (zre Γ) k with
 |(call,run)=>ynh Γ call run (zre Γ call) g0 n0 f j ds
theorem ych(H:P.follows .mixedOrders=true)(G:XGood P Γ){k g0 n0 f j:Nat}(hid:yng P g0 n0){ds:List D}{r:D}(h:xAll Γ k g0 n0 f j ds=some r):zan P f ds r:=by
 obtain⟨F,h2⟩:=zp7 G (draw:=zre Γ) (λcall E=>zkq H G E) k
 unfold xAll at h
 exact z6p G F h2 (zkq H G F) hid h
end
def symD:Sym->Option D
 |.tup l=>match allD l with
  |some ds=>some (.tup ds)
  |none=>none
 |s=>unD s
def yci(r:XR):St:={n:=1,next:=r.nx,slots:=[(0,r.s)],own:=r.own,base:=0,moved:=r.mv}
def ylf(Γ:XG)(k f:Nat)(ds:List D):Option D:=match z3b Γ (zre Γ) k f (ds.map .d) [] 0 with
 |some r=>match zac ((yci r).frzs (zor r.own)).slots 0 with
  |some s=>symD s
  |none=>none
 |none=>none
theorem zkr{P:Program}{Γ:XG}(F:P.follows .mixedOrders=true)(Z:XGood P Γ){k f:Nat}{ds:List D}{d:D}(h:ylf Γ k f ds=some d):zan P f ds d:=by
 unfold ylf at h
 split at h
 .rename_i r A
  split at h
  .rename_i s hs
   have B:=zw5 F Z k _ _ _ _ _ A (Sym.zwn 0 ds);refine⟨B.1,λw E vs C J=>?_⟩
   have I:Mods E (.of w) (zbt [] 0 0 []) (λ_=>.pointer none) act0 w:=
    ⟨⟨λb N hmay=>hmay.elim (λh=>by have:w.heap.size<=b:=h;have:=C.1 b N;omega) (λh=>h),C.2.over (Over.less λb h=>h.elim (λh=>h) False.elim)⟩,⟨Nat.le_refl _,λ_ _ _=>rfl⟩,λ_=>rfl,rfl,rfl,Kept.refl _,by simp[zbt],by simp[zbt],by simp[zbt],by intro t s S;simp[zbt,zac] at S⟩
   have L:Over w E w (Ex E (λ_=>Value.pointer none) []):=Over.less λb N=>N.elim (λh=>h) λ⟨_,_,W,_⟩=>by cases W
   refine(B.2 E (.of w) _ w vs rfl I (Sms.zd1 (za9.over L _ _ J))).mono λe w' he=>?_
   obtain⟨β',v,rfl,H,M,O⟩:=he;have Q:Mods E (.of w) (yci r) β' {tmps:=#[v],defers:=[]} w':=by
    refine⟨H.outer,H.still,H.one,H.defers,rfl,H.below,H.keys,H.own,H.apart,?_⟩
    intro t s0 S;simp only[yci,zac] at S;split at S
    .rename_i e0
     subst e0;cases S;exact⟨M,by simpa[yci] using O⟩
    .cases S
   have T:=Q.frzs (l:=zor r.own);have V:=(T.slots 0 s hs).2;have K:Sm w' (Ex E β' ((yci r).frzs (zor r.own)).own) β' s v:=by simpa using V
   have G:Over w' (Ex E β' ((yci r).frzs (zor r.own)).own) w' E:=Over.less λb N=>.inl N
   refine⟨v,rfl,H.below.below,R.over G _ _ ?_⟩
   unfold symD at h;split at h
   .rename_i l
    split at h
    .rename_i xs X
     cases h;simp only[Sm] at K;obtain⟨us,rfl,Y⟩:=K;simp only[R];exact⟨us,rfl,zkw X Y⟩
    .cases h
   .exact zn2 h K
  .cases h
 .cases h
end Go.V

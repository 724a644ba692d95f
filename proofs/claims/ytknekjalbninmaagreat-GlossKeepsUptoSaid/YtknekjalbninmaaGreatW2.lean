/- A program logic of my own over the kit: part W2. It needs no conditions. -/
import Derived.Test.YtknekjalbninmaaGreatS1
import Derived.Recover
set_option linter.unusedVariables false
set_option linter.unusedSimpArgs false
set_option linter.unusedSectionVars false
namespace Go.V
variable [Dr] [Ov]
open Go.RowKit
section
variable {P:Program} {st:St} {Q:DE->St->Prop} {Qp:Value->St->Prop}
end
section
variable {P:Program} {X:Nat->Prop} {w0:Base} {st:St} {β:Nat->Value} {a:Act} {w w':World}
theorem zja(H:Mods X w0 st β a w){f:Operand}{g:Nat}{caps:List Sym}(G:yB (st.val f)=some (g,caps)):∃ vs:List Value,a.eval f = .func (.func g) #[] vs.toArray/\zb w (Ex X β st.own) β caps vs:=by
 have F:=(H.val f).2
 cases E:st.val f <;> rw[E] at G F <;> simp only[yB] at G
 case d x=>
  cases x <;> simp only[yB] at G
  case fn f' l=>
   simp at G;obtain⟨rfl,rfl⟩:=G
   simp only[Sm,R] at F;obtain⟨vs,K,h2⟩:=F;exact⟨vs,K,zb.vB h2⟩
  all_goals cases G
 case fn f' l=>
  simp at G;obtain⟨rfl,rfl⟩:=G
  simp only[Sm] at F;exact F
 all_goals cases G
theorem Mods.hold(H:Mods X w0 st β {a with defers:=w0.dfs} w)(ds:List Deferred)(G:a.defers=ds):
  Mods X {w0 with β0:=β,dfs:=ds} {st with base:=st.next,moved:=[]} β a w:=by
 refine⟨H.outer,⟨Nat.le_refl _,λ_ _ _=>rfl⟩,H.one,G,H.size,⟨H.below.os,H.below.tape,H.below.output,H.below.size,H.below.block,H.below.drawn⟩,H.keys,H.own,H.apart,H.slots⟩
end
def G8(P:Program)(g k:Nat):Prop:=callable P g=true/\∀ (vs:List Value) (w:World),vs.length=k->CallsD P g vs.toArray .returning w λe u' w'=>e = .returned (.tuple #[])/\u' = .returning/\Below w.heap.size w w'
theorem Mods.grow{P:Program}{X:Nat->Prop}{w0:Base}{st:St}{β:Nat->Value}{a:Act}{w w':World}(H:Mods X w0 st β a w)(G:Below w.heap.size w w'):Mods X w0 st β a w':=by
 have:=H.put G (dst:=none) (s:=.junk) (v:=undef) (by simp) (by simp[Sym.lo]) (by simp[Sm])
 exact this
theorem zea{P:Program}{g:Nat}(G:callable P g=true)(vs:Array Value)(w:World):(invoke (.fn (.func g) vs) #[]).run P w = .ok (.enter g vs) w:=by
 unfold callable at G
 cases H:P.funcs[g]? with
 |none=>simp[H] at G
 |some fnn=>
  simp[H] at G;have e1:¬fnn.body=none:=by intro e;rw[e] at G;simp at G
  simp[invoke,callFunc,H,e1,G.1]
end Go.V
namespace Go.V
variable [Dr] [Ov]
open Go.RowKit
end Go.V
namespace Go.V
variable [Dr] [Ov]
open Go.RowKit
def YI(Γ:XG)(call:Caller)(run:Runner)(draw:List Oper->XS->Option XS):Nat->Code->XS->Option (XS×Code)
 |0,c,xs=>some (xs,c)
 |n+1,.seq a b,xs=>match yN Γ call run draw a true xs,xj a with
  |some (.normal,xs'),false=>YI Γ call run draw n b xs'
  |_,_=>none
 |_+1,_,_=>none
def QK(Γ:XG)(call:Caller):List Oper->XS->Option (Nat×Nat×XS)
 | [],_=>none
 |o::r,xs=>match o.guard with
  |some _=>none
  |none=>match r with
   | []=>match o.op with
    |.defer {callee:=.value f,args:=⟨[]⟩,argTypes:=_}=>match yB (xs.val f) with
     |some (g,caps)=>zu (qS o.dst xs.n) (some (g,caps.length,xs.put o.dst (.d (.val undef))))
     |none=>none
    |_=>none
   |_::_=>match ux Γ call o xs with
    |some xs'=>QK Γ call r xs'
    |none=>none
def G9(Γ:XG)(call:Caller)(run:Runner)(draw:List Oper->XS->Option XS)(g0 n0 f k:Nat)(args:List D):Option D:=
 match Γ.fn f with
 |some (ntmps,c,rs)=>zu (Nat.blt args.length 4000) (match YI Γ call run draw k c ⟨args.length+(ntmps-args.length),0,kC 0 (args.map .d) .leaf,[],0,[]⟩ with
  |some (xs1,.seq (.region _ ⟨ops⟩ false) B)=>match QK Γ call ops xs1 with
   |some (g,m,xs2)=>zu (Nat.beq g g0&&Nat.beq m n0 && !xj B) (match yN Γ call run draw B true {xs2 with base:=xs2.next,moved:=[]} with
    |some (de,xs3)=>zu (JS de&&Nat.beq xs3.base xs2.next) (match ZH Γ (xs3.zH (YQ Γ xs3 rs)) rs with
     |some l=>match yM l with
      |some [d]=>some d
      |some ds=>some (.tup ds)
      |none=>none
     |none=>none)
    |none=>none)
   |none=>none
  |_=>none)
 |none=>none
section
variable {P:Program} {Γ:XG} {call:Caller} {run:Runner} {X:Nat->Prop} {w0:Base}
theorem MI(J:XGood P Γ)(L:yY P call)(M:kA P run){draw:List Oper->XS->Option XS}(F:uv P draw){c:Code}{xs xs':XS}{e:DE}{st:St}(h:yN Γ call run draw c true xs=some (e,xs'))(O:xj c=false)
  (E:Ag st xs) {β:Nat->Value} {a:Act} {w:World} (Q:Mods X w0 st β a w):c.wp P (λe' a' w'=>∃ st' β',zU e' e/\Ag st' xs'/\Mods X w0 st' β' a' w') a w:=by
 refine(wpIn_wide (n:=0)).1 (wpIn_mono (kB (r:=none) J L M F (Gp L) h E X w0 β a w [] 0 (.of Q) (λ_=>⟨rfl,rfl⟩)) ?_)
 rintro e' a' w' ⟨st',β',ms',T,G,K,H⟩
 have:=H (by simp[O])
 subst this
 exact⟨st',β',T,G,K.nil⟩
theorem MJ(K:XGood P Γ)(J:yY P call)(L:kA P run){draw:List Oper->XS->Option XS}(F:uv P draw){Q:Exit->Act->World->Prop}:∀ {n:Nat} {c c':Code} {xs xs':XS} {st:St} {β:Nat->Value} {a:Act} {w:World},
  YI Γ call run draw n c xs=some (xs',c')->Ag st xs->Mods X w0 st β a w->(∀ st' β' a' w',Ag st' xs'->Mods X w0 st' β' a' w'->c'.wp P Q a' w')->c.wp P Q a w
 |0,c,c',xs,xs',st,β,a,w,h,H,M,O=>by
  simp only[YI,Option.some.injEq,Prod.mk.injEq] at h;obtain⟨rfl,rfl⟩:=h;exact O st β a w H M
 |n+1,c,c',xs,xs',st,β,a,w,h,H,M,O=>by
  cases c with
  |seq x y=>
   simp only[YI] at h;split at h
   .rename_i xs1 T h2
    refine wp_seq (wp_mono (MI K J L F T h2 H M) ?_)
    rintro e' a' w' ⟨st',β',V,G,E⟩
    cases e' <;> simp only[zU] at V
    exact MJ K J L F h G E O
   .cases h
  |_=>simp[YI] at h
theorem MK(Q:XGood P Γ)(T:yY P call){all:List Oper}{N:Exit->Act->World->Prop}{g m:Nat}{xs':XS}:∀ {l:List Oper} {xs:XS} {st:St} {β:Nat->Value} {a:Act} {w:World},QK Γ call l xs=some (g,m,xs')->Ag st xs->Mods X w0 st β a w ->
  (∀ a' w' st' β' (vs:List Value),Ag st' xs'->Mods X w0 st' β' {a' with defers:=w0.dfs} w'->a'.defers = {target:=.fn (.func g) vs.toArray,args:=#[]}::w0.dfs->vs.length=m->N .normal a' w')->wpList P all.toArray N l a w
 | [],xs,st,β,a,w,h,H,V,Y=>by simp[QK] at h
 |o::r,xs,st,β,a,w,h,H,V,Y=>by
  unfold QK at h;split at h
  .cases h
  .rename_i K
   refine wpList_step λN' E=>?_
   simp only[Region.wanted,K,if_true];cases r with
   |nil=>
    simp only at h
    split at h
    .rename_i f ts Z
     split at h
     .rename_i g' caps G
      rw[zv] at h;obtain⟨A,h⟩:=h;cases h;rw[<-H.val] at G;obtain⟨vs,J,L⟩:=zja V G;have F:(execOp a.eval o).run P w = .ok (.defer {target:=.fn (.func g) vs.toArray,args:=#[]}) w:=by
       simp[execOp,Z,resolve,J,Deferred.ofValue]
      have M:∀ t,o.dst=some t->t<st.n:=λt e=>by rw[H.n];exact(wE A).1 t e
      unfold Oper.wp;rw[F];simp only[Oper.upon];refine E _ _ (wpList_nil (Y _ _ (st.put o.dst (.d (.val undef))) β vs (H.put A _) ?_ ?_ (by rw[L.length])))
      .have B:=V.yg (dst:=o.dst) (s:=.d (.val undef)) (v:=undef) M (by simp[Sym.lo]) (by simp[Sm,R])
       have e:({({a with defers:={target:=.fn (.func g) vs.toArray,args:=#[]}::a.defers}:Act).put o.dst undef with defers:=w0.dfs}:Act)=a.put o.dst undef:=by
        have:=V.defers
        cases a;simp only at this
        subst this;cases o.dst <;> rfl
       rw[e];exact B
      .rw[<-V.defers];cases o.dst <;> rfl
     .cases h
    .cases h
   |cons o2 r2=>
    simp only at h
    split at h
    .rename_i xs1 B
     exact JZ Q T H V B N' _ λa' w' st' β' C O=>E a' w' (MK Q T h C O Y)
    .cases h
theorem zc1(hg:XGood P Γ)(hc:yY P call)(hr:kA P run){draw:List Oper->XS->Option XS}(C:uv P draw){g0 n0 f k:Nat}(hid:G8 P g0 n0){args:List D}{r:D}(h:G9 Γ call run draw g0 n0 f k args=some r):zj P f args r:=by
 unfold G9 at h
 split at h
 case h_2=>cases h
 rename_i ntmps c rs H1
 obtain⟨H2,fn,hf,hb,I,Hb⟩:=hg.fn H1
 rw[zv,yQ] at h
 obtain⟨O,h⟩:=h
 split at h
 case h_2=>cases h
 rename_i xs1 id ops B Q
 split at h
 case h_2=>cases h
 rename_i g m xs2 T
 rw[zv] at h
 simp only[Bool.and_eq_true,beq_iff,Bool.not_eq_true'] at h
 obtain⟨⟨⟨rfl,rfl⟩,Hc⟩,h⟩:=h
 split at h
 case h_2=>cases h
 rename_i de xs3 hB
 rw[zv] at h
 simp only[Bool.and_eq_true,beq_iff] at h
 obtain⟨⟨K,N⟩,h⟩:=h
 split at h
 case h_2=>cases h
 rename_i l V
 obtain⟨Hd,J⟩:=hid
 refine⟨H2,λw E vs hE S=>?_⟩
 refine calls_of_wp_defers hf hb ?_
 have hm:Mods E (.of w) (zR [] 0 0 []) (λ_=>.pointer none) xx w:=
  ⟨⟨λb hb hmay=>hmay.elim (λh=>by have:w.heap.size<=b:=h;have:=hE.1 b hb;omega) (λh=>h),hE.2.over (Over.less λb h=>h.elim (λh=>h) False.elim)⟩,⟨Nat.le_refl _,λ_ _ _=>rfl⟩,λ_=>rfl,rfl,rfl,Kept.refl _,by simp[zR],by simp[zR],by simp[zR],by intro t s ht;simp[zR,za] at ht⟩
 have Hh:Over w E w (Ex E (λ_=>Value.pointer none) []):=Over.less λb hb=>hb.elim (λh=>h) λ⟨_,_,hx,_⟩=>by cases hx
 have F0:vs.length=args.length:=S.length
 have L:(args.map Sym.d).length<4000:=by rw[List.length_map];exact O
 have M:=Ag.init (args.map Sym.d) [] 0 fn.ntmps L
 rw[List.length_map,I] at M
 have Hi:zb w (Ex E (λ_=>Value.pointer none) []) (λ_=>Value.pointer none) (args.map Sym.d) vs:=zb.vB (zt.over Hh _ _ S)
 have W:=hm.initC (ntmps:=fn.ntmps) Hi (Sym.Yc 0 args)
 rw[I] at W ⊢
 refine MJ hg hc hr C Q M W ?_
 intro st1 β1 a1 w1 X Hp
 refine wp_seq (wp_region_list ?_)
 refine MK hg hc T X Hp ?_
 intro a2 w2 st2 β2 vs2 G Hs Hx Ga
 show B.wp P _ a2 w2
 have Gb:=Hs.hold [{target:=.fn (.func g) vs2.toArray,args:=#[]}] Hx
 have Y:Ag {st2 with base:=st2.next,moved:=[]} {xs2 with base:=xs2.next,moved:=[]}:=⟨G.n,G.next,G.own,G.next,λ_ _ h=>(by simp at h),G.slots⟩
 refine wp_mono (MI hg hc hr C hB Hc Y Gb) ?_
 rintro e a' w' ⟨st',β',he,Z,H0⟩
 have fin:Leaves P fn a'.tmps (λe w'=>∃ v,e = .returned v/\Below w.heap.size w w'/\R w' E r v) a'.defers .returning w':=by
  rw[H0.defers];refine leaves_cons (by simp) (zea Hd _ _) ?_
  refine(J vs2 w' Ga).mono ?_
  rintro e2 u' w'' ⟨rfl,rfl,Gc⟩
  have H:=Mods.grow (P:=P) H0 Gc;have hk:Kept (.of w) w'':=⟨H.below.os,H.below.tape,H.below.output,H.below.size,H.below.block,H.below.drawn⟩
  have Gd:=H.zH (l:=YQ Γ xs3 rs);have A:=Z.zH (l:=YQ Γ xs3 rs);obtain⟨us,q1,q2⟩:=Jo Gd (Gj hg A V);rw[<-Hb] at q1;have Gm:=Qm fn a'.tmps q1;have hR:R w'' E r (if h:us.length=1 then us[0] else .tuple us.toArray):=by
   have F:Over w'' (Ex E β' (st'.zH (YQ Γ xs3 rs)).own) w'' E:=Over.less λb hb=>.inl hb
   split at h
   .rename_i d hd
    cases h;have hv:=QR hd q2;simp only[zt] at hv;obtain⟨u,_,rfl,hu,rfl⟩:=hv;simpa using R.over F _ _ hu
   .rename_i ds Go hd
    cases h;have hv:=QR hd q2;have Gr:us.length≠1:=by
     rw[hv.length];intro e1;cases ds with
     |nil=>simp at e1
     |cons x y=>
      cases y with
      |nil=>exact Go x rfl
      |cons _ _=>simp at e1
    simp only[Gr,dite_false];simp only[R];exact⟨us,rfl,zt.over F _ _ hv⟩
   .cases h
  exact⟨_,Gm,_,rfl,hk.below,hR⟩
 cases e <;> cases de <;> simp only[zU] at he <;> simp only[JS] at K
 .exact fin
 .cases K
 .exact fin
end
end Go.V
namespace Go.V
variable [Dr] [Ov]
open Go.RowKit
def uq:List (Nat×Obj')->List Nat
 | []=>[]
 |(i,o)::r=>match o with
  |.arr _ _ _=>i::uq r
  |_=>uq r
def gI(Γ:XG)(call:Caller)(ops:List Oper)(xs:XS):Option XS:=orElse' (W6 Γ call ops xs) (W6 Γ call ops (xs.zH (uq xs.own)))
section
variable {P:Program} {Γ:XG}
theorem Ge(H:P.follows .mixedOrders=true)(F:XGood P Γ){call:Caller}(E:yY P call):uv P (gI Γ call):=by
 intro id ops xs xs' st G h
 rcases orElse_some h with h | h
 .exact NT H F E id ops xs xs' st G h
 .have:=NT H F E id ops (xs.zH (uq xs.own)) xs' (st.zH (uq xs.own)) G.zH h
  exact λX w0 β a w hm=>this X w0 β a w hm.zH
theorem ML(H:P.follows .mixedOrders=true)(G:XGood P Γ)(k:Nat):yY P (QQ Γ (gI Γ) k):=zc3 G (λcall F=>Ge H G F) k
def MM(Γ:XG)(k g0 n0 f j:Nat)(ds:List D):Option D:=match ZI Γ (gI Γ) k with
 |(call,run)=>G9 Γ call run (gI Γ call) g0 n0 f j ds
theorem zeb(H:P.follows .mixedOrders=true)(G:XGood P Γ){k g0 n0 f j:Nat}(hid:G8 P g0 n0){ds:List D}{r:D}(h:MM Γ k g0 n0 f j ds=some r):zj P f ds r:=by
 obtain⟨F,h2⟩:=Gq G (draw:=gI Γ) (λcall E=>Ge H G E) k
 unfold MM at h
 exact zc1 G F h2 (Ge H G F) hid h
end
def MN:Sym->Option D
 |.tup l=>match yM l with
  |some ds=>some (.tup ds)
  |none=>none
 |s=>kW s
def YJ(r:XR):St:={n:=1,next:=r.nx,slots:=[(0,r.s)],own:=r.own,base:=0,moved:=r.mv}
def MO(Γ:XG)(k f:Nat)(ds:List D):Option D:=match QQ Γ (gI Γ) k f (ds.map .d) [] 0 with
 |some r=>match za ((YJ r).zH (uq r.own)).slots 0 with
  |some s=>MN s
  |none=>none
 |none=>none
theorem Gf{P:Program}{Γ:XG}(F:P.follows .mixedOrders=true)(Z:XGood P Γ){k f:Nat}{ds:List D}{d:D}(h:MO Γ k f ds=some d):zj P f ds d:=by
 unfold MO at h
 split at h
 .rename_i r A
  split at h
  .rename_i s hs
   have B:=ML F Z k _ _ _ _ _ A (Sym.Yc 0 ds);refine⟨B.1,λw E vs C J=>?_⟩
   have I:Mods E (.of w) (zR [] 0 0 []) (λ_=>.pointer none) xx w:=
    ⟨⟨λb N hmay=>hmay.elim (λh=>by have:w.heap.size<=b:=h;have:=C.1 b N;omega) (λh=>h),C.2.over (Over.less λb h=>h.elim (λh=>h) False.elim)⟩,⟨Nat.le_refl _,λ_ _ _=>rfl⟩,λ_=>rfl,rfl,rfl,Kept.refl _,by simp[zR],by simp[zR],by simp[zR],by intro t s S;simp[zR,za] at S⟩
   have L:Over w E w (Ex E (λ_=>Value.pointer none) []):=Over.less λb N=>N.elim (λh=>h) λ⟨_,_,W,_⟩=>by cases W
   refine(B.2 E (.of w) _ w vs rfl I (zb.vB (zt.over L _ _ J))).mono λe w' he=>?_
   obtain⟨β',v,rfl,H,M,O⟩:=he;have Q:Mods E (.of w) (YJ r) β' {tmps:=#[v],defers:=[]} w':=by
    refine⟨H.outer,H.still,H.one,H.defers,rfl,H.below,H.keys,H.own,H.apart,?_⟩
    intro t s0 S;simp only[YJ,za] at S;split at S
    .rename_i e0
     subst e0;cases S;exact⟨M,by simpa[YJ] using O⟩
    .cases S
   have T:=Q.zH (l:=uq r.own);have V:=(T.slots 0 s hs).2;have K:Sm w' (Ex E β' ((YJ r).zH (uq r.own)).own) β' s v:=by simpa using V
   have G:Over w' (Ex E β' ((YJ r).zH (uq r.own)).own) w' E:=Over.less λb N=>.inl N
   refine⟨v,rfl,H.below.below,R.over G _ _ ?_⟩
   unfold MN at h;split at h
   .rename_i l
    split at h
    .rename_i xs X
     cases h;simp only[Sm] at K;obtain⟨us,rfl,Y⟩:=K;simp only[R];exact⟨us,rfl,QR X Y⟩
    .cases h
   .exact VM h K
  .cases h
 .cases h
end Go.V

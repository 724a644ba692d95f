/- A program logic of my own over the kit: part W1. It needs no conditions. -/
import Derived.Test.YtknekjalbninmaaGreatB1
set_option linter.unusedVariables false
set_option linter.unusedSimpArgs false
set_option linter.unusedSectionVars false
namespace Go.V
variable [Dr] [Ov]
open Go.RowKit
def zw0(P:Program)(all:List Oper)(m:Nat)(o:Oper):List Oper->St->(St->Prop)->Prop
 | [],st,K=>dop P o st K
 |x::r,st,K=>dstB x.dst st.n=true/\zmu P all x st (λs=>Sym.lo m s/\zw0 P all m o r (st.put x.dst s) K)
section
variable {P:Program} {X:Nat->Prop} {w0:Base} {st:St} {β:Nat->Value} {a:Act} {w w':World} {all:List Oper}
theorem zq9{m:Nat}{o:Oper}:∀ {l:List Oper} {st:St} {K:St->Prop},zw0 P all m o l st K->∃ ss,Chain P all l ss st/\(∀ s∈ss,Sym.lo m s)/\dop P o (puts l ss st) K
 | [],st,K,h=>⟨[],rfl,by simp,h⟩
 |x::r,st,K,h=>by
  simp only[zw0] at h;obtain⟨H,h⟩:=h;obtain⟨s,G,h2,F⟩:=zlh h;obtain⟨ss,q1,q2,q3⟩:=zq9 F;refine⟨s::ss,⟨s,ss,rfl,H,G,q1⟩,?_,q3⟩
  intro u E;rcases List.mem_cons.1 E with e | E
  .subst e;exact h2
  .exact q2 u E
theorem ygw(E:P.follows .mixedOrders=true){id:Nat}{pre:List Oper}{o:Oper}(V:zb7 (pre++[o])=true)(K:cutB (pre++[o]) pre.length=true)(hg:o.guard=none){Q:DE->St->Prop}
  (G:(st.own.map (·.1)).Nodup) (h:zw0 P (pre++[o]) st.next o pre st (Q .normal)):Triple P (.region id (pre++[o]).toArray true) Q st:=by
 refine zej E V ?_
 obtain⟨ss,Y,B,hd⟩:=zq9 h
 have J:=zeh Y
 have L:∀ i k,(Seg.kd ⟨pre++[o],0,pre.length,ss.map .val,st,λ_=>st.own⟩ i)=some k->∃ s,ss[i]?=some s/\k = .val s:=by
  intro i k hk;unfold Seg.kd at hk;split at hk
  .simp only[Nat.sub_zero,List.getElem?_map] at hk
   cases hs:ss[i]? with
   |none=>rw[hs] at hk;cases hk
   |some s=>rw[hs] at hk;simp at hk;exact⟨s,rfl,hk.symm⟩
  .cases hk
 have H:∀ t,¬(Seg.U ⟨pre++[o],0,pre.length,ss.map .val,st,λ_=>st.own⟩ t):=by
  rintro t ⟨i,ob,y,k,_,hk,_,hm⟩
  obtain⟨s,_,rfl⟩:=L i k hk;cases hm
 have M:∀ i id ob,Seg.kd ⟨pre++[o],0,pre.length,ss.map .val,st,λ_=>st.own⟩ i≠some (.bst id ob):=by
  intro i id ob hk;obtain⟨s,_,e⟩:=L i _ hk;cases e
 have F:∀ i,Seg.sti ⟨pre++[o],0,pre.length,ss.map .val,st,λ_=>st.own⟩ i=puts ((pre++[o]).take i) (ss.take i) st:=by
  intro i;unfold Seg.sti;have C:(ss.map FK.val).map FK.sym=ss:=by
   rw[List.map_map];have:(FK.sym∘FK.val)=λs=>s:=rfl
   rw[this,List.map_id']
  simp only[List.drop_zero,Nat.sub_zero];rw[C]
 have Z:∀ i,i<=pre.length->(pre++[o]).take i=pre.take i:=λi hi=>by rw[List.take_append_of_le_length hi]
 refine RegI.seg (pos:=0) (hi:=pre.length) (ss.map .val) (λ_=>st.own) [] st.own ?_ ?_ (.inl K) ?_
 .refine⟨V,⟨Nat.zero_le _,by simp,by simp[J]⟩,λt _ _ h=>absurd h (H t),λi t ob m h=>absurd ⟨i,ob,h⟩ (H t),λi j id ob ob' h=>absurd h (M i id ob),λ_ id ob h=>⟨h,λi ob hk=>absurd hk (M i id ob)⟩,?_⟩
  intro i y k hy hk;obtain⟨s,hs,rfl⟩:=L i k hk;have hi:i<pre.length:=by
   have:=(List.getElem?_eq_some_iff.1 hs).1
   omega
  have I:pre[i]?=some y:=by
   have:(pre++[o])[i]?=pre[i]?:=List.getElem?_append_left hi
   rw[<-this];exact hy
  obtain⟨s',A,S,W⟩:=zkm Y I;rw[hs] at A;cases A;refine⟨S,λt _=>H t,?_,B s (List.mem_of_getElem? hs)⟩
  show DStep P (pre++[o]) y (Seg.sti ⟨pre++[o],0,pre.length,ss.map .val,st,λ_=>st.own⟩ i) s
  rw[F,Z i (by omega)]
  exact W
 .refine⟨λt ob h=>by simp at h,by simp,rfl,λ_ id ob h=>.inr ⟨?_,λi ob=>M i id ob⟩⟩
  have O:∀ {l:List (Nat×Obj')},(l.map (·.1)).Nodup->(id,ob)∈l->zac l id=some ob:=by
   intro l;induction l with
   |nil=>intro _ h;cases h
   |cons x r ih=>
    intro hn h;obtain⟨k,u⟩:=x;simp only[List.map_cons,List.nodup_cons] at hn;simp only[zac];rcases List.mem_cons.1 h with e | h
    .cases e;simp
    .have H0:k≠id:=by intro e;subst e;exact hn.1 (List.mem_map.2 ⟨_,h,rfl⟩)
     rw[if_neg H0];exact ih hn.2 h
  exact O G h
 .have T:Seg.fin ⟨pre++[o],0,pre.length,ss.map .val,st,λ_=>st.own⟩ [] st.own=puts pre ss st:=by
   unfold Seg.fin;simp only[F,Z pre.length (Nat.le_refl _),List.take_length];have H1:ss.take pre.length=ss:=by rw[List.take_of_length_le (by omega)]
   obtain⟨p1,p2,p3,p4,p5⟩:=zg9 pre ss st;rw[H1];simp only[List.length_nil,Nat.add_zero,refF,numF,List.nil_append];cases hp:puts pre ss st with
   |mk n next slots own base moved=>
    rw[hp] at p1 p2 p3 p4 p5;simp only at p1 p2 p3 p4 p5
    subst p1;subst p2;subst p3;subst p4;subst p5;rfl
  rw[T];refine RegI.tot (Q .normal) (by simp) (.inr (by simp)) ?_ ?_
  .intro X w0 β a w hm N Q' hN
   unfold wpOp;have:(pre++[o]).toArray[pre.length]?=some o:=by simp
   rw[this];simp only[Region.wanted,hg,if_true];exact .inl (zc4 hm hd N _ λa' w' st' β' hk H2=>hN a' w' st' β' hk H2)
  .intro st' hK
   have:pre.length+1=(pre++[o]).length:=by simp
   rw[this];exact .done hK
end
attribute [simp] zw0
end Go.V
namespace Go.V
variable [Dr] [Ov]
open Go.RowKit
def trOf:List (Nat×Sym)->Tr
 | []=>.leaf
 |(t,s)::r=>(trOf r).put dep t s
def xsOf(st:St):XS:=⟨st.n,st.next,trOf st.slots,st.own,st.base,st.moved⟩
def yca(xs:XS):List Nat->List (Nat×Sym)
 | []=>[]
 |t::r=>match xs.get t with
  |some s=>(t,s)::yca xs r
  |none=>yca xs r
def stOf(ts:List Nat)(xs:XS):St:={n:=xs.n,next:=xs.next,slots:=yca xs ts,own:=xs.own,base:=xs.base,moved:=xs.moved}
def z2j(l:List (Nat×Sym)):Bool:=l.all λx=>Nat.blt (x.1+1) 4096
theorem z9i:∀ {l:List (Nat×Sym)} {u:Nat},z2j l=true->Tr.get dep (trOf l) u=zac l u
 | [],u,h=>Tr.zi6 dep u
 |(t,s)::r,u,h=>by
  simp only[z2j,List.all_cons,Bool.and_eq_true] at h;have H:t+1<4096:=by simpa using h.1
  simp only[trOf,zac];rw[Tr.get_put dep _ t s u (by simpa[dep] using H),z9i (l:=r) h.2]
theorem yox{st:St}(h:z2j st.slots=true):Ag st (xsOf st) where
 n:=rfl
 next:=rfl
 own:=rfl
 base:=rfl
 moved:=λ_ _ h=>h
 slots:=λt=>(z9i h).symm
theorem zuo{xs:XS}:∀ {l:List Nat} {t:Nat} {s:Sym},zac (yca xs l) t=some s->xs.get t=some s
 | [],t,s,h=>by simp[yca,zac] at h
 |u::r,t,s,h=>by
  simp only[yca] at h;split at h
  .rename_i s' hs
   simp only[zac] at h;split at h
   .rename_i e;subst e;rw[hs];exact h
   .exact zuo h
  .exact zuo h
section
variable {P:Program} {Γ:XG} {call:Caller}
theorem Mods.ofAg{X:Nat->Prop}{w0:Base}{st:St}{xs:XS}{β:Nat->Value}{a:Act}{w:World}(F:Mods X w0 st β a w)(H:Ag st xs)(ts:List Nat):Mods X w0 (stOf ts xs) β a w:=by
 have E:=H.n;have K:=H.next;have J:=H.base
 have G:=F.still
 refine⟨F.outer,⟨?_,?_⟩,F.one,F.defers,?_,F.below,?_,?_,?_,?_⟩
 .simp only[stOf];rw[<-J,<-K];exact G.1
 .intro i L h2
  simp only[stOf] at L h2;rw[<-J] at L;exact G.2 i L λh=>h2 (H.moved i L h)
 .simp only[stOf];rw[<-E];exact F.size
 .simp only[stOf];rw[<-H.own];exact F.keys
 .simp only[stOf];rw[<-H.own,<-K];exact F.own
 .simp only[stOf];rw[<-H.own];exact F.apart
 .intro t s M
  have:=zuo M
  rw[<-H.slots] at this;simp only[stOf];rw[<-H.own,<-K];exact F.slots t s this
def ylc(Γ:XG)(call:Caller)(ops:List Oper)(st:St)(ts:List Nat):Option St:=match z2j st.slots with
 |true=>(z3i Γ call ops (xsOf st)).map (stOf ts)
 |false=>none
theorem ym8:zbe P (λ_ _ _ _=>none):=by
 intro f args own n r h
 cases h
theorem yoy(H:P.follows .mixedOrders=true)(E:XGood P Γ)(K:zbe P call)(ts:List Nat){id:Nat}{ops:List Oper}{st st':St}{Q:DE->St->Prop}(h:ylc Γ call ops st ts=some st')(J:Q .normal st'):
  Triple P (.region id ops.toArray true) Q st:=by
 unfold ylc at h
 split at h
 .rename_i hs
  rw[Option.map_eq_some_iff] at h;obtain⟨xs',L,rfl⟩:=h;have M:=zjb H E K id ops _ _ st (yox hs) L;intro X w0 β a w O;refine wp_mono (M X w0 β a w O) ?_
  rintro e a' w' ⟨de,st1,β',T,⟨V,G⟩,F⟩
  subst V;exact⟨.normal,_,β',T,J,F.ofAg G ts⟩
 .cases h
end
end Go.V
namespace Go.V
variable [Dr] [Ov]
open Go.RowKit
def cutK(S:St)(Q:DE->St->Prop):DE->St->Prop
 |.normal,st=>Weak st S
 |e,st=>Q e st
def zij:Nat->Code->Code
 |0,_=>.skip
 |n+1,.seq a b=>.seq a (zij n b)
 |_+1,c=>c
def ygx:Nat->Code->Bool
 |0,_=>true
 |n+1,.seq _ b=>ygx n b
 |_+1,_=>false
def zik:Nat->Code->Code
 |0,c=>c
 |n+1,.seq _ b=>zik n b
 |_+1,_=>.skip
section
variable {P:Program} {st:St} {Q:DE->St->Prop}
theorem zfx{id:Nat}{c:Code}(h:Triple P c (zb9 id Q) st):Triple P (.block id c) Q st:=by
 intro X w0 β a w G
 refine wp_block (wp_mono (h X w0 β a w G) ?_)
 rintro e a' w' ⟨de,st',β',F,E,H⟩
 cases e <;> cases de <;> simp only[exM] at F
 .exact⟨.normal,st',β',trivial,E,H⟩
 .subst F
  simp only[zb9] at E;simp only[Exit.inBlock];split
  .rename_i e;rw[if_pos e] at E;exact⟨.normal,st',β',trivial,E,H⟩
  .rename_i e;rw[if_neg e] at E;exact⟨.exit _,st',β',rfl,E,H⟩
 .exact⟨.ret,st',β',trivial,E,H⟩
theorem zmx{x y:Code}(h:Triple P x (evK P y Q) st)(H:P.follows .mixedOrders=true):Triple P (.seq x y) Q st:=by
 intro X w0 β a w F
 refine wp_seq (wp_mono (h X w0 β a w F) ?_)
 rintro e a' w' ⟨de,st',β',E,K,G⟩
 cases e <;> cases de <;> simp only[exM] at E
 .exact zas H K X w0 β' a' w' G
 .subst E;exact⟨.exit _,st',β',rfl,K,G⟩
 .exact⟨.ret,st',β',trivial,K,G⟩
theorem zp1{x y:Code}(S:St)(h:Triple P x (cutK S Q) st)(h2:Triple P y Q S):Triple P (.seq x y) Q st:=by
 intro X w0 β a w G
 refine wp_seq (wp_mono (h X w0 β a w G) ?_)
 rintro e a' w' ⟨de,st',β',F,E,H⟩
 cases e <;> cases de <;> simp only[exM] at F
 .exact h2 X w0 β' a' w' (H.weak E)
 .subst F;exact⟨.exit _,st',β',rfl,E,H⟩
 .exact⟨.ret,st',β',trivial,E,H⟩
theorem zl5(H:P.follows .mixedOrders=true)(n:Nat){c:Code}(S:St)(hs:ygx n c=true):∀ {st:St},ev P (zij n c) (cutK S Q) st->Triple P (zik n c) Q S->Triple P c Q st:=by
 induction n generalizing c with
 |zero=>
  intro st h h2 X w0 β a w F;exact h2 X w0 β a w (F.weak h)
 |succ n ih=>
  intro st h h2;cases c <;> simp only[zij,zik,ygx,reduceCtorEq] at h h2 hs
  case seq x y=>
   intro X w0 β a w F;simp only[ev] at h;refine wp_seq (wp_mono (zas H h X w0 β a w F) ?_)
   rintro e a' w' ⟨de,st',β',E,K,G⟩
   cases e <;> cases de <;> simp only[exM] at E
   .exact ih hs K h2 X w0 β' a' w' G
   .subst E;exact⟨.exit _,st',β',rfl,K,G⟩
   .exact⟨.ret,st',β',trivial,K,G⟩
theorem wrap64{n:Int}(h : -9223372036854775808<=n/\n<=9223372036854775807):IntKind.i64.wrap n=n:=IntWalk.i64_in n (by omega)
theorem zax(J:P.follows .mixedOrders=true){α:Type}{c:Code}{Q:DE->St->Prop}(S:α->St)(inv:α->Prop)(μ:α->Nat)(x0:α)(Y:inv x0)(Z:Weak st (S x0))
  (A:∀ x,inv x->Triple P c (afterLoop S inv μ x Q) (S x)):Triple P (.loop c) Q st:=by
 intro X w0 β a w B
 let I:Nat->Act->World->Prop:=λn a w=>∃ x β,inv x/\μ x=n/\Mods X w0 (S x) β a w
 have key:∀ a w,(∃ n,I n a w)->∃ n,I n a w/\∀ m,I m a w->n<=m:=by
  intro a w ⟨n,C⟩;induction n using Nat.strongRecOn with
  |_ n ih=>
   by_cases h:∃ m,m<n/\I m a w
   .obtain⟨m,N,h2⟩:=h;exact ih m N h2
   .exact⟨n,C,λm B=>by rcases Nat.lt_or_ge m n with W | W;exact absurd ⟨m,W,B⟩ h;exact W⟩
 classical
 let M:Act->World->Nat:=λa w=>if h:∃ n,I n a w then Classical.choose (key a w h) else 0
 refine wp_loop (λa w=>∃ n,I n a w) M ⟨_,x0,β,Y,rfl,B.weak Z⟩ ?_
 intro a w hI
 have G:=Classical.choose_spec (key a w hI)
 have hM:M a w=Classical.choose (key a w hI):=dif_pos hI
 rw[<-hM] at G
 obtain⟨⟨x,β',hx,hμ,L⟩,O⟩:=G
 refine wp_mono (A x hx X w0 β' a w L) ?_
 rintro e a' w' ⟨de,st',β'',he,hq,H⟩
 cases e <;> cases de <;> simp only[exM] at he
 .obtain⟨y,hy,V,E⟩:=hq
  have F:∃ n,I n a' w':=⟨μ y,y,β'',hy,rfl,H.weak E⟩
  refine⟨F,?_⟩
  have K:=Classical.choose_spec (key a' w' F);have T:M a' w'=Classical.choose (key a' w' F):=dif_pos F
  rw[<-T] at K;have:=K.2 (μ y) ⟨y,β'',hy,rfl,H.weak E⟩
  omega
 .subst he;exact⟨.exit _,st',β'',rfl,hq,H⟩
 .exact⟨.ret,st',β'',trivial,hq,H⟩
theorem z6i{S:St}:cutK S Q .normal st=Weak st S:=rfl
theorem ygy{S:St}(i:Nat):cutK S Q (.exit i) st=Q (.exit i) st:=rfl
theorem yke{S:St}:cutK S Q .ret st=Q .ret st:=rfl
end
attribute [simp] z6i ygy yke zij zik
end Go.V
namespace Go.V
variable [Dr] [Ov]
open Go.RowKit
def z2k(P:Program)(all:List Oper)(m:Nat):List Oper->St->(St->Prop)->Prop
 | [],st,K=>K st
 |x::r,st,K=>dstB x.dst st.n=true/\zmu P all x st (λs=>Sym.lo m s/\z2k P all m r (st.put x.dst s) K)
section
variable {P:Program} {st:St} {all:List Oper}
theorem zra{m:Nat}:∀ {l:List Oper} {st:St} {K:St->Prop},z2k P all m l st K->∃ ss,Chain P all l ss st/\(∀ s∈ss,Sym.lo m s)/\K (puts l ss st)
 | [],st,K,h=>⟨[],rfl,by simp,h⟩
 |x::r,st,K,h=>by
  simp only[z2k] at h;obtain⟨H,h⟩:=h;obtain⟨s,G,h2,F⟩:=zlh h;obtain⟨ss,q1,q2,q3⟩:=zra F;refine⟨s::ss,⟨s,ss,rfl,H,G,q1⟩,?_,q3⟩
  intro u E;rcases List.mem_cons.1 E with e | E
  .subst e;exact h2
  .exact q2 u E
theorem zy5:∀ {l l':List Oper} {ss ss':List Sym} {st:St},ss.length=l.length->puts (l++l') (ss++ss') st=puts l' ss' (puts l ss st)
 | [],l',[],ss',st,_=>rfl
 |o::r,l',s::ss,ss',st,h=>by
  simp only[List.cons_append,puts];exact zy5 (by simpa using h)
theorem zup{α:Type}{id:Nat}{ob:α}:∀ {l:List (Nat×α)},(l.map (·.1)).Nodup->(id,ob)∈l->zac l id=some ob
 | [],_,h=>by cases h
 |(k,u)::r,G,h=>by
  simp only[List.map_cons,List.nodup_cons] at G;simp only[zac];rcases List.mem_cons.1 h with e | h
  .cases e;simp
  .have H:k≠id:=by intro e;subst e;exact G.1 (List.mem_map.2 ⟨_,h,rfl⟩)
   rw[if_neg H];exact zup G.2 h
theorem z9j(M:P.follows .mixedOrders=true){id:Nat}{all:List Oper}{t x:Tmp}{T aty sty:Nat}{aps sps:String}{aaf saf:Array Edge}{ti:TI}{Q:DE->St->Prop}
  (O:all=all.dropLast.dropLast++[(⟨some t,.alloc T,aty,aps,aaf,none⟩:Oper),⟨none,.store T (.tmp t) (.tmp x),sty,sps,saf,none⟩])
  (B:zb7 all=true) (C:TI.of P T=some ti) (V:ti.zero.all (·.oneCell')=true) (H5:ti.zero.length=ti.size) (H6:x≠t)
  (I:(all.dropLast.dropLast.all λo=>!(tmpsOf all o).contains t)=true) (N:dstB (some t) st.n=true)
  (h:z2k P all st.next all.dropLast.dropLast st (λst1=>∃ l,zbg (st1.val (.tmp x))=some l/\l.length=ti.size/\Sym.los st.next l/\st1.val (.tmp x)≠.junk /\
   Q .normal {st1 with next:=st.next+1,slots:=(t,.bp st.next 0)::(t,.junk)::st1.slots,own:=(st.next,.box T l)::st.own})) :
  Triple P (.region id all.toArray true) Q st:=by
 obtain⟨ss,W,H7,l,hl,H0,H8,H9,hQ⟩:=zra h
 have G:=zeh W
 generalize all.dropLast.dropLast=pre at *
 have H:=O.symm
 have H1:all.length=pre.length+2:=by rw[<-H];simp
 have g0:∀ i o,i<pre.length->all[i]?=some o->pre[i]?=some o:=by
  intro i o hi ho;rw[<-H,List.getElem?_append_left hi] at ho;exact ho
 have g1:all[pre.length]?=some ⟨some t,.alloc T,aty,aps,aaf,none⟩:=by rw[<-H];simp
 have g2:all[pre.length+1]?=some ⟨none,.store T (.tmp t) (.tmp x),sty,sps,saf,none⟩:=by rw[<-H];simp
 let ks:List FK:=ss.map .val++[.mk (.box T (ti.zero.map ofConst)),.sto t (.box T l)]
 have Ha:ks.length=pre.length+2:=by simp[ks];omega
 let S:Seg:=⟨all,0,all.length,ks,st,λ_=>st.own⟩
 have L:∀ i,S.kd i=if i<all.length then ks[i]? else none:=by
  intro i;simp only[Seg.kd,S];simp
 have k0:∀ i,i<pre.length->S.kd i=(ss[i]?).map .val:=by
  intro i hi;rw[L,if_pos (by omega)]
  simp only[ks];rw[List.getElem?_append_left (by simp;omega),List.getElem?_map]
 have k1:S.kd pre.length=some (.mk (.box T (ti.zero.map ofConst))):=by
  rw[L,if_pos (by omega)]
  simp only[ks];rw[List.getElem?_append_right (by simp;omega)]
  simp[G]
 have k2:S.kd (pre.length+1)=some (.sto t (.box T l)):=by
  rw[L,if_pos (by omega)]
  simp only[ks];rw[List.getElem?_append_right (by simp;omega)]
  simp[G]
 have three:∀ i k,S.kd i=some k->i<pre.length\/i=pre.length\/i=pre.length+1:=by
  intro i k hk;rw[L] at hk;split at hk
  .omega
  .cases hk
 have H2:∀ i u ob,S.co i u ob->i=pre.length/\u=t/\ob = .box T (ti.zero.map ofConst):=by
  rintro i u ob ⟨o,k,h1,h2,h3,h4⟩
  rcases three i k h2 with hi | rfl | rfl
  .rw[k0 i hi,Option.map_eq_some_iff] at h2
   obtain⟨s,_,rfl⟩:=h2;cases h4
  .rw[k1] at h2;cases h2
   have H3:all[pre.length]?=some o:=h1
   rw[g1] at H3;cases H3;cases h3;cases h4;exact⟨rfl,rfl,rfl⟩
  .rw[k2] at h2;cases h2;cases h4
 have E:S.co pre.length t (.box T (ti.zero.map ofConst)):=⟨_,_,g1,k1,rfl,rfl⟩
 have hU:∀ u,S.U u->u=t:=λu ⟨i,ob,hc⟩=>(H2 i u ob hc).2.1
 have F:∀ m,S.user t m->m=pre.length+1:=by
  rintro m ⟨o,k,h1,h2,h3⟩
  have h1:all[m]?=some o:=h1
  have h3:t∈tmpsOf all o:=h3
  rcases three m k h2 with hi | rfl | rfl
  .have:=List.all_eq_true.1 I o (List.mem_of_getElem? (g0 m o hi h1))
   simp at this
   exact absurd h3 this
  .rw[g1] at h1;cases h1
   simp[tmpsOf,Op.operands] at h3
  .rfl
 have nb:∀ i id' ob,S.kd i≠some (.bst id' ob):=by
  intro i id' ob hk;rcases three i _ hk with hi | rfl | rfl
  .rw[k0 i hi,Option.map_eq_some_iff] at hk
   obtain⟨s,_,e⟩:=hk;cases e
  .rw[k1] at hk;cases hk
  .rw[k2] at hk;cases hk
 have J:∀ i,i<=pre.length->S.sti i=puts (pre.take i) (ss.take i) st:=by
  intro i hi;simp only[Seg.sti,S,List.drop_zero,Nat.sub_zero];have e1:all.take i=pre.take i:=by rw[<-H,List.take_append_of_le_length hi]
  have e2:(ks.map FK.sym).take i=ss.take i:=by
   simp only[ks,List.map_append,List.map_map];have hf:(FK.sym∘FK.val)=λs=>s:=rfl
   rw[hf,List.map_id'];rw[List.take_append_of_le_length (by omega)]
  rw[e1,e2]
 have Hb:S.sti pre.length=puts pre ss st:=by
  rw[J _ (Nat.le_refl _),List.take_length,List.take_of_length_le (by omega)]
 have X:S.sti (pre.length+1)=(puts pre ss st).put (some t) .junk:=by
  simp only[Seg.sti,S,List.drop_zero,Nat.sub_zero];have e1:all.take (pre.length+1)=pre++[(⟨some t,.alloc T,aty,aps,aaf,none⟩:Oper)]:=by rw[<-H,List.take_append,List.take_of_length_le (by omega)];simp[Nat.add_sub_cancel_left]
  have e2:(ks.map FK.sym).take (pre.length+1)=ss++[.junk]:=by
   simp only[ks,List.map_append,List.map_map];have hf:(FK.sym∘FK.val)=λs=>s:=rfl
   rw[hf,List.map_id',List.take_append,List.take_of_length_le (by omega)];simp[G,FK.sym]
  rw[e1,e2,zy5 G.symm];rfl
 have Y:S.sti (pre.length+2)=(puts pre ss st).put (some t) .junk:=by
  simp only[Seg.sti,S,List.drop_zero,Nat.sub_zero];have e1:all.take (pre.length+2)=pre++[(⟨some t,.alloc T,aty,aps,aaf,none⟩:Oper),⟨none,.store T (.tmp t) (.tmp x),sty,sps,saf,none⟩]:=by rw[<-H,List.take_append,List.take_of_length_le (by omega)];simp[Nat.add_sub_cancel_left]
  have e2:(ks.map FK.sym).take (pre.length+2)=ss++[.junk,.junk]:=by
   simp only[ks,List.map_append,List.map_map];have hf:(FK.sym∘FK.val)=λs=>s:=rfl
   rw[hf,List.map_id',List.take_append,List.take_of_length_le (by omega)];simp[G,FK.sym]
  rw[e1,e2,zy5 G.symm];rfl
 refine zej M B ?_
 refine RegI.seg (pos:=0) (hi:=all.length) ks (λ_=>st.own) [(t,.box T l)] st.own ?_ ?_ (.inr rfl) ?_
 .refine⟨B,⟨Nat.zero_le _,Nat.le_refl _,by simp[Ha,H1]⟩,?_,?_,?_,?_,?_⟩
  .intro u m m' hu h1 h2
   have:=hU u hu;subst this
   rw[F m h1,F m' h2]
  .intro i u ob m hc hu
   obtain⟨rfl,rfl,rfl⟩:=H2 i u ob hc;rw[F m hu];omega
  .intro i j id' ob ob' h1 h2
   exact absurd h1 (nb i id' ob)
  .intro _ id' o ho
   refine⟨ho,λi ob hk=>absurd hk (nb i id' ob)⟩
  .intro i o k ho hk
   have ho:all[i]?=some o:=ho
   have hk:S.kd i=some k:=hk
   rcases three i k hk with hi | rfl | rfl
   .rw[k0 i hi,Option.map_eq_some_iff] at hk
    obtain⟨s,hs,rfl⟩:=hk;obtain⟨s',H4,Hc,Hd⟩:=zkm W (g0 i o hi ho);rw[hs] at H4;cases H4;refine⟨Hc,λu hu hUu=>?_,?_,H7 s (List.mem_of_getElem? hs)⟩
    .have:=hU u hUu;subst this
     have:=List.all_eq_true.1 I o (List.mem_of_getElem? (g0 i o hi ho))
     simp at this
     exact this hu
    .show DStep P all o (S.sti i) s
     rw[J i (by omega)];exact Hd
   .rw[k1] at hk;cases hk
    rw[g1] at ho;cases ho;refine⟨N,rfl,⟨t,rfl⟩,by intro u hu;simp[tmpsOf,Op.operands] at hu,?_,?_⟩
    .exact zh6 _ _
    .intro st' K Z hK
     simp only[dop,C];refine⟨by rw[Z.1];exact N,V,hK⟩
   .rw[k2] at hk;cases hk
    rw[g2] at ho;cases ho;refine⟨rfl,rfl,rfl,?_,by simp[tmpsOf,Op.operands],?_,trivial,_,⟨_,E⟩,trivial,?_⟩
    .intro u _ hu;exact hU u hu
    .exact H8
    .intro st' K id' Z hv He hK
     simp only[dop,C];have hx:st'.val (.tmp x)=(puts pre ss st).val (.tmp x):=by
      have hq:(S.sti (pre.length+1)).val (.tmp x)=(puts pre ss st).val (.tmp x):=by
       rw[X];simp[St.val,St.put,zac,Ne.symm H6]
      rw[<-hq];refine Z.2 _ (by simp[Op.operands]) ?_
      rw[hq];exact H9
     unfold zlz;rw[hv];simp only;rw[He];simp only;rw[hx,hl];simp only;refine⟨H0,by simp[H0,H5],?_⟩
     have:splice (ti.zero.map ofConst) 0 l=l:=by
      unfold splice;simp;omega
     rw[this];exact hK
 .refine⟨?_,by simp,rfl,λhn id' ob hm=>.inr ⟨zup hn hm,λi ob'=>?_⟩⟩
  .intro u ob hm
   simp at hm;obtain⟨rfl,rfl⟩:=hm
   exact⟨_,_,E,.inr ⟨pre.length+1,⟨_,_,g2,k2,by simp[tmpsOf,Op.operands]⟩,k2⟩⟩
  .exact(nb i id' ob')
 .have A:Seg.fin S [(t,.box T l)] st.own = {(puts pre ss st) with next:=st.next+1,slots:=(t,.bp st.next 0)::(t,.junk)::(puts pre ss st).slots,own:=(st.next,.box T l)::st.own}:=by
   unfold Seg.fin;have:S.hi=pre.length+2:=H1
   rw[this,Y];obtain⟨p1,p2,p3,p4,p5⟩:=zg9 pre ss st;cases hp:puts pre ss st with
   |mk n next slots own base moved=>
    rw[hp] at p1 p2 p3 p4 p5;simp only at p1 p2 p3 p4 p5
    subst p1;subst p2;subst p3;subst p4;subst p5;simp[refF,numF,ref,St.put,S]
  show RegI P all (Q .normal) all.length (Seg.fin S [(t,.box T l)] st.own)
  rw[A];exact .done hQ
theorem zuq{f:Operand}{xs:List Operand}{dst:Option Tmp}{K:St->Prop}{g:Nat}{ds:List D}{lent:Bool}{r:D}(H:zd8 (st.frzs (zf2 (xs.map st.val))) f xs=some (g,ds,lent))(G:zan P g ds r)
  (hs:lent=true->r.scalar=true) (F:K ((st.frzs (zf2 (xs.map st.val))).put dst (.d r))):zai P st f xs dst K:=by
 refine zai.frozen ?_
 unfold zl4;rw[H];exact .inl ⟨r,G,λe=>.inl (hs e),F⟩
end
attribute [simp] z2k
end Go.V
namespace Go.V
variable [Dr] [Ov]
open Go.RowKit
def fmkB:Op->Bool
 |.box _ _ |.alloc _ |.makeMap _ none |.buildSlice _ _ _ |.assign (.const (.slice none 0 0))=>true
 |_=>false
def fmk(P:Program)(n0:Nat)(ρ:Operand->Sym)(ty:Nat)(K:Obj'->Prop):Op->Prop
 |.box T x=>match zbg (ρ x) with
  |some l=>Sym.los n0 l/\K (.box T l)
  |none=>False
 |.alloc T=>match TI.of P T with
  |some ti=>ti.zero.all (·.oneCell')=true/\K (.box T (ti.zero.map ofConst))
  |none=>False
 |.makeMap t none=>K (.map t [])
 |.assign (.const (.slice none 0 0))=>match TI.of P ty with
  |some ⟨.slice e,_,_,_,_⟩=>match TI.of P e with
   |some te=>K (.arr e te.size [])
   |none=>False
  |_=>False
 |.buildSlice t n parts=>match TI.of P t with
  |some ⟨.slice e,_,_,_,_⟩=>match TI.of P e with
   |some te=>match inOrder 0 parts.toList with
    |some l=>match zf2 (l.map ρ),rowsOf te.size (l.map ρ) with
     | [],some rows=>l.length=n/\0<te.size/\n*te.size<=16777216/\K (.arr e te.size rows)
     |_,_=>False
    |none=>False
   |none=>False
  |_=>False
 |_=>False
def fsrc(hs:List (Nat×Obj'))(ρ:Operand->Sym)(x:Operand):Option (Option Nat×List (List D)):=
 match x with
 |.tmp k=>match zac hs k with
  |some (.arr _ _ rows)=>some (some k,rows)
  |some _=>none
  |none=>match ρ (.tmp k) with
   |.d (.sl l)=>some (none,l)
   |.nils=>some (none,[])
   |_=>none
 |x=>match ρ x with
  |.d (.sl l)=>some (none,l)
  |.nils=>some (none,[])
  |_=>none
def ym9(src:Option Nat)(hs:List (Nat×Obj')):List (Nat×Obj'):=match src with
 |some k=>hdrop k hs
 |none=>hs
def fapp(P:Program)(hs:List (Nat×Obj'))(ρ:Operand->Sym)(j:Nat)(x:Operand)(t t' d:Nat)(K:FK->List (Nat×Obj')->Prop):Prop:=
 match zac hs j,TI.of P t with
 |some (.arr T sz rows),some ⟨.slice e,_,_,_,_⟩=>match TI.of P e,fsrc hs ρ x with
  |some te,some (src,l)=>(t'=t/\0<te.size/\te.zero.length=te.size/\te.zero.all (·.oneCell')=true/\T=e/\sz=te.size/\(∀ r∈l,r.length=te.size)/\(rows.length+l.length)*te.bytes<=140737488355328 /\
    rows.length+l.length<=maxLen/\src≠some j)/\K (.app j src (.arr e te.size (rows++l))) ((d,.arr e te.size (rows++l))::hdrop j (ym9 src hs))
  |_,_=>False
 |_,_=>False
def fsto(P:Program)(n0:Nat)(hs:List (Nat×Obj'))(ρ:Operand->Sym)(t j:Nat)(x:Operand)(K:FK->List (Nat×Obj')->Prop):Prop:=
 match TI.of P t,zbg (ρ x),zac hs j with
 |some ti,some l,some (.box T cells)=>(l.length=ti.size/\Sym.los n0 l/\l.length<=cells.length)/\K (.sto j (.box T (splice cells 0 l))) ((j,.box T (splice cells 0 l))::hdrop j hs)
 |_,_,_=>False
def fval(P:Program)(all:List Oper)(n0:Nat)(o:Oper)(st:St)(hs:List (Nat×Obj'))(K:FK->List (Nat×Obj')->Prop):Prop:=
 zmu P all o st (λs=>Sym.lo n0 s/\K (.val s) hs)
def fop(P:Program)(all:List Oper)(n0:Nat)(vl:List Nat)(o:Oper)(st:St)(hs:List (Nat×Obj'))(K:FK->List (Nat×Obj')->Prop):Prop:=
 match o.op,o.guard,o.dst with
 |.call {callee:=.builtin .append,args:=xs,argTypes:=ts},none,some d=>match xs.toList,ts.toList with
  | [.tmp j,x],[t,t']=>fapp P hs st.val j x t t' d K
  |_,_=>False
 |.store t (.tmp j) x,none,none=>fsto P n0 hs st.val t j x K
 |op,none,some d=>if fmkB op=true/\vl.contains d=false then fmk P n0 st.val o.type (λob=>K (.mk ob) ((d,ob)::hs)) op else fval P all n0 o st hs K
 |_,_,_=>fval P all n0 o st hs K
def fseg(P:Program)(all:List Oper)(n0:Nat)(vl:List Nat)(K:St->List FK->List (Nat×Obj')->Prop):List Oper->St->List FK->List (Nat×Obj')->Prop
 | [],st,ks,hs=>K st ks hs
 |o::r,st,ks,hs=>xdst o.dst st.n=true/\fop P all n0 vl o st hs (λk hs'=>fseg P all n0 vl K r (st.put o.dst k.sym) (k::ks) hs')
def yoz(P:Program)(K:St->Prop):List Oper->St->Prop
 | [],st=>K st
 | [o],st=>o.guard=none/\dop P o st K
 |_,_=>False
def yld(all seg:List Oper)(ks:List FK):Bool:=ycp all seg ks 0 seg ks&&nodupB (zil ks)
section
variable {P:Program} {all:List Oper} {lo:Nat} {st0:St} {F F':XF} {i:Nat} {o:Oper}
theorem ygz{n n0:Nat}{ρ:Operand->Sym}{o:Oper}{K:Obj'->Prop}(E:dstB o.dst n=true)(h:fmk P n0 ρ o.type K o.op):
  ∃ ob,K ob/\ob.lo n0/\∀ (st:St) (K:St->Prop),zma n ρ o st->K ((st.new ob).put o.dst (ref ob st.next))->dop P o st K:=by
 unfold fmk at h
 split at h
 .rename_i T x J
  split at h
  .rename_i l L
   refine⟨_,h.2,h.1,λst K M O=>?_⟩
   have Q:=M.2 x (by rw[J];simp[Op.operands]) (by intro e;rw[e] at L;simp[zbg] at L)
   unfold dop;rw[J];simp only;refine⟨by rw[M.1];exact E,?_⟩
   unfold eBox;rw[Q,L];exact O
  .exact h.elim
 .rename_i T J
  split at h
  .rename_i ti ht
   refine⟨_,h.2,zm2 _ _,λst K M O=>?_⟩
   unfold dop;rw[J];simp only;rw[ht];exact⟨by rw[M.1];exact E,h.1,O⟩
  .exact h.elim
 .rename_i t J
  refine⟨_,h,trivial,λst K M O=>?_⟩
  unfold dop;rw[J];simp only;exact⟨by rw[M.1];exact E,O⟩
 .rename_i J
  split at h
  .rename_i e _ _ _ _ ht
   split at h
   .rename_i te hte
    refine⟨_,h,trivial,λst K M O=>?_⟩
    unfold dop;rw[J];simp only;rw[ht];simp only;rw[hte];exact⟨by rw[M.1];exact E,O⟩
   .exact h.elim
  .exact h.elim
 .rename_i t m parts J
  split at h
  .rename_i e _ _ _ _ ht
   split at h
   .rename_i te hte
    split at h
    .rename_i l L
     split at h
     .rename_i rows F H
      obtain⟨V,h2,X,Y⟩:=h;refine⟨_,Y,trivial,λst K M O=>?_⟩
      have G:l.map st.val=l.map ρ:=by
       refine List.map_congr_left λx Z=>M.2 x ?_ (zu7 H x Z)
       obtain⟨i,hi⟩:=zm3 L x Z;rw[J];simp only[Op.operands];simp;exact⟨i,by simpa using hi⟩
      unfold dop;rw[J];simp only;refine⟨by rw[M.1];exact E,?_⟩
      unfold zt2;rw[ht];simp only;rw[hte];simp only;rw[L];simp only;rw[G,F];refine⟨V,h2,X,?_⟩
      simp only[St.frzs];rw[G,H];exact O
     .exact h.elim
    .exact h.elim
   .exact h.elim
  .exact h.elim
 .exact h.elim
theorem yg0{hs:List (Nat×Obj')}{ρ:Operand->Sym}{x:Operand}{src:Option Nat}{l:List (List D)}(h:fsrc hs ρ x=some (src,l)):
  (∃ k T sz,x = .tmp k/\src=some k/\zac hs k=some (.arr T sz l))\/(src=none/\(ρ x = .d (.sl l)\/(ρ x = .nils/\l=[]))):=by
 unfold fsrc at h
 split at h
 .rename_i k
  split at h
  .rename_i T sz rows H;cases h;exact .inl ⟨k,T,sz,rfl,rfl,H⟩
  .cases h
  .split at h
   .rename_i l' G;cases h;exact .inr ⟨rfl,.inl G⟩
   .rename_i G;cases h;exact .inr ⟨rfl,.inr ⟨G,rfl⟩⟩
   .cases h
 .split at h
  .rename_i l' G;cases h;exact .inr ⟨rfl,.inl G⟩
  .rename_i G;cases h;exact .inr ⟨rfl,.inr ⟨G,rfl⟩⟩
  .cases h
theorem ycb{n n0:Nat}{hs:List (Nat×Obj')}{ρ:Operand->Sym}{o:Oper}{j t t' d:Nat}{x:Operand}{K:FK->List (Nat×Obj')->Prop}(O:dstB o.dst n=true)(Q:o.op = .call {callee:=.builtin .append,args:=#[.tmp j,x],argTypes:=#[t,t']})
  (h:fapp P hs ρ j x t t' d K):∃ src ob oj ok,K (.app j src ob) ((d,ob)::hdrop j (ym9 src hs))/\zjo ob/\ob.lo n0/\zac hs j=some oj/\zjo oj /\
   (∀ k,src=some k->x = .tmp k/\k≠j/\zac hs k=some ok/\zjo ok) /\
   ∀ (st:St) (K:St->Prop) (id:Nat),zma n ρ o st->st.val (.tmp j) = .ar id->st.look id=some oj->(∀ k,src=some k->∃ id',id'≠id/\st.val (.tmp k) = .ar id'/\st.look id'=some ok) ->
    K ((st.renew id ob).put o.dst (.ar id))->dop P o st K:=by
 unfold fapp at h
 split at h
 .rename_i T sz rows e _ _ _ _ V ht
  split at h
  .rename_i te src l E F
   obtain⟨⟨X,h2,Y,J,Z,A,B,C,I,N⟩,h⟩:=h;have key:∀ (st:St) (K:St->Prop) (id:Nat),zma n ρ o st->st.val (.tmp j) = .ar id->st.look id=some (.arr T sz rows)->zde st id (st.val x)=some l->K ((st.renew id (.arr e te.size (rows++l))).put o.dst (.ar id))->dop P o st K:=by
    intro st K id S W hl hs hK;unfold dop;rw[Q];simp only;refine⟨by rw[S.1];exact O,?_⟩
    refine .inl ?_
    unfold zmr;rw[ht];simp only;rw[E];simp only;refine⟨X,h2,Y,J,?_⟩
    rw[W];simp only;rw[hl,hs];simp only;exact⟨Z,A,B,C,I,hK⟩
   rcases yg0 F with⟨k,T',sz',rfl,rfl,S⟩ | ⟨rfl,W⟩
   .have L:k≠j:=λe=>N (by rw[e])
    refine⟨some k,_,.arr T sz rows,.arr T' sz' l,h,trivial,trivial,V,trivial,λk' e=>by cases e;exact⟨rfl,L,S,trivial⟩,λst K id H W hl hs hK=>?_⟩
    obtain⟨id',g1,g2,g3⟩:=hs k rfl;refine key st K id H W hl ?_ hK
    rw[g2];simp only[zde];rw[if_neg g1,g3]
   .refine⟨none,_,.arr T sz rows,.arr T sz rows,h,trivial,trivial,V,trivial,λk' e=>(by cases e),λst K id H M hl hs hK=>?_⟩
    refine key st K id H M hl ?_ hK
    have G:x∈o.op.operands:=by rw[Q];simp[Op.operands,Call.operands]
    rcases W with W | ⟨W,rfl⟩
    .rw[H.2 x G (by rw[W];simp),W];rfl
    .rw[H.2 x G (by rw[W];simp),W];rfl
  .exact h.elim
 .exact h.elim
theorem ycc{n n0:Nat}{hs:List (Nat×Obj')}{ρ:Operand->Sym}{o:Oper}{j t:Nat}{x:Operand}{K:FK->List (Nat×Obj')->Prop}(H:∀ k ob,zac hs k=some ob->ob.lo n0)(J:o.op = .store t (.tmp j) x)(L:o.dst=none)
  (h:fsto P n0 hs ρ t j x K) :
  ∃ ob oj,K (.sto j ob) ((j,ob)::hdrop j hs)/\zmw ob/\ob.lo n0/\zac hs j=some oj/\zmw oj /\
   ∀ (st:St) (K:St->Prop) (id:Nat),zma n ρ o st->st.val (.tmp j) = .bp id 0->st.look id=some oj->K {st with own:=aset id ob st.own}->dop P o st K:=by
 unfold fsto at h
 split at h
 .rename_i ti l T cells M O Q
  obtain⟨⟨V,h2,X⟩,h⟩:=h;have G:ρ x≠.junk:=by intro e;rw[e] at O;simp[zbg] at O
  have F:x∈o.op.operands:=by rw[J];simp[Op.operands]
  refine⟨_,.box T cells,h,trivial,zu8 (H j _ Q) h2,Q,trivial,λst K id Y Z E A=>?_⟩
  unfold dop;rw[J];simp only;rw[L,M];simp only;unfold zlz;rw[Z];simp only;rw[E];simp only;rw[Y.2 x F G,O];exact⟨V,by omega,A⟩
 .exact h.elim
theorem yg1(L:zb7 all=true){vl:List Nat}{own0:List (Nat×Obj')}{stF:St}(hI:FInv P all lo st0 own0 [] F i)(ho:all[i]?=some o)(V:Seg.sti ⟨all,lo,i,F.rks.reverse,st0,λ_=>own0⟩ i=stF)(hd:xdst o.dst st0.n=true){K:FK->List (Nat×Obj')->Prop}
  (h:fop P all st0.next vl o stF F.hs K):∃ k J,K k J/\FInv P all lo st0 own0 [] (F.push k o.dst J F.ow) (i+1):=by
 have C:dstB o.dst st0.n=true:=by
  have:=(zgy hd).1
  unfold dstB;split
  .rename_i t ht;simpa using this t ht
  .rfl
 have M:stF.val=F.xt.val:=by rw[<-V];exact hI.ag.val
 have O:=λk=>hI.ext (k:=k)
 have hv:fval P all st0.next o stF F.hs K->∃ k J,K k J/\FInv P all lo st0 own0 [] (F.push k o.dst J F.ow) (i+1):=by
  intro h;obtain⟨s,h1,h2,h3⟩:=zlh h;refine⟨.val s,F.hs,h3,hI.push L ho hd rfl ?_ (λt2 ob2 hm=>.inl ⟨hm,rfl⟩) hI.hsn (.inl ⟨rfl,λ_ _ e=>by cases e⟩)⟩
  refine⟨?_,h2⟩
  rw[List.reverse_cons,zou (by simpa using hI.len.1) hI.len.2.1 (Nat.le_refl _),V]
  exact h1
 have I:∀ d,o.guard=none->o.dst=some d->fmk P st0.next stF.val o.type (λob=>K (.mk ob) ((d,ob)::F.hs)) o.op->∃ k J,K k J/\FInv P all lo st0 own0 [] (F.push k o.dst J F.ow) (i+1):=by
  intro d Q H h;obtain⟨ob,hK,X,G⟩:=ygz (n:=st0.n) C h;refine⟨.mk ob,_,hK,hI.push L ho hd rfl ?_ ?_ ?_ (.inl ⟨rfl,λ_ _ e=>by cases e⟩)⟩
  .exact⟨Q,⟨d,H⟩,X,λst K hk=>G st K (by rw[M];exact hI.knows hk)⟩
  .intro t2 ob2 hm
   rcases List.mem_cons.1 hm with e | hm
   .cases e;exact .inr (.inl ⟨rfl,H⟩)
   .exact .inl ⟨hm,rfl⟩
  .simp only[List.map_cons,List.nodup_cons]
   exact⟨hI.fresh' L ho H λx hx=>hx,hI.hsn⟩
 unfold fop at h
 split at h
 .rename_i xs' ts d T Q H
  split at h
  .rename_i j x t t' hx ht
   have e1:xs' = #[.tmp j,x]:=by cases xs';simp at hx;rw[hx]
   have e2:ts = #[t,t']:=by cases ts;simp at ht;rw[ht]
   subst e1;subst e2;obtain⟨src,ob,oj,ok,hK,N,X,hj,B,E,G⟩:=ycb (n0:=st0.next) C T h;have Z:=za0 hj;have Y:∀ x,Operand.tmp x∈o.op.operands->x∈tmpsOf all o:=λx hx=>zcv hx
   refine⟨_,_,hK,hI.push L ho hd rfl ?_ ?_ ?_ (.inl ⟨rfl,λ_ _ e=>by cases e⟩)⟩
   .refine⟨Q,⟨d,H⟩,Y j (by rw[T];simp[Op.operands,Call.operands]),λk hk=>⟨(E k hk).2.1,Y k (by rw[T,(E k hk).1];simp[Op.operands,Call.operands])⟩,X,N,
     oj,ok,(O _).held (hI.hs j oj Z).1.held,B,λk hk=>⟨(O _).held (hI.hs k ok (za0 (E k hk).2.2.1)).1.held,(E k hk).2.2.2⟩,λst K id hk=>G st K id (by rw[M];exact hI.knows hk)⟩
   .intro t2 ob2 hm
    rcases List.mem_cons.1 hm with e | hm
    .cases e;exact .inr (.inl ⟨rfl,H⟩)
    .obtain⟨h1,h2⟩:=zcw hm
     left
     have A:Nat.beq j t2=false:=by cases hb:Nat.beq j t2 with | false=>rfl | true=>exact absurd (beq_iff.1 hb).symm h2
     cases src with
     |none=>exact⟨h1,by simp[takes,A]⟩
     |some k=>
      obtain⟨h3,h4⟩:=zcw h1;have S:Nat.beq k t2=false:=by cases hb:Nat.beq k t2 with | false=>rfl | true=>exact absurd (beq_iff.1 hb).symm h4
      exact⟨h3,by simp[takes,A,S]⟩
   .simp only[List.map_cons,List.nodup_cons]
    cases src with
    |none=>exact⟨hI.fresh' L ho H λx hx=>(zcw hx).1,zds hI.hsn⟩
    |some k=>exact⟨hI.fresh' L ho H λx hx=>(zcw (zcw hx).1).1,zds (zds hI.hsn)⟩
  .exact h.elim
 .rename_i t j x T Q H
  have W:∀ k ob,zac F.hs k=some ob->ob.lo st0.next:=λk ob hk=>(hI.hs k ob (za0 hk)).2.2
  have H0:j∈tmpsOf all o:=zcv (by rw[T];simp[Op.operands])
  obtain⟨ob,oj,hK,hb,X,hj,H1,G⟩:=ycc (n:=st0.n) W T H h;have Z:=za0 hj;refine⟨_,_,hK,hI.push L ho hd rfl ?_ ?_ ?_ (.inl ⟨rfl,λ_ _ e=>by cases e⟩)⟩
  .exact⟨Q,H,H0,X,hb,oj,(O _).held (hI.hs j oj Z).1.held,H1,λst K id hk=>G st K id (by rw[M];exact hI.knows hk)⟩
  .intro t2 ob2 hm
   rcases List.mem_cons.1 hm with e | hm
   .cases e;exact .inr (.inr ⟨rfl,oj,Z⟩)
   .obtain⟨h1,h2⟩:=zcw hm
    have A:Nat.beq j t2=false:=by cases hb:Nat.beq j t2 with | false=>rfl | true=>exact absurd (beq_iff.1 hb).symm h2
    exact .inl ⟨h1,by simp[takes,A]⟩
  .simp only[List.map_cons,List.nodup_cons]
   refine⟨λhm=>?_,zds hI.hsn⟩
   obtain⟨⟨t2,ob2⟩,h1,h2⟩:=List.mem_map.1 hm;exact(zcw h1).2 h2
 .rename_i Q H _
  split at h
  .exact I _ Q H h
  .exact hv h
 .exact hv h
theorem zw1(J:zb7 all=true){vl:List Nat}{own0:List (Nat×Obj')}{K:St->List FK->List (Nat×Obj')->Prop}:∀ {l:List Oper} {i:Nat} {F:XF} {stF:St},(all.drop i).take l.length=l->stF.n=st0.n->FInv P all lo st0 own0 [] F i ->
  Seg.sti ⟨all,lo,i,F.rks.reverse,st0,λ_=>own0⟩ i=stF->fseg P all st0.next vl K l stF F.rks F.hs->∃ F':XF,∃ st':St,FInv P all lo st0 own0 [] F' (i+l.length)/\Seg.sti ⟨all,lo,i+l.length,F'.rks.reverse,st0,λ_=>own0⟩ (i+l.length)=st'/\F'.ow=F.ow/\K st' F'.rks F'.hs
 | [],i,F,stF,Q,T,V,H,h=>⟨F,stF,V,H,rfl,h⟩
 |o::r,i,F,stF,Q,T,V,H,h=>by
  simp only[fseg] at h;obtain⟨X,h⟩:=h;rw[T] at X;have Y:all[i]?=some o:=by
   have:=congrArg (λl:List Oper=>l[0]?) Q
   simpa using this
  obtain⟨k,L,Z,M⟩:=yg1 J V Y H X h;have A:(all.drop (i+1)).take r.length=r:=by
   have:=congrArg List.tail Q
   rw[List.tail_cons] at this;rw[<-this];have X:all.drop i=o::all.drop (i+1):=by
    obtain⟨O,B⟩:=List.getElem?_eq_some_iff.1 Y;rw[List.drop_eq_getElem_cons O,B]
   rw[X];simp
  have E:∀ (s:Sym),(stF.put o.dst s).n=stF.n:=by intro s;unfold St.put;split <;> rfl
  have G:Seg.sti ⟨all,lo,i+1,(F.push k o.dst L F.ow).rks.reverse,st0,λ_=>own0⟩ (i+1)=stF.put o.dst k.sym:=by
   simp only[XF.push,List.reverse_cons];rw[z9z (by simpa using V.len.1) V.len.2.1 Y,H]
  obtain⟨F',st',q1,q2,q3,q4⟩:=zw1 J A ((E _).trans T) M G Z;have e:i+1+r.length=i+(o::r).length:=by simp;omega
  rw[e] at q1 q2;exact⟨F',st',q1,q2,q3,q4⟩
theorem yg2(L:P.follows .mixedOrders=true)(m:Nat)(vl:List Nat){id:Nat}{ops:List Oper}{st:St}{Q:DE->St->Prop}(M:zb7 ops=true)(hm:Nat.ble m ops.length=true)(E:(Nat.beq m ops.length || cutB ops m)=true)(C:z2j st.slots=true)
  (h:fseg P ops st.next vl (λstF rks hs=>yld ops (ops.take m) rks.reverse=true/\yoz P (Q .normal) (ops.drop m) {st with next:=st.next+hs.length,slots:=refF st.next hs++stF.slots,own:=numF st.next hs++st.own}) (ops.take m) st [] []) :
  Triple P (.region id ops.toArray true) Q st:=by
 rw[Nat.ble_eq] at hm
 refine zej L M ?_
 have Z:Ag st (xsOf st):=yox C
 obtain⟨A,K⟩:=z3l (P:=P) (all:=ops) Z (Nat.zero_le _) []
 have e0:(ze4 (xsOf st) []).xt.own=st.own:=rfl
 rw[e0] at A K
 have O:Seg.sti ⟨ops,0,0,(ze4 (xsOf st) []).rks.reverse,st,λ_=>st.own⟩ 0=st:=by
  unfold Seg.sti;simp[puts]
 have T:(ops.take m).length=m:=by rw[List.length_take];omega
 obtain⟨F,st',hI,J,I,H,G⟩:=zw1 (l:=ops.take m) M (by simp) rfl A O h
 rw[T,Nat.zero_add] at hI J
 have V:F.ow=st.own:=I
 have S:ycp ops ((ops.drop 0).take (m-0)) F.rks.reverse 0 ((ops.drop 0).take (m-0)) F.rks.reverse=true/\nodupB (zil F.rks.reverse)=true:=by
  unfold yld at H;rw[Bool.and_eq_true] at H;simpa using H
 obtain⟨g1,g2,g3⟩:=zrj (s0:=xsOf st) M hI K Z (xs':={(xsOf st) with next:=(xsOf st).next+F.hs.length,slots:=ycq F.xt (xsOf st).next F.hs,own:=numF (xsOf st).next F.hs++F.ow}) (by
  unfold zzo;simp only
  rw[zaf,Bool.and_eq_true];exact⟨S,rfl⟩)
 refine .seg (hi:=m) F.rks.reverse (λ_=>st.own) F.hs F.ow g1 g2 ?_ ?_
 .rw[Bool.or_eq_true,beq_iff] at E
  exact E.elim .inr .inl
 .have Y:Seg.fin ⟨ops,0,m,F.rks.reverse,st,λ_=>st.own⟩ F.hs F.ow = {st with next:=st.next+F.hs.length,slots:=refF st.next F.hs++st'.slots,own:=numF st.next F.hs++st.own}:=by
   unfold Seg.fin;rw[J,V]
  rw[Y];generalize ({st with next:=st.next+F.hs.length,slots:=refF st.next F.hs++st'.slots,own:=numF st.next F.hs++st.own}:St)=stE at G;cases hd:ops.drop m with
  |nil=>
   rw[hd] at G;have:m=ops.length:=by
    have:=congrArg List.length hd
    simp at this;omega
   rw[this];exact .done G
  |cons o r=>
   cases r with
   |cons _ _=>rw[hd] at G;exact G.elim
   |nil=>
    rw[hd] at G;obtain⟨hg,W⟩:=G;have B:m+1=ops.length:=by
     have:=congrArg List.length hd
     simp at this;omega
    have ho:ops[m]?=some o:=by
     have:=congrArg (λl:List Oper=>l[0]?) hd
     simpa using this
    refine RegI.tot (Q .normal) (by omega) (.inr B) ?_ ?_
    .intro X w0 β a w H0 N Q' hN
     unfold wpOp;have:ops.toArray[m]?=some o:=by simpa using ho
     rw[this];simp only[Region.wanted,hg,if_true];exact .inl (zc4 H0 W N _ λa' w' st' β' hk H1=>hN a' w' st' β' hk H1)
    .intro st' hK
     rw[B];exact .done hK
theorem zp2{c:Code}{Q:DE->St->Prop}{st:St}(ids:List Nat)(h:Triple P c Q (st.frzs ids)):Triple P c Q st:=λX w0 β a w hm=>h X w0 β a w (hm.frzs (l:=ids))
end
attribute [simp] fmkB fmk fsrc ym9 fapp fsto fval fop fseg yoz refF numF ref hdrop xdst FK.sym FK.made
end Go.V
namespace Go.V
variable [Dr] [Ov]
open Go.RowKit
def yo0(P:Program)(st:St)(t:Nat)(ad x:Sym)(K:Nat->Obj'->Prop):Prop:=
 match TI.of P t,ad with
 |some ti,.ap id sz i off=>match st.look id with
  |some (.arr T sz' rows)=>match zbg x with
   |some l=>match allD l with
    |some ds=>(sz=sz'/\i<rows.length/\ds.length=ti.size/\off+ds.length<=(rows.getD i []).length)/\K id (.arr T sz (rows.set i (splice (rows.getD i []) off ds)))
    |none=>False
   |none=>False
  |_=>False
 |_,_=>False
def hid(st:St)(b:Bool):St:={st with own:=if b=true then st.own else []}
def frd(P:Program)(all:List Oper)(n0:Nat)(dp:Nat->Bool):Nat->List Oper->St->List Sym->(St->List Sym->Prop)->Prop
 |_,[],st,ss,K=>K st ss
 |i,o::r,st,ss,K=>dstB o.dst st.n=true/\zmu P all o (hid st (dp i)) (λs=>Sym.lo n0 s/\frd P all n0 dp (i+1) r (st.put o.dst s) (s::ss) K)
def z2l(P:Program)(K:St->Prop):List Oper->St->Prop
 | [],st=>K st
 |o::r,st=>o.guard=none/\dop P o st (λst'=>z2l P K r st')
def yna(all:List Oper)(k:Nat):Bool:=(List.range all.length).all λi=>Nat.ble i k || cutB all i
section
variable {P:Program} {all:List Oper} {st:St}
theorem zi5{K:St->Prop}:∀ {r:List Oper} {k:Nat} {st:St},k<=all.length->all.drop k=r->(∀ i,k<i->i<all.length->cutB all i=true)->z2l P K r st->RegI P all K k st
 | [],k,st,H,J,L,h=>by
  have:k=all.length:=by
   have:=congrArg List.length J
   simp at this;omega
  subst this;exact .done h
 |o::r,k,st,H,J,L,h=>by
  obtain⟨M,G⟩:=h;have O:k<all.length:=by
   have:=congrArg List.length J
   simp at this;omega
  have Q:all[k]?=some o:=by
   have:=congrArg (λl:List Oper=>l[0]?) J
   simpa using this
  have T:all.drop (k+1)=r:=by
   have:=congrArg List.tail J
   simpa using this
  refine RegI.tot (λst'=>z2l P K r st') O ?_ ?_ λst' h'=>zi5 O T (λi V h2=>L i (by omega) h2) h'
  .rcases Nat.eq_or_lt_of_le (show k+1<=all.length from O) with e | e
   .exact .inr e
   .exact .inl (L (k+1) (by omega) e)
  .intro X w0 β a w F N Q' hN
   unfold wpOp;have:all.toArray[k]?=some o:=by simpa using Q
   rw[this];simp only[Region.wanted,M,if_true];exact .inl (zc4 F G N _ λa' w' st' β' O E=>hN a' w' st' β' O E)
theorem z9k(b:Bool):∀ (l:List Oper) (ss:List Sym) (st:St),puts l ss (hid st b)=hid (puts l ss st) b
 | [],ss,st=>by simp[puts]
 |o::r,[],st=>by simp[puts]
 |o::r,s::ss,st=>by
  have:(hid st b).put o.dst s=hid (st.put o.dst s) b:=by
   unfold hid St.put;cases o.dst <;> rfl
  simp only[puts];rw[this,z9k b r ss]
end
attribute [simp] yo0 frd z2l hid
end Go.V
namespace Go.V
variable [Dr] [Ov]
open Go.RowKit
section
variable {P:Program} {f:Nat} {args:List D} {r:D} {st:St} {K:St->Prop}
theorem zvf.toR(h:zvf P f args r):zan P f args r:=
 ⟨h.1,λw E vs H G=>(h.2 w E vs H G).mono λ_ w' ⟨v,F,K,J⟩=>⟨v,F,K,J.over (Over.less λ_ K=>.inl K) _ _⟩⟩
theorem zhn{T sz:Nat}{rows:List (List D)}(h:zua P f args T sz rows)(hs:D.scalars rows.flatten=true):zvf P f args (.sl rows):=by
 obtain⟨F,K,J⟩:=h
 refine⟨F,λw E vs L M=>(J w E vs L M).mono λ_ w' ⟨v,xs,O,Q,V,X,H⟩=>⟨v,O,Q,?_⟩⟩
 have Y:Owns (λb=>w.heap.size<=b) w' T sz v rows.length xs:=Owns.yk4 V X λ_ h=>h
 refine zwt Y (za9.cells (zfs hs H.vals) H.one) K (λb G=>?_) (Over.refl _ _)
 rintro(h | h)
 .have:=(Y.2 b G).1
  have:=L.1 b h
  omega
 .have:=(Y.2 b G).1
  omega
theorem zai.ypj{f:Operand}{xs:List Operand}{dst:Option Tmp}{g:Nat}{ds:List D}{lent:Bool}{r:D}(H:zd8 st f xs=Option.some (g,ds,lent))(G:zvf P g ds r)
  (F:K (st.put dst (.d r))):zai P st f xs dst K:=by
 unfold zai zl4;left;rw[H];exact .inl ⟨r,G.toR,λ_=>.inr G,F⟩
theorem z6j{look:Nat->Option Obj'}{c:Sym}{args:List Sym}{k:Sym->Prop}{f:Nat}{caps:List Sym}{ds:List D}{lent:Bool}{r:D}(H:zbm c=some (f,caps))(G:zjm look (args++caps)=some (ds,lent))(F:zvf P f ds r)
  (E:k (.d r)):zn0 P look c args k:=by
 unfold zn0 zqu
 rw[H]
 dsimp only
 rw[G]
 exact⟨r,F.toR,λ_=>.inr F,E⟩
end
section
variable {P:Program} {all:List Oper} {lo:Nat} {st0:St} {i:Nat} {o:Oper}
end
end Go.V
namespace Go.V
variable [Dr] [Ov]
open Go.RowKit
def ynb(P:Program)(r:Option Nat)(c:Code)(Q:DE->St->Prop)(st:St):Prop:=
 ∀ X w0 β a w ms n,MX X w0 ms st β a w->c.wpIn (FW r) n P (λe' a' w'=>∃ de st' β',exM e' de/\Q de st'/\MX X w0 ms st' β' a' w') a w
def zur(P:Program)(st:St)(id:Nat)(xs:List Operand)(dst:Option Tmp)(K:St->Prop):Prop:=
 ∃ (k:Nat) (ids:List Nat) (args0:List Sym) (own0:List (Nat×Obj')) (s:Sym) (nx:Nat) (own':List (Nat×Obj')) (mv:List Nat),(k<ids.length/\rho ids k=id)/\rens (rho ids) args0=xs.map st.val/\Sym.los ids.length args0/\Fits st ids own0 /\
  zuw P k args0 own0 ids.length s nx own' mv/\K ((st.after ids nx own' mv).put dst (ren (rho' ids st.next) s))
def ydOf:Sym->Option Nat
 |.yd id=>some id
 |_=>none
def dopX(P:Program)(o:Oper)(st:St)(K:St->Prop):Prop:=
 match o.op with
 |.call {callee:=.value f,args:=xs,argTypes:=ts}=>match ydOf (st.val f) with
  |some id=>dstB o.dst st.n=true/\zur P st id xs.toList o.dst K
  |none=>dop P o st K
 |_=>dop P o st K
def zmy(P:Program)(all:List Oper):List Oper->St->(St->Prop)->Prop
 | [],st,K=>K st
 |o::r,st,K=>match o.guard with
  |none=>dopX P o st (lz λst'=>zmy P all r st' K)
  |some (j,want)=>match (all[j]?).bind (·.dst) with
   |some t=>match zac st.slots t with
    |some (.d (.bool b))=>(b=want->dopX P o (st.put (some t) (.d (.bool want))) (lz λst'=>zmy P all r st' K)) /\
     (b = !want->dstB o.dst st.n=true/\zmy P all r ((st.put (some t) (.d (.bool !want))).put o.dst (.d (.val undef))) K)
    |some (.d (.val v))=>v=undef/\dstB o.dst st.n=true/\zmy P all r (st.put o.dst (.d (.val undef))) K
    |_=>False
   |none=>False
def evX(P:Program):Code->(DE->St->Prop)->St->Prop
 |.skip,Q,st=>Q .normal st
 |.region _ ops draw,Q,st=>draw=false/\zmy P ops.toList ops.toList st (Q .normal)
 |.seq x y,Q,st=>evX P x (zog (λst'=>evX P y Q st') Q) st
 |.cond c x y,Q,st=>match st.val c with
  |.d (.bool b)=>(b=true->evX P x Q st)/\(b=false->evX P y Q st)
  |_=>False
 |.block id c,Q,st=>evX P c (zb9 id Q) st
 |.exit id,Q,st=>Q (.exit id) st
 |.ret,Q,st=>Q .ret st
 |_,_,_=>False
section
variable {P:Program} {X:Nat->Prop} {w0:Base} {st:St} {β:Nat->Value} {a:Act} {w w':World} {K:St->Prop}
theorem yg3{o:Oper}(h:dop P o st K):∀ c,o.op≠.defer c:=by
 intro c e
 unfold dop at h
 rw[e] at h
 simp only[sopB,sop] at h
 exact h.2
theorem MX.back{ms:List Nat}(H:a.defers=ms.map mark++w0.dfs):({({a with defers:=w0.dfs}:Act) with defers:=ms.map mark++w0.dfs}:Act)=a:=by
 cases a;simp only at H;subst H;rfl
theorem ync{ms:List Nat}(L:MX X w0 ms st β a w){o:Oper}(h:∀ X' w0',Mods X' w0' st β {a with defers:=w0.dfs} w->Goes P X' w0' o {a with defers:=w0.dfs} w K)(G:∀ c,o.op≠.defer c)(r:Option Nat)(n:Nat){N:Act->World->Prop}{Q:Exit->Act->World->Prop}
  (M:∀ a' w' st' β',K st'->MX X w0 ms st' β' a' w'->N a' w'):o.wpIn (FW r) n P a w N Q:=by
 obtain⟨⟨X',w0',O,F,E⟩,T,J⟩:=L
 have:=yhh (h X' w0' F) G O.dfs.symm r n (ms.map mark++w0.dfs) (N:=N) (Q:=Q) λa' w' st' β' V H=>
  M _ w' st' β' V ⟨⟨X',w0',O,by have e:=H.defers.trans O.dfs;cases a';simp only at e;subst e;exact H,E⟩,rfl,J⟩
 rw[MX.back T] at this
 exact this
theorem ykf(I:Mods X w0 st β a w){o:Oper}{f:Operand}{args:Array Operand}{ts:Array TypeId}(S:o.op = .call {callee:=.value f,args,argTypes:=ts})
  {id:Nat} (W:st.val f = .yd id) (M:∀ t,o.dst=some t->t<st.n) (h:zur P st id args.toList o.dst K) (r:Option Nat) (n:Nat) (ms:List Deferred)
  {N:Act->World->Prop} {Q:Exit->Act->World->Prop} (hN:∀ a' w' st' β',K st'->Mods X w0 st' β' a' w'->N {a' with defers:=ms} w'):o.wpIn (FW r) n P {a with defers:=ms} w N Q:=by
 obtain⟨k,ids,args0,own0,s,nx,own',mv,⟨C,O⟩,ha,hl,hf,H,hK⟩:=h
 have hE:Ex (outOf X β ids st.own) (λi=>β (rho ids i)) own0=Ex X β st.own:=funext λb=>propext (hf.ex b)
 have T:Sms w (Ex (outOf X β ids st.own) (λi=>β (rho ids i)) own0) (λi=>β (rho ids i)) args0 (args.toList.map a.eval):=by
  have h1:=(Sms.zly I args.toList).1;rw[<-ha] at h1;rw[hE];exact zhm (ρ:=rho ids) (β:=λi=>β (rho ids i)) (β':=β) (m:=ids.length) (λ_ _=>rfl) hl h1
 obtain⟨b,hb,H⟩:=H (outOf X β ids st.own) (inBase β ids w) (λi=>β (rho ids i)) w _ rfl (I.zt7 hf) T
 simp only[O] at hb
 have hv:=(I.val f).2
 rw[W] at hv
 simp only[Sm] at hv
 obtain⟨b',L,hv⟩:=hv
 rw[hb] at L;cases L
 obtain⟨fn,tmps,aS,bd,V,G⟩:=H r (n-1)
 have F:∀ c,o.op≠.defer c:=λc e=>by rw[S] at e;cases e
 unfold Oper.wpIn
 refine⟨λ_ _=>trivial,?_⟩
 rw[Oper.semAt_eq _ _ _ F]
 have Y:({a with defers:=ms}:Act).eval=a.eval:=rfl
 rw[Y]
 have E:(execOp a.eval o).run P w = .ok (.round b fn tmps aS bd) w:=by
  have e3:Array.map a.eval args=(args.toList.map a.eval).toArray:=Array.ext' (by simp)
  simp only[execOp,S,resolve,hv];rw[e3];exact yhl V
 rw[E]
 simp only[Oper.uponIn]
 refine⟨λhd=>by simp[FW,Fence.wide] at hd,G.mono λe w' he=>?_⟩
 obtain⟨β1,v,rfl,Z,A,B⟩:=he
 obtain⟨h1,h2⟩:=I.zoe hf Z
 obtain⟨q1,q2⟩:=h2 s v A B
 have J:(({a with defers:=ms}:Act).put o.dst v) = {a.put o.dst v with defers:=ms}:=by cases o.dst <;> rfl
 show N (({a with defers:=ms}:Act).put o.dst v) w'
 rw[J]
 exact hN _ w' _ _ hK (h1.za1 M q1 q2)
theorem yg4{ms:List Nat}(J:MX X w0 ms st β a w){o:Oper}(h:dopX P o st K)(r:Option Nat)(n:Nat){N:Act->World->Prop}{Q:Exit->Act->World->Prop}
  (L:∀ a' w' st' β',K st'->MX X w0 ms st' β' a' w'->N a' w'):o.wpIn (FW r) n P a w N Q:=by
 have plain:dop P o st K->o.wpIn (FW r) n P a w N Q:=λh=>ync J (λX' w0' H=>zc4 H h) (yg3 h) r n L
 unfold dopX at h
 split at h
 .rename_i f xs ts M
  split at h
  .rename_i id O
   have O:st.val f = .yd id:=by
    revert O
    cases st.val f <;> simp[ydOf]
   obtain⟨⟨X',w0',T,H,F⟩,V,E⟩:=J;have:=ykf H M O (zbq h.1) h.2 r n (ms.map mark++w0.dfs) (N:=N) (Q:=Q) λa' w' st' β' Y G=>
    L _ w' st' β' Y ⟨⟨X',w0',T,by have e:=G.defers.trans T.dfs;cases a';simp only at e;subst e;exact G,F⟩,rfl,E⟩
   rw[MX.back V] at this;exact this
  .exact plain h
 .exact plain h
theorem zon{all:List Oper}{ms:List Nat}{r:Option Nat}{n:Nat}{Q:Exit->Act->World->Prop}:∀ {l:List Oper} {st:St} {β:Nat->Value} {a:Act} {w:World} {K:St->Prop},
  zmy P all l st K->MX X w0 ms st β a w->(∀ a' w' st' β',K st'->MX X w0 ms st' β' a' w'->Q .normal a' w')->wpListIn (FW r) n P all.toArray Q l a w
 | [],st,β,a,w,K,h,B,C=>C a w st β h B
 |o::l,st,β,a,w,K,h,B,C=>by
  simp only[zmy] at h;refine wpListIn_step λN' F=>?_
  split at h
  .rename_i J
   simp only[Region.wanted,J,if_true];exact yg4 B h r n λa' w' st' β' I H=>F a' w' (zon I H C)
  .rename_i j want J
   split at h
   .rename_i t N
    split at h
    .rename_i b S
     have L:=zw8 B S;have W:=zha (zea N) L;simp only[Region.wanted,J,W];have G:∀ c:Bool,b=c->MX X w0 ms (st.put (some t) (.d (.bool c))) β a w:=by
      intro c e;subst e;obtain⟨⟨X',w0',hu,H,T⟩,hd,V⟩:=B;have Y:t<st.n:=by
       rw[<-H.size];rcases Nat.lt_or_ge t a.tmps.size with h | h
       .exact h
       .rw[Array.getElem?_eq_none (by simpa using h)] at L;cases L
      have:=H.za1 (dst:=some t) (s:=.d (.bool b)) (v:=.bool b) (λu e=>by cases e;exact Y) (by simp[Sym.lo]) (by simp[Sm,R])
      have e2:({a with defers:=w0.dfs}:Act).put (some t) (.bool b) = {a with defers:=w0.dfs}:=by
       have M:a.tmps[t]?=some (.bool b):=L
       obtain⟨h1,h2⟩:=Array.getElem?_eq_some_iff.1 M;show({tmps:=a.tmps.setIfInBounds t (.bool b),defers:=w0.dfs}:Act)=_
       congr 1
       apply Array.ext
       .simp
       .intro i h3 h4
        rw[Array.getElem_setIfInBounds];split
        .rename_i e;subst e;exact h2.symm
        .rfl
      rw[e2] at this;exact⟨⟨X',w0',hu,this,T⟩,hd,V⟩
     by_cases e:b=want
     .subst e
      simp only[beq_self_eq_true,if_true];exact yg4 (G b rfl) (h.1 rfl) r n λa' w' st' β' I H=>F a' w' (zon I H C)
     .have e':b = !want:=by cases b <;> cases want <;> simp_all
      have:(some b==some want)=false:=by simpa using e
      simp only[this,Bool.false_eq_true,if_false];obtain⟨hd,h⟩:=h.2 e';refine⟨λ_ _=>trivial,?_⟩
      exact F _ w (zon h ((G (!want) e').put (zbq hd) (by simp[Sym.lo]) (λE=>by simp[Sm,R])) C)
    .rename_i hv
     obtain⟨Z,hd,h⟩:=h;obtain⟨A,O⟩:=B.plain.slots t _ hv;rw[Z] at O;simp only[Sm,R] at O;have W:yielded all.toArray a.tmps j=none:=zdw (zea N) O
     simp only[Region.wanted,J,W];have:((none:Option Bool)==some want)=false:=rfl
     simp only[this,Bool.false_eq_true,if_false];refine⟨λ_ _=>trivial,?_⟩
     exact F _ w (zon h (B.put (zbq hd) (by simp[Sym.lo]) (λE=>by simp[Sm,R])) C)
    .exact h.elim
   .exact h.elim
theorem zey:∀ {c:Code} {Q:DE->St->Prop} {st:St} {r:Option Nat},evX P c Q st->ynb P r c Q st
 |.skip,Q,st,r,h=>λX w0 β a w ms n G=>wpIn_skip ⟨.normal,st,β,trivial,h,G⟩
 |.region id ops draw,Q,st,r,h=>by
  obtain⟨rfl,h⟩:=h;intro X w0 β a w ms n G;refine wpIn_region_list ?_
  have:=zon (r:=r) (n:=n) (Q:=λe' a' w'=>∃ de st' β',exM e' de/\Q de st'/\MX X w0 ms st' β' a' w') h G (λa' w' st' β' F H=>⟨.normal,st',β',trivial,F,H⟩)
  simpa using this
 |.seq x y,Q,st,r,h=>by
  intro X w0 β a w ms n G;refine wpIn_seq (wpIn_mono (zey (c:=x) h X w0 β a w ms n G) ?_)
  rintro e a' w' ⟨de,st',β',E,K,H⟩
  cases e <;> cases de <;> simp only[exM] at E
  .exact zey (c:=y) K X w0 β' a' w' ms n H
  .subst E;exact⟨.exit _,st',β',rfl,K,H⟩
  .exact⟨.ret,st',β',trivial,K,H⟩
 |.cond c x y,Q,st,r,h=>by
  simp only[evX] at h;intro X w0 β a w ms n G;split at h
  .rename_i b hb
   have J:=(G.plain.val c).2;rw[hb] at J;simp only[Sm,R] at J;cases b
   .exact wpIn_cond_false J (zey (h.2 rfl) X w0 β a w ms n G)
   .exact wpIn_cond_true J (zey (h.1 rfl) X w0 β a w ms n G)
  .exact h.elim
 |.block id c,Q,st,r,h=>by
  intro X w0 β a w ms n G;refine wpIn_block (wpIn_mono (zey (c:=c) h X w0 β a w ms n G) ?_)
  rintro e a' w' ⟨de,st',β',E,K,H⟩
  cases e <;> cases de <;> simp only[exM] at E
  .exact⟨.normal,st',β',trivial,K,H⟩
  .subst E
   simp only[zb9] at K;simp only[Exit.inBlock];split
   .rename_i e;rw[if_pos e] at K;exact⟨.normal,st',β',trivial,K,H⟩
   .rename_i e;rw[if_neg e] at K;exact⟨.exit _,st',β',rfl,K,H⟩
  .exact⟨.ret,st',β',trivial,K,H⟩
 |.exit id,Q,st,r,h=>λX w0 β a w ms n G=>wpIn_exit ⟨.exit id,st,β,rfl,h,G⟩
 |.ret,Q,st,r,h=>λX w0 β a w ms n G=>wpIn_ret ⟨.ret,st,β,trivial,h,G⟩
 |.loop _,Q,st,r,h=>h.elim
 |.rangeFunc ..,Q,st,r,h=>h.elim
 |.scope _,Q,st,r,h=>h.elim
 |.label _,Q,st,r,h=>h.elim
 |.goto ..,Q,st,r,h=>h.elim
 |.refuse ..,Q,st,r,h=>h.elim
theorem zoo{c:Code}{Q:DE->St->Prop}(h:evX P c Q st):Triple P c Q st:=by
 intro X w0 β a w G
 refine(wpIn_wide (n:=0)).1 (wpIn_mono (zey (r:=none) h X w0 β a w [] 0 (.of G)) ?_)
 rintro e a' w' ⟨de,st',β',F,E,H⟩
 exact⟨de,st',β',F,E,H.nil⟩
def yg5:List Nat->List Sym->St->St
 |p::ps,s::ss,st=>yg5 ps ss (st.put (some p) s)
 |_,_,st=>st
theorem zus:∀ {ps:List Nat} {ss:List Sym} {vs:List Value} {st:St} {a:Act},Mods X w0 st β a w->(∀ p∈ps,p<st.n)->Sym.los st.next ss->Sms w (Ex X β st.own) β ss vs->ps.length=ss.length ->
  Mods X w0 (yg5 ps ss st) β {a with tmps:=(ps.zip vs).foldl (λt (p,v)=>t.setIfInBounds p v) a.tmps} w
 | [],[],vs,st,a,F,_,_,_,_=>by simpa[yg5] using F
 |p::ps,s::ss,vs,st,a,F,E,K,hs,H=>by
  simp only[Sms] at hs;obtain⟨v,vs',rfl,J,h2⟩:=hs;simp only[Sym.los] at K;have G:=F.za1 (dst:=some p) (s:=s) (v:=v) (λt e=>by cases e;exact E p (by simp)) K.1 J
  exact zus (ps:=ps) (ss:=ss) (vs:=vs') G (λq L=>E q (List.mem_cons_of_mem _ L)) K.2 h2 (by simpa using H)
def roundEnd(id n nx:Nat)(s:Sym)(own':List (Nat×Obj'))(mv:List Nat):DE->St->Prop:=λde st2=>
 (st2.base=n/\id∉st2.moved)/\match st2.look id with
  |some (.raw (.lp ps aS bd .busy none) cells2)=>s = .d (.bool (zga de))/\Weak {st2 with own:=aset id (.raw (.lp ps aS bd (zgw de) (zdc de)) cells2) st2.own} {n:=st2.n,next:=nx,slots:=[],own:=own',base:=n,moved:=mv}
  |_=>False
def zy6(P:Program)(bd:Code)(id n:Nat)(Q:DE->St->Prop):DE->St->Prop:=λe st1=>
 match e with
 |.normal=>(st1.base=n/\id∉st1.moved)/\match st1.look id with
  |some (.raw (.lp ps aS bd' .ready none) cells1)=>bd'=bd/\evX P bd Q {st1 with own:=aset id (.raw (.lp ps aS bd' .busy none) cells1) st1.own}
  |_=>False
 |_=>False
theorem zy7{id n nx:Nat}{own own':List (Nat×Obj')}{cells args:List Sym}{ps:Array Tmp}{aS bd:Code}{s:Sym}{mv:List Nat}
  (H0:zac own id=some (.raw (.lp ps aS bd .ready none) cells)) (E:args.length=ps.size) (H1:∀ p∈ps.toList,p<cells.length) (hid:id<n) (hl:Sym.los n args)
  (h:evX P aS (zy6 P bd id n (roundEnd id n nx s own' mv)) (yg5 ps.toList args (initC 0 cells own n))):zuw P id args own n s nx own' mv:=by
 intro X w0 β w vs hβ hm hs
 have O:(zbt own n n []).look id=some (.raw (.lp ps aS bd .ready none) cells):=H0
 obtain⟨_,H2,b,fn,D,vs0,hb,hN,hh,H3⟩:=hm.obj O
 replace hb:β id = .pointer (some ⟨b,0,none⟩):=hb
 refine⟨b,hb,λr m=>?_⟩
 have K:=hs.length
 have hy:=run_yield (P:=P) (args:=vs.toArray) hh (by simp[K,E])
 refine⟨fn,_,aS,bd,hy,roundIn_of_wpIn trivial ?_⟩
 have H4:=hm.initC (ntmps:=0) H3 H2
 have H5:=zus (ps:=ps.toList) (ss:=args) (vs:=vs) H4 (λp hp=>by have:=H1 p hp;simpa[initC] using this) hl hs (by simp[E])
 have Q:({tmps:=(ps.zip vs.toArray).foldl (λtmps (t,a)=>tmps.setIfInBounds t a) vs0.toArray,defers:=[]}:Act) =
   {({tmps:=vs0.toArray++Array.replicate (0-vs0.toArray.size) undef,defers:=[]}:Act) with tmps:=(ps.toList.zip vs).foldl (λt (p,v)=>t.setIfInBounds p v) (vs0.toArray++Array.replicate (0-vs0.toArray.size) undef)}:=by
  congr 1
  rw[<-Array.foldl_toList];simp
 rw[Q]
 have J:=zey (r:=some b) h X w0 β _ w [] m (.of H5)
 have efw:(FW r).inRound b=FW (some b):=rfl
 rw[efw]
 refine wpIn_mono J ?_
 rintro e' a' w' ⟨de,st2,β2,he,hq,T⟩
 have N:=T.nil
 cases e' <;> cases de <;> simp only[exM] at he <;> simp only[zy6] at hq
 obtain⟨⟨H6,V⟩,hq⟩:=hq
 split at hq
 .rename_i ps1 a1 b1 cells1 Y
  obtain⟨rfl,hq⟩:=hq;have same:∀ {st':St} {β':Nat->Value} {a':Act} {w':World},Mods X w0 st' β' a' w'->st'.base=n->id∉st'.moved->β' id=β id:=by
   intro st' β' a' w' H7 H8 Z;rw[H7.still.2 id (by rw[H8];exact hid) Z,hβ]
  obtain⟨b',fn',D',vs',H9,Ha,Hb⟩:=zfe (s':=.busy) (pd':=none) N Y;have ebb:b'=b:=by
   have:=same N H6 V
   rw[H9,hb] at this;simpa using this
  subst ebb;refine⟨_,run_beginRound Ha rfl,?_⟩
  have L:=zey (r:=some b') hq X w0 β2 a' _ [] m (.of Hb);refine wpIn_mono L ?_
  rintro e' a' w' ⟨de,st4,β4,S,M,A⟩
  have W:=A.nil;obtain⟨⟨Hc,B⟩,M⟩:=M;split at M
  .rename_i ps2 a2 b2 cells2 C
   obtain⟨rfl,Hd⟩:=M;obtain⟨b4,fn4,D4,vs4,I,He,Hf⟩:=zfe (s':=zgw de) (pd':=zdc de) W C;have ebb4:b4=b':=by
    have:=same W Hc B
    rw[I,hb] at this;simpa using this
   subst ebb4;have H:=Hf.weak Hd;have Hg:Mods X w0 (zbt own' n nx mv) β4 act0 _:=⟨H.outer,H.still,H.one,hm.defers,rfl,H.below,H.keys,H.own,H.apart,by intro t s ht;simp[zbt,zac] at ht⟩
   have G:=run_endRound (P:=P) (zdc de) He;have est:(if (zdc de).isNone then LoopState.ready else .done)=zgw de:=by cases de <;> rfl
   have ebo:(zdc de).isNone=zga de:=by cases de <;> rfl
   have F:∃ β' v,Ending.returned (.bool (zdc de).isNone) = .returned v/\Mods X w0 (zbt own' n nx mv) β' act0
     (w'.putObj b4 (.loop {state:=if (zdc de).isNone then .ready else .done,pending:=zdc de,fn:=fn4,tmps:=vs4,params:=ps2,assign:=a2,body:=b2,defers:=D4}))/\Sym.lo nx (.d (.bool (zga de))) /\
     Sm (w'.putObj b4 (.loop {state:=if (zdc de).isNone then .ready else .done,pending:=zdc de,fn:=fn4,tmps:=vs4,params:=ps2,assign:=a2,body:=b2,defers:=D4})) (Ex X β' own') β' (.d (.bool (zga de))) v:=by
    rw[est];exact⟨β4,_,rfl,Hg,by simp[Sym.lo],by simp[Sm,R,ebo]⟩
   cases e' <;> cases de <;> simp only[exM] at S
   .exact⟨_,_,G,F⟩
   .subst S;exact⟨_,_,G,F⟩
   .exact⟨_,_,G,F⟩
  .exact M.elim
 .exact hq.elim
def zkp(P:Program)(c:Code)(Q:DE->St->Prop)(st:St):Prop:=
 ∀ X w0 β a w n,Mods X w0 st β a w->c.wpIn (FW none) n P (λe' a' w'=>∃ de st' β' ms',exM e' de/\Q de st'/\MX X w0 ms' st' β' a' w') a w
def z6k(st:St):Nat->Nat->List Sym
 |0,_=>[]
 |k+1,t=>(match zac st.slots t with
  |some s=>s
  |none=>.junk)::z6k st k (t+1)
theorem z2m(F:Mods X w0 st β a w):∀ (k t:Nat),t+k=a.tmps.size->Sms w (Ex X β st.own) β (z6k st k t) (a.tmps.toList.drop t)/\Sym.los st.next (z6k st k t)
 |0,t,h=>by
  simp only[z6k];rw[List.drop_eq_nil_of_le (by simp;omega)]
  exact⟨by simp[Sms],by simp[Sym.los]⟩
 |k+1,t,h=>by
  obtain⟨E,h2⟩:=z2m F k (t+1) (by omega)
  have G:t<a.tmps.toList.length:=by simp;omega
  rw[List.drop_eq_getElem_cons G];simp only[z6k];have K:a.tmps.getD t undef=a.tmps.toList[t]:=by
   have H:t<a.tmps.size:=by simpa using G
   simp[H]
  cases hs:zac st.slots t with
  |none=>
   refine⟨?_,?_⟩
   .simp only[Sms];exact⟨_,_,rfl,by simp[Sm],E⟩
   .simp only[Sym.los];exact⟨by simp[Sym.lo],h2⟩
  |some s=>
   obtain⟨q1,q2⟩:=F.slots t s hs;rw[K] at q2;refine⟨?_,?_⟩
   .simp only[Sms];exact⟨_,_,rfl,q2,E⟩
   .simp only[Sym.los];exact⟨q1,h2⟩
def zut(st:St)(ps:Array Tmp)(aS bd:Code):St:=st.new (.raw (.lp ps aS bd .ready none) (z6k st st.n 0))
def zuu(st:St)(id:Nat):St:={st with own:=st.own.filter λx=>!Nat.beq x.1 id}
def zy8(id:Nat)(Q:DE->St->Prop)(st:St):Prop:=match st.look id with
 |some (.raw (.lp _ _ _ s pend) _)=>match s,pend with
  |.busy,_=>False
  |_,none=>Q .normal (zuu st id)
  |_,some .ret=>Q .ret (zuu st id)
  |_,some (.exit i)=>Q (.exit i) (zuu st id)
  |_,_=>False
 |_=>False
theorem zop{g:Operand}{ps:Array Tmp}{aS bd:Code}{Q:DE->St->Prop}{gf:Nat}{caps:List Sym}(H:zbm (st.val g)=some (gf,caps))(k:Nat)(ids:List Nat)(args0:List Sym)(own0:List (Nat×Obj'))
  {s:Sym} {nx:Nat} {own':List (Nat×Obj')} {mv:List Nat} (hk:k<ids.length/\rho ids k=st.next/\k∉mv)
  (ha:rens (rho ids) args0 = .yd st.next::caps) (hl:Sym.los ids.length args0) (hf:Fits (zut st ps aS bd) ids own0) (hp:zbl P gf args0 own0 ids.length s nx own' mv)
  (hK:zy8 st.next Q ((zut st ps aS bd).after ids nx own' mv)):zkp P (.rangeFunc g ps aS bd) Q st:=by
 intro X w0 β a w n hm
 refine wpIn_rangeFunc (F:=FW none) ?_
 intro fn _
 have H3:Below w.heap.size w (w.alloc (.deferred (some []))):=zbn w _
 have H6:∀ b,(X b\/b=w.heap.size)->X b\/(w.heap.size<=b/\b<(w.alloc (.deferred (some []))).heap.size):=λb hb=>hb.elim .inl λe=>.inr ⟨by omega,by simp;omega⟩
 have L:Mods (λb=>X b\/b=w.heap.size) (zmz (w.alloc (.deferred (some []))) st β w0.β0 w0.dfs) st β a (w.alloc (.deferred (some []))):=
  hm.yhn H6 (λb=>.inl) (by simp) (λb hb _=>H3.block b hb)
 have hu:=hm.under (X':=λb=>X b\/b=w.heap.size) (λb=>.inl) (hm.below.next H3)
 have hD:(w.alloc (.deferred (some []))).heap[w.heap.size]?=some (.deferred (some [])):=World.alloc_heap_new w _
 obtain⟨G,O⟩:=z2m L st.n 0 (by rw[<-hm.size];omega)
 rw[List.drop_zero] at G
 generalize H7:(λb=>X b\/b=w.heap.size)=X' at L hu G
 have A:X' w.heap.size:=by rw[<-H7];exact .inr rfl
 generalize H4:w.alloc (.deferred (some []))=w1 at L hu hD G
 generalize B:zmz w1 st β w0.β0 w0.dfs=w0' at L hu
 have C:w0'.w=w1:=by rw[<-B];rfl
 have I:w1.heap.size=w.heap.size+1:=by rw[<-H4];simp
 let rcd:Loop:={state:=.ready,pending:=none,fn,tmps:=a.tmps,params:=ps,assign:=aS,body:=bd,defers:=w.heap.size}
 have T:Mods X' w0' (zut st ps aS bd) (λi=>if i=st.next then .pointer (some ⟨w1.heap.size,0,none⟩) else β i) a (w1.alloc (.loop rcd)):=by
  refine L.new (zbn w1 _) rfl O (λb hb=>by simp[blk] at hb;omega) ?_
  refine⟨w1.heap.size,fn,w.heap.size,a.tmps.toList,by simp[RK.ptr],.inl L.below.size,?_,?_⟩
  .have:=World.alloc_heap_new w1 (.loop rcd)
   simpa[RK.at,rcd] using this
  .refine Sms.over (m:=st.next) (λid h=>by simp;intro e;omega) ?_ O G
   intro b hb he;refine⟨?_,(zbn w1 _).block b hb⟩
   rintro(h | h)
   .exact he h
   .simp[blk] at h;omega
 generalize V:zut st ps aS bd=st2 at T hf hK
 have Y:st2.val g=st.val g:=by rw[<-V];rfl
 have N:st2.next=st.next+1:=by rw[<-V];rfl
 have hv:=(T.val g).2
 rw[Y] at hv
 obtain⟨lb,H8,H9⟩:∃ lb:List Value,a.eval g = .func (.func gf) #[] lb.toArray/\Sms (w1.alloc (.loop rcd)) (Ex X' (λi=>if i=st.next then .pointer (some ⟨w1.heap.size,0,none⟩) else β i) st2.own) (λi=>if i=st.next then .pointer (some ⟨w1.heap.size,0,none⟩) else β i) caps lb:=by
  cases hf:st.val g <;> rw[hf] at H hv <;> simp only[zbm] at H
  case d x=>
   cases x <;> simp only[zbm] at H
   case fn f' l=>
    simp at H;obtain⟨rfl,rfl⟩:=H
    simp only[Sm,R] at hv;obtain⟨vs,h1,h2⟩:=hv;exact⟨vs,h1,Sms.zd1 h2⟩
   all_goals cases H
  case fn f' l=>
   simp at H;obtain⟨rfl,rfl⟩:=H
   simp only[Sm] at hv;exact hv
  all_goals cases H
 have S:Sms (w1.alloc (.loop rcd)) (Ex X' (λi=>if i=st.next then .pointer (some ⟨w1.heap.size,0,none⟩) else β i) st2.own) (λi=>if i=st.next then .pointer (some ⟨w1.heap.size,0,none⟩) else β i) (.yd st.next::caps) (.func (.yield w1.heap.size) #[] #[]::lb):=by
  simp only[Sms];refine⟨_,_,rfl,?_,H9⟩
  simp only[Sm];exact⟨w1.heap.size,by simp,rfl⟩
 generalize hβ2:(λi=>if i=st.next then Value.pointer (some ⟨w1.heap.size,0,none⟩) else β i)=β2 at T S
 have hβn:β2 st.next = .pointer (some ⟨w1.heap.size,0,none⟩):=by rw[<-hβ2];simp
 have hE:Ex (outOf X' β2 ids st2.own) (λi=>β2 (rho ids i)) own0=Ex X' β2 st2.own:=funext λb=>propext (hf.ex b)
 have Ha:Sms (w1.alloc (.loop rcd)) (Ex (outOf X' β2 ids st2.own) (λi=>β2 (rho ids i)) own0) (λi=>β2 (rho ids i)) args0 (.func (.yield w1.heap.size) #[] #[]::lb):=by
  rw[<-ha] at S;rw[hE];exact zhm (ρ:=rho ids) (β:=λi=>β2 (rho ids i)) (β':=β2) (m:=ids.length) (λ_ _=>rfl) hl S
 obtain⟨M,Hb⟩:=hp
 have E:=Hb (outOf X' β2 ids st2.own) (inBase β2 ids (w1.alloc (.loop rcd))) (λi=>β2 (rho ids i)) _ _ rfl (T.zt7 hf) Ha
 refine⟨w1.heap.size,[mark w.heap.size],w1.alloc (.loop rcd),{target:=.fn (.func gf) lb.toArray,args:=#[.func (.yield w1.heap.size) #[] #[]]},w1.alloc (.loop rcd),gf,(.func (.yield w1.heap.size) #[] #[]::lb).toArray,w1.alloc (.loop rcd),?_,?_,λ_ _=>trivial,?_,λhd=>by simp[FW,Fence.wide] at hd,?_⟩
 .have:=run_enterLoop_outer (P:=P) (w:=w) fn a.tmps ps aS bd
  rw[H4,<-I] at this;exact this
 .simp only[resolve,H8]
  simp[go_sem]
 .unfold callable at M
  cases W:P.funcs[gf]? with
  |none=>simp[W] at M
  |some fnn=>
   simp[W] at M;have e1:¬fnn.body=none:=by intro e;rw[e] at M;simp at M
   simp[invoke,callFunc,W,e1,M.1]
 .refine zp5 (E.mono λe' w3 he=>?_)
  obtain⟨β1,v,rfl,Z,Hc,Hh⟩:=he;have H0:=(T.zoe hf Z).1;have hβ3:zlo β2 β1 ids st2.next st.next = .pointer (some ⟨w1.heap.size,0,none⟩):=by
   have h1:=z1w (β:=β2) (β1:=β1) hf k;have h2:rho' ids st2.next k=st.next:=by
    unfold rho';rw[if_pos hk.1];exact hk.2.1
   rw[h2] at h1;rw[h1,Z.still.2 k hk.1 hk.2.2];show β2 (rho ids k)=_
   rw[hk.2.1];exact hβn
  generalize Hd:st2.after ids nx own' mv=st3 at H0 hK;generalize zlo β2 β1 ids st2.next=β3 at H0 hβ3;unfold zy8 at hK;split at hK
  .rename_i ps1 a1 b1 s1 pend cells1 He
   obtain⟨b,fn',D',vs',hb,hh,Hf⟩:=zfe (s':=.exhausted) (pd':=pend) H0 He;have Hg:b=w1.heap.size:=by
    rw[hb] at hβ3;simpa using hβ3
   subst Hg;have H5:=Hf.filt (λx=>!Nat.beq x.1 st.next)
   rw[zm0] at H5;have H1:MX X w0 [w.heap.size] (zuu st3 st.next) β3 {a with defers:=[mark w.heap.size]++a.defers} _:=
    ⟨⟨X',w0',hu,by
     have e:({({a with defers:=[mark w.heap.size]++a.defers}:Act) with defers:=w0.dfs}:Act)=a:=by have:=hm.defers;cases a;simp only at this;subst this;rfl
     rw[e];exact H5,λD H2=>by
      have:D=w.heap.size:=by simpa using H2
      subst this;exact⟨A,by rw[C];exact hD⟩⟩,by rw[hm.defers];rfl,by simp,λD H2=>by
      have:D=w.heap.size:=by simpa using H2
      subst this;exact .inl hm.below.size⟩
   have K:s1≠.busy->(Instr.endLoop w1.heap.size).run P w3 = .ok pend _:=λJ=>run_endLoop (P:=P) hh J
   split at hK
   .exact hK.elim
   .rename_i _ _ J
    exact⟨none,_,K J,⟨.normal,_,β3,_,trivial,hK,H1⟩⟩
   .rename_i _ _ J
    exact⟨some .ret,_,K J,wpIn_ret ⟨.ret,_,β3,_,trivial,hK,H1⟩⟩
   .rename_i _ _ i J
    exact⟨some (.exit i),_,K J,wpIn_exit ⟨.exit i,_,β3,_,rfl,hK,H1⟩⟩
   .exact hK.elim
  .exact hK.elim
end
section
variable {P:Program} {st:St} {Q:DE->St->Prop}
def evXK(P:Program)(y:Code)(Q:DE->St->Prop):DE->St->Prop:=zog (λst=>evX P y Q st) Q
theorem zrb{x y:Code}(h:zkp P x (evXK P y Q) st):zkp P (.seq x y) Q st:=by
 intro X w0 β a w n K
 refine wpIn_seq (wpIn_mono (h X w0 β a w n K) ?_)
 rintro e a' w' ⟨de,st',β',ms',J,L,H⟩
 cases e <;> cases de <;> simp only[exM] at J
 .refine wpIn_mono (zey (c:=y) (Q:=Q) (r:=none) L X w0 β' a' w' ms' n H) ?_
  rintro e2 a2 w2 ⟨de2,st2,β2,G,F,E⟩
  exact⟨de2,st2,β2,ms',G,F,E⟩
 .subst J;exact⟨.exit _,st',β',ms',rfl,L,H⟩
 .exact⟨.ret,st',β',ms',trivial,L,H⟩
theorem zoq{id:Nat}{c:Code}(h:zkp P c (zb9 id Q) st):zkp P (.block id c) Q st:=by
 intro X w0 β a w n G
 refine wpIn_block (wpIn_mono (h X w0 β a w n G) ?_)
 rintro e a' w' ⟨de,st',β',ms',F,E,H⟩
 cases e <;> cases de <;> simp only[exM] at F
 .exact⟨.normal,st',β',ms',trivial,E,H⟩
 .subst F
  simp only[zb9] at E;simp only[Exit.inBlock];split
  .rename_i e;rw[if_pos e] at E;exact⟨.normal,st',β',ms',trivial,E,H⟩
  .rename_i e;rw[if_neg e] at E;exact⟨.exit _,st',β',ms',rfl,E,H⟩
 .exact⟨.ret,st',β',ms',trivial,E,H⟩
theorem zy9(H:P.follows .mixedOrders=true)(n:Nat){c:Code}(S:St)(hs:ygx n c=true):∀ {st:St},ev P (zij n c) (cutK S Q) st->zkp P (zik n c) Q S->zkp P c Q st:=by
 induction n generalizing c with
 |zero=>
  intro st h h2 X w0 β a w m F;exact h2 X w0 β a w m (F.weak h)
 |succ n ih=>
  intro st h h2;cases c <;> simp only[zij,zik,ygx,reduceCtorEq] at h h2 hs
  case seq x y=>
   intro X w0 β a w m F;simp only[ev] at h;refine wpIn_seq (wpIn_mono (wpIn_wide.2 (zas H h X w0 β a w F)) ?_)
   rintro e a' w' ⟨de,st',β',E,K,G⟩
   cases e <;> cases de <;> simp only[exM] at E
   .exact ih hs K h2 X w0 β' a' w' m G
   .subst E;exact⟨.exit _,st',β',[],rfl,K,.of G⟩
   .exact⟨.ret,st',β',[],trivial,K,.of G⟩
theorem zl6{f:Nat}{fn:Func}{c:Code}(J:P.funcs[f]?=some fn)(L:fn.body=some c)(H:callable P f=true){args:List D}{r:D}
  (h:zkp P c (zy1 (zvm P fn.results.toList r)) (zgu fn.ntmps args)):zan P f args r:=by
 refine⟨H,λw E vs M O=>?_⟩
 refine(callsIn_wide (n:=0)).1 (callsIn_of_wp_marks (F:=Fence.wide) (n:=0) J L trivial ?_)
 refine wpIn_mono (h E (.of w) _ _ w 0 (Mods.init M O)) ?_
 have fin:∀ {st' β' ms' a' w'},zvm P fn.results.toList r st'->MX E (.of w) ms' st' β' a' w'->LeavesInM Fence.wide 0 P fn a'.tmps (λe w'=>∃ v,e = .returned v/\Below w.heap.size w w'/\R w' E r v) a'.defers .returning w':=by
  intro st0 β' ms' a' w' Q G;rw[G.defers,show(Base.of w).dfs=[] from rfl,List.append_nil]
  refine zux rfl G λa2 w2 ea K=>?_
  obtain⟨v,T,h2⟩:=zdq K Q;rw[<-ea];exact⟨v,T,v,rfl,K.below.below,h2⟩
 rintro e a' w' ⟨de,st',β',ms',V,Q,G⟩
 cases e <;> cases de <;> simp only[exM] at V
 .exact fin Q G
 .exact Q.elim
 .exact fin Q G
end
def zez:Code->Option (Array Tmp×Code×Code)
 |.rangeFunc _ ps a b=>some (ps,a,b)
 |.seq x y=>match zez x with
  |some r=>some r
  |none=>zez y
 |.block _ c=>zez c
 |_=>none
def rAs(f:Func):Code:=match f.body with
 |some c=>match zez c with
  |some (_,a,_)=>a
  |none=>.skip
 |none=>.skip
def rBd(f:Func):Code:=match f.body with
 |some c=>match zez c with
  |some (_,_,b)=>b
  |none=>.skip
 |none=>.skip
theorem zur.tO{P:Program}{st:St}{id:Nat}{xs:List Operand}{dst:Option Tmp}{K:St->Prop}(k:Nat)(ids:List Nat)(args0:List Sym)(own0:List (Nat×Obj')){s:Sym}{nx:Nat}{own':List (Nat×Obj')}{mv:List Nat}
  (H:k<ids.length/\rho ids k=id) (G:rens (rho ids) args0=xs.map st.val) (F:Sym.los ids.length args0) (E:Fits st ids own0) (J:zuw P k args0 own0 ids.length s nx own' mv)
  (L:K ((st.after ids nx own' mv).put dst (ren (rho' ids st.next) s))):zur P st id xs dst K:=⟨k,ids,args0,own0,s,nx,own',mv,H,G,F,E,J,L⟩
theorem zbl.ynd{P:Program}{f:Nat}{args:List Sym}{own:List (Nat×Obj')}{n nx:Nat}{own':List (Nat×Obj')}{mv:List Nat}(h:zbl P f args own n (.tup []) nx own' mv):zbl P f args own n (.d (.tup [])) nx own' mv:=by
 refine⟨h.1,λX w0 β w vs hβ H hs=>(h.2 X w0 β w vs hβ H hs).mono λe w' G=>?_⟩
 obtain⟨β',v,F,h2,E,K⟩:=G
 refine⟨β',v,F,h2,by simp[Sym.lo],?_⟩
 simp only[Sm,Sms] at K
 obtain⟨vs',rfl,rfl⟩:=K
 simp[Sm,R,za9]
section
variable {P:Program} {st:St} {Q:DE->St->Prop} {K:St->Prop} {all r:List Oper}
def yg6(P:Program)(all r:List Oper)(K:St->Prop):St->Prop:=λst=>zmy P all r st K
theorem ykg:evX P .skip Q st=Q .normal st:=rfl
theorem ycd(id:Nat)(ops:List Oper):evX P (.region id ops.toArray false) Q st=zmy P ops ops st (yj2 Q):=by simp[evX];rfl
theorem yne(x y:Code):evX P (.seq x y) Q st=evX P x (evXK P y Q) st:=rfl
theorem ykh(c:Operand)(x y:Code):evX P (.cond c x y) Q st=match st.val c with
  |.d (.bool b)=>(b=true->evX P x Q st)/\(b=false->evX P y Q st)
  |_=>False:=rfl
theorem yg7(id:Nat)(c:Code):evX P (.block id c) Q st=evX P c (zb9 id Q) st:=rfl
theorem yki(id:Nat):evX P (.exit id) Q st=Q (.exit id) st:=rfl
theorem ynf:evX P .ret Q st=Q .ret st:=rfl
theorem z6l(y:Code):evXK P y Q .normal st=evX P y Q st:=rfl
theorem yg8(y:Code)(i:Nat):evXK P y Q (.exit i) st=Q (.exit i) st:=rfl
theorem ykj(y:Code):evXK P y Q .ret st=Q .ret st:=rfl
theorem yg9:zmy P all [] st K=K st:=rfl
theorem z6m(dst:Option Tmp)(op:Op)(ty:Nat)(pos:String)(after:Array Edge):
  zmy P all (⟨dst,op,ty,pos,after,none⟩::r) st K=dopX P ⟨dst,op,ty,pos,after,none⟩ st (yg6 P all r K):=rfl
theorem z6n(dst:Option Tmp)(op:Op)(ty:Nat)(pos:String)(after:Array Edge)(j:Nat)(want:Bool):
  zmy P all (⟨dst,op,ty,pos,after,some (j,want)⟩::r) st K=match (all[j]?).bind (·.dst) with
   |some t=>match zac st.slots t with
    |some (.d (.bool b))=>(b=want->dopX P ⟨dst,op,ty,pos,after,some (j,want)⟩ (st.put (some t) (.d (.bool want))) (yg6 P all r K)) /\
     (b = !want->dstB dst st.n=true/\zmy P all r ((st.put (some t) (.d (.bool !want))).put dst (.d (.val undef))) K)
    |some (.d (.val v))=>v=undef/\dstB dst st.n=true/\zmy P all r (st.put dst (.d (.val undef))) K
    |_=>False
   |none=>False:=rfl
theorem ycf:yg6 P all r K st=zmy P all r st K:=rfl
theorem zuv{bd:Code}{id n:Nat}:zy6 P bd id n Q .normal st=((st.base=n/\id∉st.moved)/\match st.look id with
  |some (.raw (.lp ps aS bd' .ready none) cells1)=>bd'=bd/\evX P bd Q {st with own:=aset id (.raw (.lp ps aS bd' .busy none) cells1) st.own}
  |_=>False):=rfl
end
attribute [simp] ykg ycd yne ykh yg7 yki ynf z6l yg8 ykj yg9 z6m z6n ycf dopX ydOf zuv yg5 initC zeu roundEnd zga zgw zdc z6k zut zuu zy8
section
variable {P:Program} {st:St} {all:List Oper}
def zw2(P:Program)(all:List Oper)(m:Nat)(K:St->Prop):List Oper->St->Prop
 | [],st=>K st
 |x::r,st=>dstB x.dst st.n=true/\zmu P all x st (λs=>Sym.lo m s/\zw2 P all m K r (st.put x.dst s))
theorem zrd{m:Nat}{K:St->Prop}:∀ {l:List Oper} {st:St},zw2 P all m K l st->∃ ss,Chain P all l ss st/\(∀ s∈ss,Sym.lo m s)/\K (puts l ss st)
 | [],st,h=>⟨[],rfl,by simp,h⟩
 |x::r,st,h=>by
  simp only[zw2] at h;obtain⟨H,h⟩:=h;obtain⟨s,G,h2,F⟩:=zlh h;obtain⟨ss,q1,q2,q3⟩:=zrd F;refine⟨s::ss,⟨s,ss,rfl,H,G,q1⟩,?_,q3⟩
  intro u E;rcases List.mem_cons.1 E with e | E
  .subst e;exact h2
  .exact q2 u E
theorem yha(K:P.follows .mixedOrders=true){id:Nat}{pre post:List Oper}(X:zb7 (pre++post)=true)(Y:post≠[])(J:cutB (pre++post) pre.length=true)(G:yna (pre++post) pre.length=true){Q:DE->St->Prop}
  (F:(st.own.map (·.1)).Nodup) (h:zw2 P (pre++post) st.next (z2l P (Q .normal) post) pre st):Triple P (.region id (pre++post).toArray true) Q st:=by
 refine zej K X ?_
 obtain⟨ss,Z,C,hd⟩:=zrd h
 have L:=zeh Z
 have M:∀ i k,(Seg.kd ⟨pre++post,0,pre.length,ss.map .val,st,λ_=>st.own⟩ i)=some k->∃ s,ss[i]?=some s/\k = .val s:=by
  intro i k hk;unfold Seg.kd at hk;split at hk
  .simp only[Nat.sub_zero,List.getElem?_map] at hk
   cases hs:ss[i]? with
   |none=>rw[hs] at hk;cases hk
   |some s=>rw[hs] at hk;simp at hk;exact⟨s,rfl,hk.symm⟩
  .cases hk
 have H:∀ t,¬(Seg.U ⟨pre++post,0,pre.length,ss.map .val,st,λ_=>st.own⟩ t):=by
  rintro t ⟨i,ob,y,k,_,hk,_,hm⟩
  obtain⟨s,_,rfl⟩:=M i k hk;cases hm
 have O:∀ i id ob,Seg.kd ⟨pre++post,0,pre.length,ss.map .val,st,λ_=>st.own⟩ i≠some (.bst id ob):=by
  intro i id ob hk;obtain⟨s,_,e⟩:=M i _ hk;cases e
 have E:∀ i,Seg.sti ⟨pre++post,0,pre.length,ss.map .val,st,λ_=>st.own⟩ i=puts ((pre++post).take i) (ss.take i) st:=by
  intro i;unfold Seg.sti;have I:(ss.map FK.val).map FK.sym=ss:=by
   rw[List.map_map];have:(FK.sym∘FK.val)=λs=>s:=rfl
   rw[this,List.map_id']
  simp only[List.drop_zero,Nat.sub_zero];rw[I]
 have A:∀ i,i<=pre.length->(pre++post).take i=pre.take i:=λi hi=>by rw[List.take_append_of_le_length hi]
 refine RegI.seg (pos:=0) (hi:=pre.length) (ss.map .val) (λ_=>st.own) [] st.own ?_ ?_ (.inl J) ?_
 .refine⟨X,⟨Nat.zero_le _,by simp,by simp[L]⟩,λt _ _ h=>absurd h (H t),λi t ob m h=>absurd ⟨i,ob,h⟩ (H t),λi j id ob ob' h=>absurd h (O i id ob),λ_ id ob h=>⟨h,λi ob hk=>absurd hk (O i id ob)⟩,?_⟩
  intro i y k hy hk;obtain⟨s,hs,rfl⟩:=M i k hk;have hi:i<pre.length:=by
   have:=(List.getElem?_eq_some_iff.1 hs).1
   omega
  have N:pre[i]?=some y:=by
   have:(pre++post)[i]?=pre[i]?:=List.getElem?_append_left hi
   rw[<-this];exact hy
  obtain⟨s',B,S,W⟩:=zkm Z N;rw[hs] at B;cases B;refine⟨S,λt _=>H t,?_,C s (List.mem_of_getElem? hs)⟩
  show DStep P (pre++post) y (Seg.sti ⟨pre++post,0,pre.length,ss.map .val,st,λ_=>st.own⟩ i) s
  rw[E,A i (by omega)]
  exact W
 .refine⟨λt ob h=>by simp at h,by simp,rfl,λ_ id ob h=>.inr ⟨?_,λi ob=>O i id ob⟩⟩
  have T:∀ {l:List (Nat×Obj')},(l.map (·.1)).Nodup->(id,ob)∈l->zac l id=some ob:=by
   intro l;induction l with
   |nil=>intro _ h;cases h
   |cons x r ih=>
    intro hn h;obtain⟨k,u⟩:=x;simp only[List.map_cons,List.nodup_cons] at hn;simp only[zac];rcases List.mem_cons.1 h with e | h
    .cases e;simp
    .have H0:k≠id:=by intro e;subst e;exact hn.1 (List.mem_map.2 ⟨_,h,rfl⟩)
     rw[if_neg H0];exact ih hn.2 h
  exact T F h
 .have V:Seg.fin ⟨pre++post,0,pre.length,ss.map .val,st,λ_=>st.own⟩ [] st.own=puts pre ss st:=by
   unfold Seg.fin;simp only[E,A pre.length (Nat.le_refl _),List.take_length];have H1:ss.take pre.length=ss:=by rw[List.take_of_length_le (by omega)]
   obtain⟨p1,p2,p3,p4,p5⟩:=zg9 pre ss st;rw[H1];simp only[List.length_nil,Nat.add_zero,refF,numF,List.nil_append];cases hp:puts pre ss st with
   |mk n next slots own base moved=>
    rw[hp] at p1 p2 p3 p4 p5;simp only at p1 p2 p3 p4 p5
    subst p1;subst p2;subst p3;subst p4;subst p5;rfl
  rw[V];refine zi5 (k:=pre.length) (by simp) (by simp) (λi h1 h2=>?_) hd
  have:=List.all_eq_true.1 G i (List.mem_range.2 h2)
  rw[Bool.or_eq_true,Nat.ble_eq] at this;exact this.elim (λe=>by omega) λe=>e
theorem zjj(F:P.follows .mixedOrders=true)(m:Nat){id:Nat}{ops:List Oper}{Q:DE->St->Prop}(K:zb7 ops=true)(J:decide (m<ops.length)=true)(E:cutB ops m=true)(H:yna ops m=true)
  (G:(st.own.map (·.1)).Nodup) (h:zw2 P ops st.next (z2l P (Q .normal) (ops.drop m)) (ops.take m) st):Triple P (.region id ops.toArray true) Q st:=by
 have J:m<ops.length:=of_decide_eq_true J
 have e:ops.take m++ops.drop m=ops:=List.take_append_drop m ops
 have L:(ops.take m).length=m:=by rw[List.length_take];omega
 have:=yha (P:=P) (st:=st) (pre:=ops.take m) (post:=ops.drop m) (id:=id) (Q:=Q) F (by rw[e];exact K) (by intro e2;have:=congrArg List.length e2;rw[List.length_drop] at this;simp at this;omega) (by rw[e,L];exact E) (by rw[e,L];exact H) G (by rw[e];exact h)
 rw[e] at this
 exact this
attribute [simp] zw2 z2l
end
section
variable {P:Program} {all:List Oper} {st:St} {Q:DE->St->Prop}
def z6o(P:Program)(ib n0:Nat)(st:St)(t:Nat)(ad x:Sym)(K:Nat->Obj'->Prop):Prop:=
 match TI.of P t,ad with
 |some ti,.bp id off=>match st.look id with
  |some (.box T cells)=>match zbg x with
   |some l=>(id=ib/\l.length=ti.size/\off+l.length<=cells.length/\Sym.los n0 (splice cells off l))/\K id (.box T (splice cells off l))
   |none=>False
  |_=>False
 |_,_=>False
def hidB(ib:Nat)(st:St)(b:Bool):St:={st with own:=if b=true then st.own else st.own.filter λx=>!Nat.beq x.1 ib}
theorem zw3{ib:Nat}:∀ (l:List (Nat×Obj')) (id:Nat),zac (l.filter λx=>!Nat.beq x.1 ib) id=if id=ib then none else zac l id
 | [],id=>by simp[zac]
 |(k,v)::r,id=>by
  have ih:=zw3 (ib:=ib) r id;by_cases h:k=ib
  .subst h
   rw[List.filter_cons_of_neg (by simp),ih]
   by_cases h2:id=k
   .subst h2;simp
   .rw[if_neg h2,if_neg h2];simp only[zac];rw[if_neg (λe=>h2 e.symm)]
  .have H:Nat.beq k ib=false:=by
    cases G:Nat.beq k ib with
    |true=>exact absurd (Nat.eq_of_beq_eq_true G) h
    |false=>rfl
   rw[List.filter_cons_of_pos (by show(!Nat.beq k ib)=true;rw[H];rfl)]
   simp only[zac];by_cases h2:k=id
   .subst h2;rw[if_pos rfl,if_neg h,if_pos rfl]
   .rw[if_neg h2,ih,if_neg h2]
def frdB(P:Program)(all:List Oper)(n0:Nat)(dp:Nat->Bool)(ib:Nat):Nat->List Oper->St->List Sym->(St->List Sym->Prop)->Prop
 |_,[],st,ss,K=>K st ss
 |i,o::r,st,ss,K=>dstB o.dst st.n=true/\zmu P all o (hidB ib st (dp i)) (λs=>Sym.lo n0 s/\frdB P all n0 dp ib (i+1) r (st.put o.dst s) (s::ss) K)
theorem zw4{n0:Nat}{dp:Nat->Bool}{ib:Nat}{K:St->List Sym->Prop}:∀ {l:List Oper} {i:Nat} {st:St} {rs:List Sym},frdB P all n0 dp ib i l st rs K ->
  ∃ ss:List Sym,ss.length=l.length/\K (puts l ss st) (ss.reverse++rs)/\∀ j o,l[j]?=some o->∃ s,ss[j]?=some s/\dstB o.dst st.n=true/\DStep P all o (hidB ib (puts (l.take j) (ss.take j) st) (dp (i+j))) s/\Sym.lo n0 s
 | [],i,st,rs,h=>⟨[],rfl,by simp only[frdB] at h;simpa[puts] using h,λj o H=>by simp at H⟩
 |x::r,i,st,rs,h=>by
  simp only[frdB] at h;obtain⟨G,h⟩:=h;obtain⟨s,F,h2,E⟩:=zlh h;obtain⟨ss,q1,q2,q3⟩:=zw4 E;refine⟨s::ss,by simp[q1],by simpa[puts] using q2,λj o H=>?_⟩
  cases j with
  |zero=>
   simp at H;subst H
   exact⟨s,rfl,G,by simpa[puts] using F,h2⟩
  |succ j=>
   obtain⟨s',e1,e2,e3,e4⟩:=q3 j o (by simpa using H)
   refine⟨s',by simpa using e1,?_,?_,e4⟩
   .have:(st.put x.dst s).n=st.n:=by unfold St.put;split <;> rfl
    rw[this] at e2;exact e2
   .have e:i+(j+1)=i+1+j:=by omega
    rw[e];simpa[puts] using e3
theorem z2o(ib:Nat)(b:Bool):∀ (l:List Oper) (ss:List Sym) (st:St),puts l ss (hidB ib st b)=hidB ib (puts l ss st) b
 | [],ss,st=>by simp[puts]
 |o::r,[],st=>by simp[puts]
 |o::r,s::ss,st=>by
  have:(hidB ib st b).put o.dst s=hidB ib (st.put o.dst s) b:=by
   unfold hidB St.put;cases o.dst <;> rfl
  simp only[puts];rw[this,z2o ib b r ss]
theorem yhb(X:P.follows .mixedOrders=true)(m ib:Nat){id:Nat}{ops:List Oper}{t j:Nat}{x:Operand}{so:Oper}{Q:DE->St->Prop}(H5:zb7 ops=true)(Y:ops[m]?=some so)(Z:so.op = .store t (.tmp j) x)(hg:so.guard=none)(V:so.dst=none)
  (A:yna ops m=true) (L:(st.own.map (·.1)).Nodup)
  (h:frdB P ops st.next (zq7 ops 4 m) ib 0 (ops.take m) st [] (λstF _=>z6o P ib st.next {stF with own:=st.own} t (stF.val (.tmp j)) (stF.val x) (λid ob=>z2l P (Q .normal) (ops.drop (m+1)) {st with slots:=stF.slots,own:=aset id ob st.own}))) :
  Triple P (.region id ops.toArray true) Q st:=by
 refine zej X H5 ?_
 obtain⟨ss,E,hK,M⟩:=zw4 h
 have B:m<ops.length:=(List.getElem?_eq_some_iff.1 Y).1
 have H6:(ops.take m).length=m:=by rw[List.length_take];omega
 rw[H6] at E
 obtain⟨p1,p2,p3,p4,p5⟩:=zg9 (ops.take m) ss st
 generalize hE:puts (ops.take m) ss st=stE at hK p1 p2 p3 p4 p5
 unfold z6o at hK
 split at hK
 .rename_i ti id' off Hc had
  split at hK
  .rename_i T cells Hd
   split at hK
   .rename_i l hl
    .obtain⟨H,hK⟩:=hK
     obtain⟨C,H⟩:=H;subst C;have O:zac st.own id'=some (.box T cells):=Hd
     let ob:Obj':=.box T (splice cells off l)
     let ks:List FK:=ss.map .val++[.bst id' ob]
     have H7:ks.length=m+1:=by simp[ks,E]
     let dp:Nat->Bool:=zq7 ops 4 m
     let S:Seg:=⟨ops,0,m+1,ks,st,λi=>if i<m then (if dp i=true then st.own else st.own.filter λx=>!Nat.beq x.1 id') else []⟩
     have F:∀ i,S.own0 i=if i<m then (if dp i=true then st.own else st.own.filter λx=>!Nat.beq x.1 id') else []:=λi=>rfl
     have H8:∀ i,S.kd i=if i<m then (ss[i]?).map .val else if i=m then some (.bst id' ob) else none:=by
      intro i;show(if 0<=i/\i<m+1 then ks[i-0]? else none)=_
      rw[Nat.sub_zero];by_cases h1:i<m
      .rw[if_pos (by omega),if_pos h1]
       simp only[ks];rw[List.getElem?_append_left (by simp;omega),List.getElem?_map]
      .rw[if_neg h1]
       by_cases h2:i=m
       .subst h2
        rw[if_pos (by omega),if_pos rfl]
        simp only[ks];rw[List.getElem?_append_right (by simp;omega)]
        simp[E]
       .rw[if_neg (by omega),if_neg h2]
     have G:∀ i k,S.kd i=some k->(i<m/\∃ s,ss[i]?=some s/\k = .val s)\/(i=m/\k = .bst id' ob):=by
      intro i k hk;rw[H8] at hk;split at hk
      .rename_i h1
       rw[Option.map_eq_some_iff] at hk;obtain⟨s,e1,e2⟩:=hk;exact .inl ⟨h1,s,e1,e2.symm⟩
      .split at hk
       .rename_i h2;cases hk;exact .inr ⟨h2,rfl⟩
       .cases hk
     have J:∀ u,¬S.U u:=by
      rintro u ⟨i,o,y,k,_,hk,_,hm⟩
      rcases G i k hk with⟨_,s,_,rfl⟩ | ⟨_,rfl⟩ <;> cases hm
     have He:S.kd m=some (.bst id' ob):=by rw[H8,if_neg (Nat.lt_irrefl _),if_pos rfl]
     have H9:∀ i,i<=m->(ks.map FK.sym).take i=ss.take i:=by
      intro i hi;simp only[ks,List.map_append,List.map_map];have I:(FK.sym∘FK.val)=λs=>s:=rfl
      rw[I,List.map_id',List.take_append_of_le_length (by omega)]
     have N:∀ i,i<m->S.sti i=hidB id' (puts (ops.take i) (ss.take i) st) (dp i):=by
      intro i hi;unfold Seg.sti;show puts ((ops.drop 0).take (i-0)) ((ks.map FK.sym).take (i-0)) {st with own:=S.own0 i}=_
      rw[F];simp only[List.drop_zero,Nat.sub_zero];rw[H9 i (by omega)]
      rw[if_pos hi];exact z2o id' (dp i) _ _ st
     have W:S.sti m = {stE with own:=[]}:=by
      unfold Seg.sti;show puts ((ops.drop 0).take (m-0)) ((ks.map FK.sym).take (m-0)) {st with own:=S.own0 m}=_
      rw[F,if_neg (by omega)]
      simp only[List.drop_zero,Nat.sub_zero];rw[H9 m (Nat.le_refl _),List.take_of_length_le (show ss.length<=m by omega),<-hE]
      exact z9k false _ _ st
     have Ha:∀ y,(S.sti m).val y=stE.val y:=by
      intro y;rw[W];cases y <;> rfl
     have cuts:∀ i,m<i->i<ops.length->cutB ops i=true:=by
      intro i h1 h2;have:=List.all_eq_true.1 A i (List.mem_range.2 h2)
      rw[Bool.or_eq_true,Nat.ble_eq] at this;exact this.elim (λe=>by omega) λe=>e
     refine RegI.seg (pos:=0) (hi:=m+1) ks S.own0 [] (aset id' ob st.own) ?_ ?_ ?_ ?_
     .refine⟨H5,⟨Nat.zero_le _,B,by simp[H7]⟩,λu _ _ hu=>absurd hu (J u),λi u o m' hc=>absurd ⟨i,o,hc⟩ (J u),?_,?_,?_⟩
      .intro a b id ob1 ob2 h1 h2
       rcases G a _ h1 with⟨_,s,_,e⟩ | ⟨e1,_⟩
       .cases e
       .rcases G b _ h2 with⟨_,s,_,e⟩ | ⟨e2,_⟩
        .cases e
        .omega
      .intro i id o ho
       have ho:zac (S.own0 i) id=some o:=ho
       rw[F] at ho;split at ho
       .split at ho
        case isFalse hdp=>
         rw[zw3] at ho;split at ho
         .cases ho
         .rename_i H0
          refine⟨ho,λm' ob' hk=>?_⟩
          rcases G m' _ hk with⟨_,s,_,e⟩ | ⟨e1,e2⟩
          .cases e
          .cases e2;exact absurd rfl H0
        rename_i Hf Hg;have hb:i<m/\dp i=true:=⟨Hf,Hg⟩
        refine⟨ho,λm' ob' hk=>?_⟩
        rcases G m' _ hk with⟨_,s,_,e⟩ | ⟨e1,_⟩
        .cases e
        .subst e1
         exact⟨4,hb.2⟩
       .simp[zac] at ho
      .intro i o k ho hk
       have ho:ops[i]?=some o:=ho
       have hk:S.kd i=some k:=hk
       rcases G i k hk with⟨hi,s,hs,rfl⟩ | ⟨rfl,rfl⟩
       .obtain⟨s',e1,e2,e3,e4⟩:=M i o (by rw[List.getElem?_take,if_pos hi];exact ho)
        rw[hs] at e1;cases e1;refine⟨e2,λu _=>J u,?_,e4⟩
        show DStep P ops o (S.sti i) s
        rw[N i hi];rw[Nat.zero_add,List.take_take,Nat.min_eq_left (by omega)] at e3
        exact e3
       .rw[Y] at ho;cases ho
        refine⟨by rw[V];rfl,hg,V,λu _=>J u,H.2.2,_,O,?_⟩
        intro st' K Hb H1 Hh;unfold dop;rw[Z];simp only;rw[V,Hc];simp only;unfold zlz;have Hi:st'.val (.tmp j) = .bp id' off:=by
         have hq:=Ha (.tmp j);rw[had] at hq;rw[Hb.2 (.tmp j) (by rw[Z];simp[Op.operands]) (by rw[hq];simp),hq]
        have Hj:zbg (st'.val x)=some l:=by
         have hq:=Ha x;have Hk:stE.val x≠.junk:=by intro e;rw[e] at hl;simp[zbg] at hl
         rw[Hb.2 x (by rw[Z];simp[Op.operands]) (by rw[hq];exact Hk),hq]
         exact hl
        rw[Hi];simp only;rw[H1];simp only;rw[Hj];simp only;exact⟨H.1,H.2.1,Hh⟩
     .have H2:id'∈st.own.map (·.1):=List.mem_map.2 ⟨_,za0 O,rfl⟩
      refine⟨λu ob' hm=>by simp at hm,by simp,zkc H2,λhn id o H3=>?_⟩
      rcases zlc L H3 with⟨e1,e2⟩ | ⟨H0,H3⟩
      .subst e1;subst e2;exact .inl ⟨m,He⟩
      .refine .inr ⟨zkx L H3,λi ob' hk=>?_⟩
       rcases G i _ hk with⟨_,s,_,e⟩ | ⟨_,e⟩
       .cases e
       .cases e;exact H0 rfl
     .rcases Nat.eq_or_lt_of_le (show m+1<=ops.length from B) with e | e
      .exact .inr e
      .exact .inl (cuts (m+1) (Nat.lt_succ_self m) e)
     .have H4:Seg.fin ⟨ops,0,m+1,ks,st,S.own0⟩ [] (aset id' ob st.own) = {st with slots:=stE.slots,own:=aset id' ob st.own}:=by
       unfold Seg.fin;have hs:(Seg.sti ⟨ops,0,m+1,ks,st,S.own0⟩ (m+1)).slots=stE.slots:=by
        unfold Seg.sti;simp only[List.drop_zero,Nat.sub_zero];have e1:ops.take (m+1)=ops.take m++[so]:=by
         rw[List.take_add_one,Y];rfl
        have e2:(ks.map FK.sym).take (m+1)=ss++[.junk]:=by
         rw[List.take_of_length_le (by simp[H7])]
         simp only[ks,List.map_append,List.map_map];have I:(FK.sym∘FK.val)=λs=>s:=rfl
         rw[I,List.map_id'];rfl
        rw[e1,e2,z3j _ _ _ (by rw[H6,E]),V]
        have e3:({st with own:=S.own0 (m+1)}:St) = {st with own:=S.own0 (m+1)}:=rfl
        have e4:∀ (o':List (Nat×Obj')) (l:List Oper) (ss:List Sym) (st:St),(puts l ss {st with own:=o' }).slots=(puts l ss st).slots:=by
         intro o' l;induction l with
         |nil=>intro ss st;simp[puts]
         |cons y r ih=>
          intro ss st;cases ss with
          |nil=>simp[puts]
          |cons s ss=>
           simp only[puts];have:({st with own:=o' }:St).put y.dst s = {(st.put y.dst s) with own:=o' }:=by
            unfold St.put;cases y.dst <;> rfl
           rw[this];exact ih ss (st.put y.dst s)
        show(puts (ops.take m) ss {st with own:=S.own0 (m+1)}).slots=stE.slots
        rw[e4,hE]
       rw[hs];rfl
      rw[H4];exact zi5 B rfl (λi h1 h2=>cuts i (by omega) h2) hK
   .exact hK.elim
  .exact hK.elim
 .exact hK.elim
attribute [simp] z6o frdB hidB
end
end Go.V

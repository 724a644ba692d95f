/- A program logic of my own over the kit: part X9. It needs no conditions. -/
import Derived.Test.YtknekjalbninmaaGreatX14
set_option linter.unusedVariables false
set_option linter.unusedSimpArgs false
set_option linter.unusedSectionVars false
namespace Go.V
variable [Dr] [Ov]
open Go.RowKit
structure XF where
 xt:XS
 rks:List FK
 hs:List (Nat×Obj')
 ow:List (Nat×Obj')
def hdrop(j:Nat)(l:List (Nat×Obj')):List (Nat×Obj'):=l.filter λx=>!Nat.beq x.1 j
def XF.push(F:XF)(k:FK)(dst:Option Nat)(hs:List (Nat×Obj'))(ow:List (Nat×Obj')):XF:=⟨F.xt.put dst k.sym,k::F.rks,hs,ow⟩
def readers(all:List Oper)(t:Nat):Nat->List Oper->List Nat
 |_,[]=>[]
 |i,o::r=>match (tmpsOf all o).any (Nat.beq t) with
  |true=>i::readers all t (i+1) r
  |false=>readers all t (i+1) r
def takes(t:Nat):FK->Bool
 |.app j src _=>Nat.beq j t ||(match src with |some k=>Nat.beq k t |none=>false)
 |.qD j _=>Nat.beq j t
 |_=>false
def YI(all seg:List Oper)(ks:List FK):Nat->List Oper->List FK->Bool
 |i,o::r,k::kr=>(match k.made,o.dst with
   |some _,some t=>(match readers all t 0 seg with
    | []=>true
    | [m]=>Nat.blt i m&&(match ks[m]? with |some k=>takes t k |none=>false)
    |_=>false)
   |_,_=>true)&&YI all seg ks (i+1) r kr
 |_,_,_=>true
def wi:List FK->List Nat
 | []=>[]
 |.bst id _::r=>id::wi r
 |_::r=>wi r
def YJ(xt:XS):Nat->List (Nat×Obj')->Tr
 |_,[]=>xt.slots
 |n,(t,ob)::r=>(YJ xt (n+1) r).put dep t (ref ob n)
def U1(all seg:List Oper)(bs:List Nat)(s0:XS)(F:XF):Option XS:=
 let ks:=F.rks.reverse
 C0 (YI all seg ks 0 seg ks&&nodupB (wi ks))
  (some {s0 with next:=s0.next+F.hs.length,slots:=YJ F.xt s0.next F.hs,own:=vi s0.next F.hs++F.ow})
def vv(s0:XS)(bs:List Nat):XF:=⟨{s0 with own:=(match bs with | []=>s0.own | _=>s0.own.filter λx=>!bs.any (Nat.beq x.1))},[],[],s0.own⟩
end Go.V
namespace Go.V
variable [Dr] [Ov]
open Go.RowKit
theorem zgj(m:Nat)(v:Value):Sym.lo m (ofConst v):=by unfold ofConst;split <;> simp[Sym.lo]
theorem Rt(m:Nat):∀ (l:List Value),Sym.los m (l.map ofConst)
 | []=>by simp[Sym.los]
 |v::r=>by simp only[List.map_cons,Sym.los];exact⟨zgj m v,Rt m r⟩
section
variable {P:Program} {Γ:XG} {call:Caller}
def Jc(n:Nat)(ρ:Operand->Sym)(o:Oper)(st:St):Prop:=st.n=n/\∀ x∈o.op.operands,ρ x≠.junk->st.val x=ρ x
theorem Ru{ρ:Operand->Sym}{sz:Nat}:∀ {l:List Operand} {rows:List (List D)},rowsOf sz (l.map ρ)=some rows->∀ x∈l,ρ x≠.junk
 |y::r,rows,h,x,H=>by
  simp only[List.map_cons,rowsOf] at h;split at h
  .rename_i d ds G F
   rcases List.mem_cons.1 H with e | H
   .subst e;intro e;rw[e] at G;simp[rowOf,qI] at G
   .exact Ru F x H
  .cases h
theorem Rw:∀ {n:Nat} {parts:List (Nat×Operand)} {l:List Operand},inOrder n parts=some l->∀ x∈l,∃ i,(i,x)∈parts
 |n,[],l,h,x,H=>by simp[inOrder] at h;subst h;cases H
 |n,(i,y)::r,l,h,x,H=>by
  simp only[inOrder] at h;split at h
  .split at h
   .rename_i l' G
    cases h;rcases List.mem_cons.1 H with e | H
    .subst e;exact⟨i,by simp⟩
    .obtain⟨j,hj⟩:=Rw G x H;exact⟨j,List.mem_cons_of_mem _ hj⟩
   .cases h
  .cases h
theorem zji{m off:Nat}{cells l:List Sym}(H:Sym.los m cells)(G:Sym.los m l):Sym.los m (splice cells off l):=Sym.WQ H G off
end
end Go.V
namespace Go.V
variable [Dr] [Ov]
open Go.RowKit
theorem C5{α:Type}:∀ {l:List (Nat×α)} {i:Nat} {o:α},(l.map (·.1)).Nodup->(i,o)∈l->zc l i=some o
 |(k,u)::r,i,o,H,h=>by
  simp only[List.map_cons,List.nodup_cons] at H;simp only[zc];rcases List.mem_cons.1 h with e | h
  .cases e;simp
  .rw[if_neg (λe=>H.1 (by rw[e];exact List.mem_map.2 ⟨(i,o),h,rfl⟩))]
   exact C5 H.2 h
theorem C6{α:Type}{p:Nat->Bool}:∀ {l:List (Nat×α)} {i:Nat} {o:α},zc (l.filter λx=>p x.1) i=some o->p i=true/\zc l i=some o
 | [],i,o,h=>by simp[zc] at h
 |(k,u)::r,i,o,h=>by
  simp only[List.filter_cons] at h;cases H:p k with
  |true=>
   simp only[H,if_true,zc] at h;simp only[zc];by_cases e:k=i
   .rw[if_pos e] at h ⊢;subst e;exact⟨H,h⟩
   .rw[if_neg e] at h ⊢;exact C6 h
  |false=>
   simp only[H,Bool.false_eq_true,if_false] at h;obtain⟨G,F⟩:=C6 h;simp only[zc];rw[if_neg (λe=>by subst e;rw[H] at G;cases G)]
   exact⟨G,F⟩
theorem zjj{o:Oper}{s:Sym}(l:List Oper):∀ (ss:List Sym) (st:St),l.length=ss.length->puts (l++[o]) (ss++[s]) st=(puts l ss st).put o.dst s:=by
 induction l with
 |nil=>
  intro ss st h;cases ss with
  |nil=>rfl
  |cons y ys=>simp at h
 |cons x r ih=>
  intro ss st h;cases ss with
  |nil=>simp at h
  |cons y ys=>exact ih ys (st.put x.dst y) (by simpa using h)
def Held(S:Seg)(i t:Nat)(ob:Obj'):Prop:=((∃ c,S.co c t ob)\/∃ m,m<i/\S.kd m=some (.qD t ob))/\∃ c ob0,c<i/\S.co c t ob0
def Qq(P:Program)(S:Seg)(bs:List Nat)(i:Nat)(o:Oper):FK->Prop
 |.val s=>DStep P S.all o (S.zV i) s/\Sym.lo S.st0.next s
 |.mk ob=>o.guard=none/\(∃ t,o.dst=some t)/\ob.lo S.st0.next /\
   ∀ (st:St) (K:St->Prop),Knows S i o st->K ((st.new ob).put o.dst (ref ob st.next))->yr P o st K
 |.app j src ob=>o.guard=none/\(∃ t,o.dst=some t)/\j∈tmpsOf S.all o/\(∀ k,src=some k->k≠j/\k∈tmpsOf S.all o)/\ob.lo S.st0.next/\jJ ob /\
   ∃ oj ok,Held S i j oj/\jJ oj/\(∀ k,src=some k->Held S i k ok/\jJ ok) /\
   ∀ (st:St) (K:St->Prop) (id:Nat),Knows S i o st->st.val (.tmp j) = .ar id->st.look id=some oj->(∀ k,src=some k->∃ id',id'≠id/\st.val (.tmp k) = .ar id'/\st.look id'=some ok) ->
    K ((st.renew id ob).put o.dst (.ar id))->yr P o st K
 |.qD j ob=>o.guard=none/\o.dst=none/\j∈tmpsOf S.all o/\ob.lo S.st0.next/\wU ob/\∃ oj,Held S i j oj/\wU oj /\
   ∀ (st:St) (K:St->Prop) (id:Nat),Knows S i o st->st.val (.tmp j) = .bp id 0->st.look id=some oj->K {st with own:=zT id ob st.own}->yr P o st K
 |.bst id ob=>o.guard=none/\o.dst=none/\ob.lo S.st0.next/\id∈bs/\∃ o0,zc S.st0.own id=some o0 /\
   ∀ (st:St) (K:St->Prop),Knows S i o st->st.look id=some o0->K {st with own:=zT id ob st.own}->yr P o st K
structure Ext(S S':Seg):Prop where
 all:S'.all=S.all
 st0:S'.st0=S.st0
 kd:∀ m k,S.kd m=some k->S'.kd m=some k
theorem Ext.co{S S':Seg}(h:Ext S S'){c t:Nat}{ob:Obj'}(H:S.co c t ob):S'.co c t ob:=by
 obtain⟨o,k,G,F,E,K⟩:=H
 exact⟨o,k,by rw[h.all];exact G,h.kd c k F,E,K⟩
theorem Ext.held{S S':Seg}(h:Ext S S'){i t:Nat}{ob:Obj'}(H:Held S i t ob):Held S' i t ob:=by
 obtain⟨G,c,ob0,F,E⟩:=H
 exact⟨G.elim (λ⟨c,K⟩=>.inl ⟨c,h.co K⟩) (λ⟨m,J,L⟩=>.inr ⟨m,J,h.kd _ _ L⟩),c,ob0,F,h.co E⟩
theorem Ext.pre{P:Program}{S S':Seg}(h:Ext S S'){bs:List Nat}{i:Nat}{o:Oper}{k:FK}(hs:S'.zV i=S.zV i)(F:Qq P S bs i o k):Qq P S' bs i o k:=by
 have H:∀ st,Knows S' i o st->Knows S i o st:=λst E=>by unfold Knows at E ⊢;rw[hs,h.st0] at E;exact E
 cases k with
 |val s=>simp only[Qq] at F ⊢;rw[h.all,hs,h.st0];exact F
 |mk ob=>
  obtain⟨J,L,M,O⟩:=F;exact⟨J,L,by rw[h.st0];exact M,λst K E=>O st K (H st E)⟩
 |app j src ob=>
  obtain⟨J,L,M,O,Q,T,oj,ok,V,X,Y,G⟩:=F;exact⟨J,L,by rw[h.all];exact M,by rw[h.all];exact O,by rw[h.st0];exact Q,T,oj,ok,h.held V,X,λk E=>⟨h.held (Y k E).1,(Y k E).2⟩,λst K id E=>G st K id (H st E)⟩
 |qD j ob=>
  obtain⟨J,L,M,O,Q,oj,T,V,X⟩:=F;exact⟨J,L,by rw[h.all];exact M,by rw[h.st0];exact O,Q,oj,h.held T,V,λst K id E=>X st K id (H st E)⟩
 |bst id ob=>
  obtain⟨J,L,M,O,o0,Q,T⟩:=F;exact⟨J,L,by rw[h.st0];exact M,O,o0,by rw[h.st0];exact Q,λst K E=>T st K (H st E)⟩
def C7(S:Seg)(i t:Nat)(ob:Obj'):Prop:=((∃ c,S.co c t ob)/\(∀ m k,S.kd m=some k->takes t k=true->False)\/∃ m,m<i/\S.kd m=some (.qD t ob))/\∃ c ob0,c<i/\S.co c t ob0
structure FInv(P:Program)(all:List Oper)(lo:Nat)(st0:St)(own0:List (Nat×Obj'))(bs:List Nat)(F:XF)(i:Nat):Prop where
 len:F.rks.length=i-lo/\lo<=i/\i<=all.length
 ag:Ag (Seg.zV ⟨all,lo,i,F.rks.reverse,st0,λ_=>own0⟩ i) F.xt
 pre:∀ j o k,all[j]?=some o->Seg.kd ⟨all,lo,i,F.rks.reverse,st0,λ_=>own0⟩ j=some k->yo o.dst st0.n=true/\Qq P ⟨all,lo,i,F.rks.reverse,st0,λ_=>own0⟩ bs j o k
 hs:∀ t ob,(t,ob)∈F.hs->C7 ⟨all,lo,i,F.rks.reverse,st0,λ_=>own0⟩ i t ob/\t+1<4096/\ob.lo st0.next
 hsn:(F.hs.map (·.1)).Nodup
 owk:F.ow.map (·.1)=st0.own.map (·.1)
 ow:(st0.own.map (·.1)).Nodup->∀ id o,(id,o)∈F.ow->(∃ m,Seg.kd ⟨all,lo,i,F.rks.reverse,st0,λ_=>own0⟩ m=some (.bst id o))\/(zc st0.own id=some o/\∀ m ob,Seg.kd ⟨all,lo,i,F.rks.reverse,st0,λ_=>own0⟩ m≠some (.bst id ob))
section
variable {P:Program} {Γ:XG} {call:Caller} {all:List Oper} {lo:Nat} {st0:St} {own0:List (Nat×Obj')} {bs:List Nat} {F F':XF} {i:Nat} {o:Oper} {k:FK}
theorem Rx{ks:List FK}(G:ks.length=i-lo)(H:lo<=i)(m:Nat):Seg.kd ⟨all,lo,i+1,ks++[k],st0,λ_=>own0⟩ m=if m=i then some k else Seg.kd ⟨all,lo,i,ks,st0,λ_=>own0⟩ m:=by
 unfold Seg.kd
 simp only
 by_cases e:m=i
 .subst e
  rw[if_pos (by omega),if_pos rfl,List.getElem?_append_right (by omega),G];simp
 .rw[if_neg e]
  by_cases h:lo<=m/\m<i
  .rw[if_pos (by omega),if_pos h,List.getElem?_append_left (by omega)]
  .rw[if_neg (by omega),if_neg h]
theorem U2{ks:List FK}(G:ks.length=i-lo)(H:lo<=i){m:Nat}(F:m<=i):Seg.zV ⟨all,lo,i+1,ks++[k],st0,λ_=>own0⟩ m=Seg.zV ⟨all,lo,i,ks,st0,λ_=>own0⟩ m:=by
 unfold Seg.zV
 simp only
 rw[List.map_append,List.take_append_of_le_length (by simp;omega)]
theorem Ry{ks:List FK}(F:ks.length=i-lo)(H:lo<=i)(E:all[i]?=some o):Seg.zV ⟨all,lo,i+1,ks++[k],st0,λ_=>own0⟩ (i+1)=(Seg.zV ⟨all,lo,i,ks,st0,λ_=>own0⟩ i).put o.dst k.sym:=by
 have G:=(List.getElem?_eq_some_iff.1 E).1
 unfold Seg.zV
 simp only
 have e1:(all.drop lo).take (i+1-lo)=(all.drop lo).take (i-lo)++[o]:=by
  have:i+1-lo=i-lo+1:=by omega
  rw[this,List.take_add_one,List.getElem?_drop];have:lo+(i-lo)=i:=by omega
  rw[this,E];rfl
 have e2:((ks++[k]).map FK.sym).take (i+1-lo)=(ks.map FK.sym).take (i-lo)++[k.sym]:=by
  rw[List.map_append,List.take_of_length_le (by simp;omega),List.take_of_length_le (by simp;omega)];rfl
 rw[e1,e2,zjj _ _ _ (by simp;omega)]
theorem FInv.ext(H:FInv P all lo st0 own0 bs F i):Ext ⟨all,lo,i,F.rks.reverse,st0,λ_=>own0⟩ ⟨all,lo,i+1,(k::F.rks).reverse,st0,λ_=>own0⟩:=by
 refine⟨rfl,rfl,λm k' h=>?_⟩
 rw[List.reverse_cons,Rx (by simpa using H.len.1) H.len.2.1,if_neg (λe=>by have:=(Seg.j7 h).2;simp at this;omega)];exact h
theorem FInv.push(N:yU all=true)(hI:FInv P all lo st0 own0 bs F i)(ho:all[i]?=some o)(Q:YH o.dst st0.n=true){dst:Option Nat}(T:dst=o.dst){V ow':List (Nat×Obj')}
  (E:Qq P ⟨all,lo,i+1,(k::F.rks).reverse,st0,λ_=>own0⟩ bs i o k)
  (S:∀ t ob,(t,ob)∈V->((t,ob)∈F.hs/\takes t k=false)\/(k.made=some ob/\o.dst=some t)\/(k = .qD t ob/\∃ ob0,(t,ob0)∈F.hs))
  (W:(V.map (·.1)).Nodup)
  (B:(ow'=F.ow/\∀ id ob,k≠.bst id ob)\/∃ id ob,k = .bst id ob/\ow'=zT id ob F.ow):FInv P all lo st0 own0 bs (F.push k dst V ow') (i+1):=by
 subst T
 have H0:=(List.getElem?_eq_some_iff.1 ho).1
 have hl:F.rks.reverse.length=i-lo:=by simpa using hI.len.1
 have K:=hI.ext (k:=k)
 have L:=λm=>Rx (all:=all) (st0:=st0) (own0:=own0) (k:=k) hl hI.len.2.1 m
 have G:(k::F.rks).reverse=F.rks.reverse++[k]:=by simp
 refine⟨⟨by simp only[XF.push,List.length_cons];have:=hI.len;omega,by have:=hI.len;omega,H0⟩,?_,?_,?_,W,?_,?_⟩
 .simp only[XF.push]
  rw[G,Ry hl hI.len.2.1 ho];exact hI.ag.put Q _
 .intro j y k' hj H
  simp only[XF.push] at H ⊢;rw[G,L] at H;by_cases e:j=i
  .subst e
   rw[if_pos rfl] at H;cases H;rw[ho] at hj;cases hj;refine⟨?_,E⟩
   have:=(KZ Q).1
   unfold yo;split
   .rename_i t ht;simpa using this t ht
   .rfl
  .rw[if_neg e] at H
   obtain⟨h1,h2⟩:=hI.pre j y k' hj H;refine⟨h1,K.pre ?_ h2⟩
   rw[G];exact U2 hl hI.len.2.1 (by have:=(Seg.j7 H).2;simp at this;omega)
 .intro t ob J
  simp only[XF.push];have M:Seg.kd ⟨all,lo,i+1,(k::F.rks).reverse,st0,λ_=>own0⟩ i=some k:=by rw[G,L,if_pos rfl]
  have noOld:o.dst=some t->∀ c ob0,¬(c<i/\Seg.co ⟨all,lo,i+1,(k::F.rks).reverse,st0,λ_=>own0⟩ c t ob0):=by
   rintro hd c ob0 ⟨hc,y,k2,h1,_,h3,_⟩
   exact absurd hd ((ky N h1 ho hc).1 t h3).2
  rcases S t ob J with⟨h1,h2⟩ | ⟨h1,h2⟩ | ⟨h1,ob1,H1⟩
  .obtain⟨⟨hr,c,ob0,H2,X⟩,Y,Z⟩:=hI.hs t ob h1
   refine⟨⟨?_,c,ob0,by omega,K.co X⟩,Y,Z⟩
   rcases hr with⟨⟨c',Hb⟩,Hc⟩ | ⟨m,hm,H⟩
   .refine .inl ⟨⟨c',K.co Hb⟩,λm k' H ht=>?_⟩
    rw[G,L] at H;by_cases e:m=i
    .rw[if_pos e] at H;cases H;rw[h2] at ht;cases ht
    .rw[if_neg e] at H;exact Hc m k' H ht
   .exact .inr ⟨m,by omega,K.kd _ _ H⟩
  .have C:Seg.co ⟨all,lo,i+1,(k::F.rks).reverse,st0,λ_=>own0⟩ i t ob:=⟨o,k,ho,M,h2,h1⟩
   have A:ob.lo st0.next:=by
    cases k <;> simp only[FK.made] at h1 <;> cases h1
    .exact E.2.2.1
    .exact E.2.2.2.2.1
   refine⟨⟨.inl ⟨⟨i,C⟩,λm k' H ht=>?_⟩,i,ob,by omega,C⟩,(KZ Q).2 t h2,A⟩
   -- a taker of t names an elder maker
   have hp:Qq P ⟨all,lo,i+1,(k::F.rks).reverse,st0,λ_=>own0⟩ bs m (all[m]?.getD o) k'/\m<=i:=by
    rw[G,L] at H;by_cases e:m=i
    .subst e;rw[if_pos rfl] at H;cases H;rw[ho];exact⟨E,Nat.le_refl _⟩
    .rw[if_neg e] at H
     have I:=(Seg.j7 H).2;simp at I
     have hm:all[m]?=some all[m]:=List.getElem?_eq_getElem (by omega)
     rw[hm];refine⟨K.pre ?_ (hI.pre m _ k' hm H).2,by omega⟩
     rw[G];exact U2 hl hI.len.2.1 (by omega)
   obtain⟨hp,I⟩:=hp;have old:∀ ob',Held ⟨all,lo,i+1,(k::F.rks).reverse,st0,λ_=>own0⟩ m t ob'->False:=λob' hh=>by
    obtain⟨_,c,ob0,h3,h4⟩:=hh;exact noOld h2 c ob0 ⟨by omega,h4⟩
   cases k' with
   |app j src ob'=>
    obtain⟨_,_,_,_,_,_,oj,ok,h7,_,h9,_⟩:=hp;simp only[takes,Bool.or_eq_true,beq_iff] at ht;rcases ht with rfl | ht
    .exact old _ h7
    .split at ht
     .rename_i k2;rw[beq_iff] at ht;subst ht;exact old _ (h9 _ rfl).1
     .cases ht
   |qD j ob'=>
    obtain⟨_,_,_,_,_,oj,h7,_⟩:=hp;simp only[takes,beq_iff] at ht;subst ht;exact old _ h7
   |_=>simp[takes] at ht
  .subst h1
   obtain⟨_,_,_,Z,_,oj,⟨_,c,ob0,H2,X⟩,_⟩:=E;have Y:t+1<4096:=(hI.hs t ob1 H1).2.1
   exact⟨⟨.inr ⟨i,by omega,M⟩,c,ob0,by omega,X⟩,Y,Z⟩
 .simp only[XF.push]
  rcases B with⟨rfl,_⟩ | ⟨id,ob,rfl,rfl⟩
  .exact hI.owk
  .obtain⟨_,_,_,_,o0,h5,_⟩:=E
   rw[XH (by rw[hI.owk];exact List.mem_map.2 ⟨_,x8 h5,rfl⟩)]
   exact hI.owk
 .intro hn id o' J
  simp only[XF.push] at J ⊢;rw[G];have Hd:(F.ow.map (·.1)).Nodup:=by rw[hI.owk];exact hn
  have old:∀ {id o'},(id,o')∈F.ow->(∀ ob,k≠.bst id ob)->(∃ m,Seg.kd ⟨all,lo,i+1,F.rks.reverse++[k],st0,λ_=>own0⟩ m=some (.bst id o'))\/(zc st0.own id=some o'/\∀ m ob,Seg.kd ⟨all,lo,i+1,F.rks.reverse++[k],st0,λ_=>own0⟩ m≠some (.bst id ob)):=by
   intro id o' hm O;rcases hI.ow hn id o' hm with⟨m,H⟩ | ⟨h1,h2⟩
   .exact .inl ⟨m,by rw[<-G];exact K.kd _ _ H⟩
   .refine .inr ⟨h1,λm ob H=>?_⟩
    rw[L] at H;by_cases e:m=i
    .rw[if_pos e] at H;cases H;exact O ob rfl
    .rw[if_neg e] at H;exact h2 m ob H
  rcases B with⟨rfl,O⟩ | ⟨id',ob,rfl,rfl⟩
  .exact old J λob=>O id ob
  .rcases XI Hd J with⟨rfl,rfl⟩ | ⟨O,hm⟩
   .exact .inl ⟨i,by rw[L,if_pos rfl]⟩
   .exact old hm λob' e=>by cases e;exact O rfl
end
end Go.V
namespace Go.V
variable [Dr] [Ov]
open Go.RowKit
theorem YK{j:Nat}{l:List (Nat×Obj')}{x:Nat×Obj'}(h:x∈hdrop j l):x∈l/\x.1≠j:=by
 unfold hdrop at h
 obtain⟨H,G⟩:=List.mem_filter.1 h
 refine⟨H,λe=>?_⟩
 rw[beq_iff.2 e] at G;cases G
theorem U3{j:Nat}{l:List (Nat×Obj')}(h:(l.map (·.1)).Nodup):((hdrop j l).map (·.1)).Nodup:=h.sublist (List.Sublist.map _ List.filter_sublist)
section
variable {P:Program} {Γ:XG} {call:Caller} {all:List Oper} {lo:Nat} {st0:St} {s0:XS} {own0:List (Nat×Obj')} {bs:List Nat} {F F':XF} {i:Nat} {o:Oper} {k:FK}
theorem C7.held{S:Seg}{i t:Nat}{ob:Obj'}(h:C7 S i t ob):Held S i t ob:=⟨h.1.elim (λh=>.inl h.1) .inr,h.2⟩
theorem FInv.knows(H:FInv P all lo st0 own0 bs F i){st:St}(h:Knows ⟨all,lo,i+1,(k::F.rks).reverse,st0,λ_=>own0⟩ i o st):Jc st0.n F.xt.val o st:=by
 obtain⟨G,E⟩:=h
 refine⟨G,?_⟩
 rw[List.reverse_cons,U2 (by simpa using H.len.1) H.len.2.1 (Nat.le_refl _),H.ag.val] at E
 exact E
theorem FInv.fresh(H:yU all=true)(G:FInv P all lo st0 own0 bs F i)(E:all[i]?=some o){d:Nat}(K:o.dst=some d){ob:Obj'}:(d,ob)∉F.hs:=by
 intro J
 obtain⟨⟨_,c,ob0,L,⟨y,k2,M,_,O,_⟩⟩,_⟩:=G.hs d ob J
 exact((ky H M E L).1 d O).2 K
theorem FInv.fresh'(H:yU all=true)(G:FInv P all lo st0 own0 bs F i)(E:all[i]?=some o){d:Nat}(K:o.dst=some d){l:List (Nat×Obj')}(J:∀ x∈l,x∈F.hs):d∉l.map (·.1):=by
 intro L
 obtain⟨⟨t,ob⟩,M,O⟩:=List.mem_map.1 L
 simp at O;subst O
 exact G.fresh H E K (J _ M)
theorem Rz{t:Nat}:∀ {i:Nat} {l:List Oper} {m:Nat},m∈readers all t i l↔∃ o,i<=m/\l[m-i]?=some o/\t∈tmpsOf all o
 |i,[],m=>by simp[readers]
 |i,o::r,m=>by
  have ih:=Rz (t:=t) (i:=i+1) (l:=r) (m:=m);have step:(∃ o',i+1<=m/\r[m-(i+1)]?=some o'/\t∈tmpsOf all o')↔∃ o',i<m/\(o::r)[m-i]?=some o'/\t∈tmpsOf all o':=by
   constructor
   .rintro⟨o',H,G,F⟩
    refine⟨o',H,?_,F⟩
    have:m-i=(m-(i+1))+1:=by omega
    rw[this,List.getElem?_cons_succ];exact G
   .rintro⟨o',H,G,F⟩
    refine⟨o',H,?_,F⟩
    have:m-i=(m-(i+1))+1:=by omega
    rw[this,List.getElem?_cons_succ] at G;exact G
  simp only[readers];split
  .rename_i E
   rw[any_beq] at E;rw[List.mem_cons,ih,step];constructor
   .rintro(rfl | ⟨o',H,G,F⟩)
    .exact⟨o,Nat.le_refl _,by simp,E⟩
    .exact⟨o',by omega,G,F⟩
   .rintro⟨o',H,G,F⟩
    rcases Nat.eq_or_lt_of_le H with e | K
    .exact .inl e.symm
    .exact .inr ⟨o',K,G,F⟩
  .rename_i E
   rw[ih,step];constructor
   .rintro⟨o',H,G,F⟩;exact⟨o',by omega,G,F⟩
   .rintro⟨o',H,G,F⟩
    rcases Nat.eq_or_lt_of_le H with e | K
    .subst e
     simp at G;subst G
     rw[any_beq.2 F] at E;cases E
    .exact⟨o',K,G,F⟩
theorem RA{seg:List Oper}{ks:List FK}:∀ {i:Nat} {r:List Oper} {kr:List FK},YI all seg ks i r kr=true->∀ (c:Nat) (o:Oper) (k:FK) (t:Nat) (ob:Obj'),r[c]?=some o->kr[c]?=some k->k.made=some ob->o.dst=some t ->
  readers all t 0 seg=[]\/∃ m k',readers all t 0 seg=[m]/\i+c<m/\ks[m]?=some k'/\takes t k'=true
 |i,[],kr,h,c,o,k,t,ob,G,_,_,_=>by simp at G
 |i,y::r,[],h,c,o,k,t,ob,_,F,_,_=>by simp at F
 |i,y::r,k0::kr,h,c,o,k,t,ob,G,F,E,K=>by
  simp only[YI,Bool.and_eq_true] at h;cases c with
  |zero=>
   simp at G F
   subst G;subst F;have J:=h.1;rw[E,K] at J;simp only at J
   split at J
   .rename_i e;exact .inl e
   .rename_i m e
    rw[Bool.and_eq_true,gV] at J;obtain⟨L,M⟩:=J;split at M
    .rename_i k' H;exact .inr ⟨m,k',e,by omega,H,M⟩
    .cases M
   .cases J
  |succ c=>
   rcases RA h.2 c o k t ob (by simpa using G) (by simpa using F) E K with e | ⟨m,k',J,L,M⟩
   .exact .inl e
   .exact .inr ⟨m,k',J,by omega,M⟩
theorem zeg:∀ {ks:List FK} {i j id:Nat} {ob ob':Obj'},(wi ks).Nodup->ks[i]?=some (.bst id ob)->ks[j]?=some (.bst id ob')->i=j:=by
 have mem:∀ {ks:List FK} {i id:Nat} {ob:Obj'},ks[i]?=some (.bst id ob)->id∈wi ks:=by
  intro ks;induction ks with
  |nil=>intro i id ob h;simp at h
  |cons k r ih=>
   intro i id ob h;cases i with
   |zero=>simp at h;subst h;simp[wi]
   |succ i=>
    have:=ih (i:=i) (by simpa using h)
    cases k <;> simp only[wi] <;> first | exact List.mem_cons_of_mem _ this | exact this
 intro ks
 induction ks with
 |nil=>intro i j id ob ob' _ h;simp at h
 |cons k r ih=>
  intro i j id ob ob' E hi hj;have H:(wi r).Nodup:=by
   cases k <;> simp only[wi] at E <;> first | exact(List.nodup_cons.1 E).2 | exact E
  cases i with
  |zero=>
   cases j with
   |zero=>rfl
   |succ j=>
    simp at hi;subst hi
    simp only[wi] at E;exact absurd (mem (i:=j) (by simpa using hj)) (List.nodup_cons.1 E).1
  |succ i=>
   cases j with
   |zero=>
    simp at hj;subst hj
    simp only[wi] at E;exact absurd (mem (i:=i) (by simpa using hi)) (List.nodup_cons.1 E).1
   |succ j=>
    have G:r[i]?=some (.bst id ob):=by simpa using hi
    have F:r[j]?=some (.bst id ob'):=by simpa using hj
    have:=ih H G F
    omega
theorem RB{xt:XS}:∀ {n:Nat} {l:List (Nat×Obj')} {u:Nat},(∀ t ob,(t,ob)∈l->t+1<4096)->Tr.get dep (YJ xt n l) u=match zc (vH n l) u with | some s=>some s | none=>xt.get u
 |n,[],u,h=>rfl
 |n,(t,ob)::r,u,h=>by
  simp only[YJ,vH,zc];rw[Tr.get_put dep _ t _ u (by simpa[dep] using h t ob (by simp))]
  by_cases e:t=u
  .rw[if_pos e,if_pos e]
  .rw[if_neg e,if_neg e];exact RB λt' ob' H=>h t' ob' (List.mem_cons_of_mem _ H)
theorem Y4{α:Type}:∀ {l m:List (Nat×α)} {t:Nat},zc (l++m) t=match zc l t with | some s=>some s | none=>zc m t
 | [],m,t=>rfl
 |(k,v)::r,m,t=>by
  simp only[List.cons_append,zc];split
  .rfl
  .exact Y4
theorem RD(B:yU all=true){hi:Nat}(hI:FInv P all lo st0 own0 bs F hi)(M:∀ id o,zc own0 id=some o->zc st0.own id=some o/\id∉bs)(E:Ag st0 s0){xs':XS}(h:U1 all ((all.drop lo).take (hi-lo)) bs s0 F=some xs'):
  SegOk P ⟨all,lo,hi,F.rks.reverse,st0,λ_=>own0⟩/\SegEnd ⟨all,lo,hi,F.rks.reverse,st0,λ_=>own0⟩ F.hs F.ow/\Ag (Seg.fin ⟨all,lo,hi,F.rks.reverse,st0,λ_=>own0⟩ F.hs F.ow) xs':=by
 unfold U1 at h
 simp only at h
 rw[C4,Bool.and_eq_true] at h
 obtain⟨⟨O,C⟩,h⟩:=h
 cases h
 obtain⟨hl,H0,H1⟩:=hI.len
 obtain⟨S,hS⟩:∃ S:Seg,S=⟨all,lo,hi,F.rks.reverse,st0,λ_=>own0⟩:=⟨_,rfl⟩
 have pre:=hI.pre
 have X:=hI.hs
 have Y:=hI.ow
 have J:=hI.ag
 rw[<-hS] at pre X Y J ⊢
 have eall:S.all=all:=by rw[hS]
 have est:S.st0=st0:=by rw[hS]
 have G:∀ m,lo<=m->m<hi->((all.drop lo).take (hi-lo))[m-lo]?=all[m]?:=by
  intro m h1 h2;rw[List.getElem?_take,if_pos (by omega),List.getElem?_drop]
  have:lo+(m-lo)=m:=by omega
  rw[this]
 have H:∀ m k,S.kd m=some k->lo<=m/\m<hi/\F.rks.reverse[m-lo]?=some k:=by
  intro m k hk;rw[hS] at hk;have:=Seg.j7 hk
  unfold Seg.kd at hk;rw[if_pos this] at hk;exact⟨this.1,this.2,hk⟩
 have L:∀ m k,F.rks.reverse[m]?=some k->S.kd (lo+m)=some k:=by
  intro m k hk;have Z:=(List.getElem?_eq_some_iff.1 hk).1;simp at Z
  rw[hS];unfold Seg.kd;simp only
  rw[if_pos (by omega)]
  have:lo+m-lo=m:=by omega
  rw[this];exact hk
 have K:∀ t m,S.user t m->m-lo∈readers all t 0 ((all.drop lo).take (hi-lo))/\lo<=m:=by
  rintro t m ⟨y,k',h1,h2,h3⟩
  rw[eall] at h1 h3;obtain⟨g1,g2,_⟩:=H m k' h2;exact⟨Rz.2 ⟨y,Nat.zero_le _,by rw[Nat.sub_zero,G m g1 g2];exact h1,h3⟩,g1⟩
 -- who reads a slot that was made here
 have one:∀ c t ob,S.co c t ob->(∀ m,¬S.user t m)\/∃ m k',(∀ m',S.user t m'->m'=m)/\c<m/\S.kd m=some k'/\takes t k'=true:=by
  rintro c t ob ⟨y,k',h1,h2,h3,h4⟩
  rw[eall] at h1;obtain⟨g1,g2,g3⟩:=H c k' h2;rcases RA O (c-lo) y k' t ob (by rw[G c g1 g2];exact h1) g3 h4 h3 with e | ⟨m,k2,e1,e2,e3,e4⟩
  .refine .inl λm hu=>?_
   have:=(K t m hu).1
   rw[e] at this;cases this
  .refine .inr ⟨lo+m,k2,λm' hu=>?_,by omega,L m k2 e3,e4⟩
   have:=K t m' hu
   rw[e1] at this;simp at this;omega
 have len':S.lo<=S.hi/\S.hi<=S.all.length/\S.ks.length=S.hi-S.lo:=by rw[hS];simp;omega
 have userOf:∀ {t m y},all[m]?=some y->(∃ k,S.kd m=some k)->t∈tmpsOf all y->S.user t m:=λh1 ⟨k,h2⟩ h3=>⟨_,k,by rw[eall];exact h1,h2,by rw[eall];exact h3⟩
 have stoBox:∀ {m t ob},S.kd m=some (.qD t ob)->wU ob/\S.user t m:=by
  intro m t ob hk;obtain⟨g1,g2,g3⟩:=H m _ hk;have hm:all[m]?=some all[m]:=List.getElem?_eq_getElem (by omega)
  obtain⟨_,_,_,h3,_,h5,_⟩:=pre m _ _ hm hk;rw[eall] at h3;exact⟨h5,userOf hm ⟨_,hk⟩ h3⟩
 have sok:SegOk P S:=by
  refine⟨by rw[eall];exact B,len',?_,?_,?_,?_,?_⟩
  .rintro t m m' ⟨c,ob,hc⟩ hu Q
   rcases one c t ob hc with h | ⟨x,_,h,_⟩
   .exact absurd hu (h m)
   .rw[h m hu,h m' Q]
  .intro c t ob m hc hu
   rcases one c t ob hc with h | ⟨x,_,h,h2,_⟩
   .exact absurd hu (h m)
   .rw[h m hu];exact h2
  .intro a b id ob ob' h1 h2
   obtain⟨g1,g2,g3⟩:=H a _ h1;obtain⟨g4,g5,g6⟩:=H b _ h2;have:=zeg (Rr C) g3 g6
   omega
  .intro _ id o' h1
   have I:zc own0 id=some o':=by rw[hS] at h1;exact h1
   obtain⟨g1,g2⟩:=M id o' I;refine⟨by rw[est];exact g1,λm ob hk=>?_⟩
   obtain⟨q1,q2,q3⟩:=H m _ hk;have hm:all[m]?=some all[m]:=List.getElem?_eq_getElem (by omega)
   obtain⟨_,_,_,_,h4,_⟩:=pre m _ _ hm hk;exact(g2 h4).elim
  .intro m y k' hm hk
   rw[eall] at hm;obtain⟨N,hp⟩:=pre m y k' hm hk;refine⟨by rw[est];exact N,?_⟩
   have noU:(∀ t,takes t k'=false)->∀ t∈tmpsOf S.all y,¬S.U t:=by
    rintro T t ht ⟨c,ob,hc⟩
    rw[eall] at ht;have hu:=userOf hm ⟨k',hk⟩ ht;rcases one c t ob hc with h | ⟨x,k2,h,_,h3,h4⟩
    .exact h m hu
    .have:=h m hu;subst this
     rw[hk] at h3;cases h3;rw[T t] at h4;cases h4
   have takeU:∀ t∈tmpsOf S.all y,S.U t->takes t k'=true:=by
    rintro t ht ⟨c,ob,hc⟩
    rw[eall] at ht;have hu:=userOf hm ⟨k',hk⟩ ht;rcases one c t ob hc with h | ⟨x,k2,h,_,h3,h4⟩
    .exact absurd hu (h m)
    .have:=h m hu;subst this
     rw[hk] at h3;cases h3;exact h4
   cases k' with
   |val s=>exact⟨noU λt=>rfl,hp⟩
   |mk ob=>exact⟨hp.1,hp.2.1,noU λt=>rfl,hp.2.2⟩
   |app j src ob=>
    obtain⟨h1,h2,h3,h4,h5,h6,oj,ok,h7,h8,h9,W⟩:=hp;have made:∀ {t ob'},Held S m t ob'->jJ ob'->∃ c,S.co c t ob':=by
     intro t ob' hh ha;rcases hh.1 with h | ⟨m',_,V⟩
     .exact h
     .have:=(stoBox V).1
      cases ob' <;> simp only[jJ,wU] at ha this
    refine⟨h1,h2,λt ht hU=>?_,h3,h4,h5,h6,oj,ok,made h7 h8,h8,λk hk=>⟨made (h9 k hk).1 (h9 k hk).2,(h9 k hk).2⟩,W⟩
    have:=takeU t ht hU
    simp only[takes,Bool.or_eq_true,beq_iff] at this;rcases this with e | e
    .exact .inl e.symm
    .right
     split at e
     .rw[beq_iff] at e;rw[e]
     .cases e
   |qD j ob=>
    obtain⟨h1,h2,h3,h4,h5,oj,h6,h7,h8⟩:=hp;refine⟨h1,h2,λt ht hU=>?_,h3,h4,h5,oj,?_,h7,h8⟩
    .have:=takeU t ht hU
     simp only[takes,beq_iff] at this;exact this.symm
    .rcases h6.1 with h | ⟨m',Z,V⟩
     .exact h
     .obtain⟨_,c,ob0,_,hc⟩:=h6
      have Q:=(stoBox V).2;have hu:S.user j m:=userOf hm ⟨_,hk⟩ (by rw[eall] at h3;exact h3)
      rcases one c j ob0 hc with h | ⟨x,_,h,_⟩
      .exact absurd hu (h m)
      .have e1:=h m hu;have e2:=h m' Q;omega
   |bst id ob=>exact⟨hp.1,hp.2.1,noU λt=>rfl,hp.2.2.1,hp.2.2.2.2⟩
 refine⟨sok,⟨?_,hI.hsn,by rw[est];exact hI.owk,?_⟩,?_⟩
 .intro t ob hm
  obtain⟨⟨hr,c,ob0,_,hc⟩,_⟩:=X t ob hm;rcases hr with⟨⟨c',A⟩,T⟩ | ⟨m,_,hk⟩
  .refine⟨c',ob,A,.inl ⟨rfl,λm hu=>?_⟩⟩
   rcases one c' t ob A with h | ⟨x,k2,h,_,h3,h4⟩
   .exact h m hu
   .exact T x k2 h3 h4
  .exact⟨c,ob0,hc,.inr ⟨m,(stoBox hk).2,hk⟩⟩
 .rw[est];exact Y
 .refine⟨?_,?_,?_,?_,?_,λt=>?_⟩
  .show S.st0.n=_;rw[est];exact E.n
  .show S.st0.next+F.hs.length=_;rw[est,E.next]
  .show vi S.st0.next F.hs++F.ow=_;rw[est,E.next]
  .show S.st0.base=_;rw[est];exact E.base
  .show ∀ id,id<S.st0.base->id∈S.st0.moved->_;rw[est];exact E.moved
  .show zc (vH S.st0.next F.hs++(S.zV S.hi).slots) t=Tr.get dep (YJ F.xt s0.next F.hs) t
   have ehi:S.hi=hi:=by rw[hS]
   rw[Y4,RB (λt ob hm=>(hI.hs t ob hm).2.1),est,E.next,ehi]
   have:=J.slots t
   cases zc (vH s0.next F.hs) t with
   |some s=>rfl
   |none=>exact this
theorem RE{st:St}{xs:XS}(H:Ag st xs){pos:Nat}(G:pos<=all.length)(bs:List Nat):FInv P all pos st (vv xs bs).xt.own bs (vv xs bs) pos/\∀ id o,zc (vv xs bs).xt.own id=some o->zc st.own id=some o/\id∉bs:=by
 have F:∀ m k,Seg.kd ⟨all,pos,pos,(vv xs bs).rks.reverse,st,λ_=>(vv xs bs).xt.own⟩ m=some k->False:=λm k h=>by have:=Seg.j7 h;simp at this;omega
 refine⟨⟨⟨by simp[vv],Nat.le_refl _,G⟩,?_,λj o k _ E=>absurd E (λh=>F _ _ h),λt ob h=>by simp[vv] at h,by simp[vv],by simp only[vv];rw[H.own],λK id o h=>.inr ⟨C5 K (by simp only[vv] at h;rw[H.own];exact h),λm ob E=>F _ _ E⟩⟩,?_⟩
 .have e:Seg.zV ⟨all,pos,pos,(vv xs bs).rks.reverse,st,λ_=>(vv xs bs).xt.own⟩ pos = {st with own:=(vv xs bs).xt.own}:=by
   unfold Seg.zV;simp[puts]
  rw[e];exact⟨H.n,H.next,rfl,H.base,H.moved,H.slots⟩
 .intro id o h
  cases bs with
  |nil=>simp only[vv] at h;rw[H.own];exact⟨h,by simp⟩
  |cons b r=>
   simp only[vv] at h;obtain⟨J,L⟩:=C6 (p:=λi=>!(b::r).any (Nat.beq i)) h
   rw[H.own];refine⟨L,λhm=>?_⟩
   rw[any_beq.2 hm] at J;cases J
end
end Go.V

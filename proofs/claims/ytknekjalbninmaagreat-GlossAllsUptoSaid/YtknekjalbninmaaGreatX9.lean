/- A program logic of my own over the kit: part X9. It needs no conditions. -/
import Derived.Test.YtknekjalbninmaaGreatX14
set_option linter.all false
namespace Go.V
variable [Dr] [Ov]
open Go.RowKit
structure XF where
 xt:XS
 cS:List FK
 hs:List (Nat×am)
 ow:List (Nat×am)
def dR(j:Nat)(l:List (Nat×am)):List (Nat×am):=l.filter λx=>!Nat.beq x.1 j
def XF.push(F:XF)(k:FK)(dst:Option Nat)(hs:List (Nat×am))(ow:List (Nat×am)):XF:=⟨F.xt.put dst k.sym,k::F.cS,hs,ow⟩
def cQ(all:List Oper)(t:Nat):Nat->List Oper->List Nat
 |_,[]=>[]
 |i,o::r=>match (aX all o).any (Nat.beq t) with
  |true=>i::cQ all t (i+1) r
  |false=>cQ all t (i+1) r
def dG(t:Nat):FK->Bool
 |.fC j bl _=>Nat.beq j t ||(match bl with |some k=>Nat.beq k t |none=>false)
 |.qb j _=>Nat.beq j t
 |_=>false
def YC(all ic:List Oper)(ks:List FK):Nat->List Oper->List FK->Bool
 |i,o::r,k::kr=>(match k.eV,o.dst with
   |some _,some t=>(match cQ all t 0 ic with
    | []=>true
    | [m]=>Nat.blt i m&&(match ks[m]? with |some k=>dG t k |none=>false)
    |_=>false)
   |_,_=>true)&&YC all ic ks (i+1) r kr
 |_,_,_=>true
def wJ:List FK->List Nat
 | []=>[]
 |.eh id _::r=>id::wJ r
 |_::r=>wJ r
def YD(xt:XS):Nat->List (Nat×am)->Tr
 |_,[]=>xt.af
 |n,(t,ob)::r=>(YD xt (n+1) r).put iI t (cd ob n)
def W4(all ic:List Oper)(bs:List Nat)(s0:XS)(F:XF):Option XS:=
 let ks:=F.cS.reverse
 Ea (YC all ic ks 0 ic ks&&eP (wJ ks))
  (some {s0 with next:=s0.next+F.hs.length,af:=YD F.xt s0.next F.hs,own:=qA s0.next F.hs++F.ow})
def vx(s0:XS)(bs:List Nat):XF:=⟨{s0 with own:=(match bs with | []=>s0.own | _=>s0.own.filter λx=>!bs.any (Nat.beq x.1))},[],[],s0.own⟩
end Go.V
namespace Go.V
variable [Dr] [Ov]
open Go.RowKit
theorem zit(m:Nat)(v:Value):ah.lo m (bY v):=by unfold bY;split <;> simp[ah.lo]
theorem AH(m:Nat):∀ (l:List Value),ah.a_ m (l.map bY)
 | []=>by simp[ah.a_]
 |v::r=>by simp only[nK,ah.a_];exact⟨zit m v,AH m r⟩
section
variable {P:Program} {Γ:XG} {call:dH}
def W5(n:Nat)(ρ:Operand->ah)(o:Oper)(st:St):Prop:=st.n=n/\∀ x∈o.op.operands,ρ x≠.junk->st.val x=ρ x
theorem AI{ρ:Operand->ah}{sz:Nat}:∀ {l:List Operand} {rows:List (List D)},dL sz (l.map ρ)=some rows->∀ x∈l,ρ x≠.junk
 |y::r,rows,h,x,H=>by
  simp only[nK,dL] at h;split at h
  .rename_i d ds G F
   rcases nE.1 H with e | H
   .subst e;intro e;rw[e] at G;simp[ii,vh] at G
   .exact AI F x H
  .cases h
theorem AK:∀ {n:Nat} {parts:List (Nat×Operand)} {l:List Operand},cp n parts=some l->∀ x∈l,∃ i,(i,x)∈parts
 |n,[],l,h,x,H=>by simp[cp] at h;subst h;cases H
 |n,(i,y)::r,l,h,x,H=>by
  simp only[cp] at h;split at h
  .split at h
   .rename_i l' G
    cases h;rcases nE.1 H with e | H
    .subst e;exact⟨i,by simp⟩
    .obtain⟨j,hj⟩:=AK G x H;exact⟨j,nG _ hj⟩
   .cases h
  .cases h
theorem zmy{m off:Nat}{cells l:List ah}(H:ah.a_ m cells)(G:ah.a_ m l):ah.a_ m (aO cells off l):=ah.U7 H G off
end
end Go.V
namespace Go.V
variable [Dr] [Ov]
open Go.RowKit
theorem Ed{α:Type}:∀ {l:List (Nat×α)} {i:Nat} {o:α},(l.map (·.1)).Nodup->(i,o)∈l->zc l i=some o
 |(k,u)::r,i,o,H,h=>by
  simp only[nK,oE] at H;simp only[zc];rcases nE.1 h with e | h
  .cases e;simp
  .rw[ge (λe=>H.1 (by rw[e];exact nS.2 ⟨(i,o),h,rfl⟩))]
   exact Ed H.2 h
theorem Ee{α:Type}{p:Nat->Bool}:∀ {l:List (Nat×α)} {i:Nat} {o:α},zc (l.filter λx=>p x.1) i=some o->p i=true/\zc l i=some o
 | [],i,o,h=>by simp[zc] at h
 |(k,u)::r,i,o,h=>by
  simp only[rK] at h;cases H:p k with
  |true=>
   simp only[H,oV,zc] at h;simp only[zc];by_cases e:k=i
   .rw[gt e] at h ⊢;subst e;exact⟨H,h⟩
   .rw[ge e] at h ⊢;exact Ee h
  |false=>
   simp only[H,ou,oU] at h;obtain⟨G,F⟩:=Ee h;simp only[zc];rw[ge (λe=>by subst e;rw[H] at G;cases G)]
   exact⟨G,F⟩
theorem zmz{o:Oper}{s:ah}(l:List Oper):∀ (ss:List ah) (st:St),l.length=ss.length->bL (l++[o]) (ss++[s]) st=(bL l ss st).put o.dst s:=by
 induction l with
 |nil=>
  intro ss st h;cases ss with
  |nil=>rfl
  |cons y ys=>simp at h
 |cons x r ih=>
  intro ss st h;cases ss with
  |nil=>simp at h
  |cons y ys=>exact ih ys (st.put x.dst y) (by simpa using h)
def iN(S:Seg)(i t:Nat)(ob:am):Prop:=((∃ c,S.co c t ob)\/∃ m,m<i/\S.kd m=some (.qb t ob))/\∃ c ob0,c<i/\S.co c t ob0
def Vh(P:Program)(S:Seg)(bs:List Nat)(i:Nat)(o:Oper):FK->Prop
 |.val s=>eI P S.all o (S.zU i) s/\ah.lo S.bv.next s
 |.mk ob=>o.guard=none/\(∃ t,o.dst=some t)/\ob.lo S.bv.next /\
   ∀ (st:St) (K:St->Prop),dM S i o st->K ((st.new ob).put o.dst (cd ob st.next))->yz P o st K
 |.fC j bl ob=>o.guard=none/\(∃ t,o.dst=some t)/\j∈aX S.all o/\(∀ k,bl=some k->k≠j/\k∈aX S.all o)/\ob.lo S.bv.next/\wG ob /\
   ∃ oj ok,iN S i j oj/\wG oj/\(∀ k,bl=some k->iN S i k ok/\wG ok) /\
   ∀ (st:St) (K:St->Prop) (id:Nat),dM S i o st->st.val (.tmp j) = .ar id->st.ay id=some oj->(∀ k,bl=some k->∃ id',id'≠id/\st.val (.tmp k) = .ar id'/\st.ay id'=some ok) ->
    K ((st.aV id ob).put o.dst (.ar id))->yz P o st K
 |.qb j ob=>o.guard=none/\o.dst=none/\j∈aX S.all o/\ob.lo S.bv.next/\kU ob/\∃ oj,iN S i j oj/\kU oj /\
   ∀ (st:St) (K:St->Prop) (id:Nat),dM S i o st->st.val (.tmp j) = .bp id 0->st.ay id=some oj->K {st with own:=zT id ob st.own}->yz P o st K
 |.eh id ob=>o.guard=none/\o.dst=none/\ob.lo S.bv.next/\id∈bs/\∃ o0,zc S.bv.own id=some o0 /\
   ∀ (st:St) (K:St->Prop),dM S i o st->st.ay id=some o0->K {st with own:=zT id ob st.own}->yz P o st K
structure mK(S S':Seg):Prop where
 all:S'.all=S.all
 bv:S'.bv=S.bv
 kd:∀ m k,S.kd m=some k->S'.kd m=some k
theorem mK.co{S S':Seg}(h:mK S S'){c t:Nat}{ob:am}(H:S.co c t ob):S'.co c t ob:=by
 obtain⟨o,k,G,F,E,K⟩:=H
 exact⟨o,k,by rw[h.all];exact G,h.kd c k F,E,K⟩
theorem mK.held{S S':Seg}(h:mK S S'){i t:Nat}{ob:am}(H:iN S i t ob):iN S' i t ob:=by
 obtain⟨G,c,ob0,F,E⟩:=H
 exact⟨G.elim (λ⟨c,K⟩=>.inl ⟨c,h.co K⟩) (λ⟨m,J,L⟩=>.inr ⟨m,J,h.kd _ _ L⟩),c,ob0,F,h.co E⟩
theorem mK.bJ{P:Program}{S S':Seg}(h:mK S S'){bs:List Nat}{i:Nat}{o:Oper}{k:FK}(hs:S'.zU i=S.zU i)(F:Vh P S bs i o k):Vh P S' bs i o k:=by
 have H:∀ st,dM S' i o st->dM S i o st:=λst E=>by unfold dM at E ⊢;rw[hs,h.bv] at E;exact E
 cases k with
 |val s=>simp only[Vh] at F ⊢;rw[h.all,hs,h.bv];exact F
 |mk ob=>
  obtain⟨J,L,M,O⟩:=F;exact⟨J,L,by rw[h.bv];exact M,λst K E=>O st K (H st E)⟩
 |fC j bl ob=>
  obtain⟨J,L,M,O,Q,T,oj,ok,V,X,Y,G⟩:=F;exact⟨J,L,by rw[h.all];exact M,by rw[h.all];exact O,by rw[h.bv];exact Q,T,oj,ok,h.held V,X,λk E=>⟨h.held (Y k E).1,(Y k E).2⟩,λst K id E=>G st K id (H st E)⟩
 |qb j ob=>
  obtain⟨J,L,M,O,Q,oj,T,V,X⟩:=F;exact⟨J,L,by rw[h.all];exact M,by rw[h.bv];exact O,Q,oj,h.held T,V,λst K id E=>X st K id (H st E)⟩
 |eh id ob=>
  obtain⟨J,L,M,O,o0,Q,T⟩:=F;exact⟨J,L,by rw[h.bv];exact M,O,o0,by rw[h.bv];exact Q,λst K E=>T st K (H st E)⟩
def Ef(S:Seg)(i t:Nat)(ob:am):Prop:=((∃ c,S.co c t ob)/\(∀ m k,S.kd m=some k->dG t k=true->False)\/∃ m,m<i/\S.kd m=some (.qb t ob))/\∃ c ob0,c<i/\S.co c t ob0
structure eA(P:Program)(all:List Oper)(lo:Nat)(bv:St)(aR:List (Nat×am))(bs:List Nat)(F:XF)(i:Nat):Prop where
 len:F.cS.length=i-lo/\lo<=i/\i<=all.length
 ag:Ag (Seg.zU ⟨all,lo,i,F.cS.reverse,bv,λ_=>aR⟩ i) F.xt
 bJ:∀ j o k,all[j]?=some o->Seg.kd ⟨all,lo,i,F.cS.reverse,bv,λ_=>aR⟩ j=some k->yp o.dst bv.n=true/\Vh P ⟨all,lo,i,F.cS.reverse,bv,λ_=>aR⟩ bs j o k
 hs:∀ t ob,(t,ob)∈F.hs->Ef ⟨all,lo,i,F.cS.reverse,bv,λ_=>aR⟩ i t ob/\t+1<4096/\ob.lo bv.next
 aI:(F.hs.map (·.1)).Nodup
 mP:F.ow.map (·.1)=bv.own.map (·.1)
 ow:(bv.own.map (·.1)).Nodup->∀ id o,(id,o)∈F.ow->(∃ m,Seg.kd ⟨all,lo,i,F.cS.reverse,bv,λ_=>aR⟩ m=some (.eh id o))\/(zc bv.own id=some o/\∀ m ob,Seg.kd ⟨all,lo,i,F.cS.reverse,bv,λ_=>aR⟩ m≠some (.eh id ob))
section
variable {P:Program} {Γ:XG} {call:dH} {all:List Oper} {lo:Nat} {bv:St} {aR:List (Nat×am)} {bs:List Nat} {F F':XF} {i:Nat} {o:Oper} {k:FK}
theorem AL{ks:List FK}(G:ks.length=i-lo)(H:lo<=i)(m:Nat):Seg.kd ⟨all,lo,i+1,ks++[k],bv,λ_=>aR⟩ m=if m=i then some k else Seg.kd ⟨all,lo,i,ks,bv,λ_=>aR⟩ m:=by
 unfold Seg.kd
 simp only
 by_cases e:m=i
 .subst e
  rw[gt (by omega),gt rfl,pF (by omega),G];simp
 .rw[ge e]
  by_cases h:lo<=m/\m<i
  .rw[gt (by omega),gt h,pl (by omega)]
  .rw[ge (by omega),ge h]
theorem G0{ks:List FK}(G:ks.length=i-lo)(H:lo<=i){m:Nat}(F:m<=i):Seg.zU ⟨all,lo,i+1,ks++[k],bv,λ_=>aR⟩ m=Seg.zU ⟨all,lo,i,ks,bv,λ_=>aR⟩ m:=by
 unfold Seg.zU
 simp only
 rw[oF,o_ (by simp;omega)]
theorem AN{ks:List FK}(F:ks.length=i-lo)(H:lo<=i)(E:all[i]?=some o):Seg.zU ⟨all,lo,i+1,ks++[k],bv,λ_=>aR⟩ (i+1)=(Seg.zU ⟨all,lo,i,ks,bv,λ_=>aR⟩ i).put o.dst k.sym:=by
 have G:=(nN.1 E).1
 unfold Seg.zU
 simp only
 have e1:(all.drop lo).take (i+1-lo)=(all.drop lo).take (i-lo)++[o]:=by
  have:i+1-lo=i-lo+1:=by omega
  rw[this,rT,oQ];have:lo+(i-lo)=i:=by omega
  rw[this,E];rfl
 have e2:((ks++[k]).map FK.sym).take (i+1-lo)=(ks.map FK.sym).take (i-lo)++[k.sym]:=by
  rw[oF,oa (by simp;omega),oa (by simp;omega)];rfl
 rw[e1,e2,zmz _ _ _ (by simp;omega)]
theorem eA.ext(H:eA P all lo bv aR bs F i):mK ⟨all,lo,i,F.cS.reverse,bv,λ_=>aR⟩ ⟨all,lo,i+1,(k::F.cS).reverse,bv,λ_=>aR⟩:=by
 refine⟨rfl,rfl,λm k' h=>?_⟩
 rw[tm,AL (by simpa using H.len.1) H.len.2.1,ge (λe=>by have:=(Seg.jF h).2;simp at this;omega)];exact h
theorem eA.push(N:yO all=true)(hI:eA P all lo bv aR bs F i)(ho:all[i]?=some o)(Q:YA o.dst bv.n=true){dst:Option Nat}(T:dst=o.dst){V ow':List (Nat×am)}
  (E:Vh P ⟨all,lo,i+1,(k::F.cS).reverse,bv,λ_=>aR⟩ bs i o k)
  (S:∀ t ob,(t,ob)∈V->((t,ob)∈F.hs/\dG t k=false)\/(k.eV=some ob/\o.dst=some t)\/(k = .qb t ob/\∃ ob0,(t,ob0)∈F.hs))
  (W:(V.map (·.1)).Nodup)
  (B:(ow'=F.ow/\∀ id ob,k≠.eh id ob)\/∃ id ob,k = .eh id ob/\ow'=zT id ob F.ow):eA P all lo bv aR bs (F.push k dst V ow') (i+1):=by
 subst T
 have H0:=(nN.1 ho).1
 have hl:F.cS.reverse.length=i-lo:=by simpa using hI.len.1
 have K:=hI.ext (k:=k)
 have L:=λm=>AL (all:=all) (bv:=bv) (aR:=aR) (k:=k) hl hI.len.2.1 m
 have G:(k::F.cS).reverse=F.cS.reverse++[k]:=by simp
 refine⟨⟨by simp only[XF.push,nP];have:=hI.len;omega,by have:=hI.len;omega,H0⟩,?_,?_,?_,W,?_,?_⟩
 .simp only[XF.push]
  rw[G,AN hl hI.len.2.1 ho];exact hI.ag.put Q _
 .intro j y k' hj H
  simp only[XF.push] at H ⊢;rw[G,L] at H;by_cases e:j=i
  .subst e
   rw[gt rfl] at H;cases H;rw[ho] at hj;cases hj;refine⟨?_,E⟩
   have:=(UY Q).1
   unfold yp;split
   .rename_i t ht;simpa using this t ht
   .rfl
  .rw[ge e] at H
   obtain⟨h1,h2⟩:=hI.bJ j y k' hj H;refine⟨h1,K.bJ ?_ h2⟩
   rw[G];exact G0 hl hI.len.2.1 (by have:=(Seg.jF H).2;simp at this;omega)
 .intro t ob J
  simp only[XF.push];have M:Seg.kd ⟨all,lo,i+1,(k::F.cS).reverse,bv,λ_=>aR⟩ i=some k:=by rw[G,L,gt rfl]
  have noOld:o.dst=some t->∀ c ob0,¬(c<i/\Seg.co ⟨all,lo,i+1,(k::F.cS).reverse,bv,λ_=>aR⟩ c t ob0):=by
   rintro hd c ob0 ⟨hc,y,k2,h1,_,h3,_⟩
   exact absurd hd ((uC N h1 ho hc).1 t h3).2
  rcases S t ob J with⟨h1,h2⟩ | ⟨h1,h2⟩ | ⟨h1,ob1,H1⟩
  .obtain⟨⟨hr,c,ob0,H2,X⟩,Y,Z⟩:=hI.hs t ob h1
   refine⟨⟨?_,c,ob0,by omega,K.co X⟩,Y,Z⟩
   rcases hr with⟨⟨c',Hb⟩,Hc⟩ | ⟨m,hm,H⟩
   .refine .inl ⟨⟨c',K.co Hb⟩,λm k' H ht=>?_⟩
    rw[G,L] at H;by_cases e:m=i
    .rw[gt e] at H;cases H;rw[h2] at ht;cases ht
    .rw[ge e] at H;exact Hc m k' H ht
   .exact .inr ⟨m,by omega,K.kd _ _ H⟩
  .have C:Seg.co ⟨all,lo,i+1,(k::F.cS).reverse,bv,λ_=>aR⟩ i t ob:=⟨o,k,ho,M,h2,h1⟩
   have A:ob.lo bv.next:=by
    cases k <;> simp only[FK.eV] at h1 <;> cases h1
    .exact E.2.2.1
    .exact E.2.2.2.2.1
   refine⟨⟨.inl ⟨⟨i,C⟩,λm k' H ht=>?_⟩,i,ob,by omega,C⟩,(UY Q).2 t h2,A⟩
   -- a taker of t names an elder maker
   have hp:Vh P ⟨all,lo,i+1,(k::F.cS).reverse,bv,λ_=>aR⟩ bs m (all[m]?.getD o) k'/\m<=i:=by
    rw[G,L] at H;by_cases e:m=i
    .subst e;rw[gt rfl] at H;cases H;rw[ho];exact⟨E,nJ _⟩
    .rw[ge e] at H
     have I:=(Seg.jF H).2;simp at I
     have hm:all[m]?=some all[m]:=ac (by omega)
     rw[hm];refine⟨K.bJ ?_ (hI.bJ m _ k' hm H).2,by omega⟩
     rw[G];exact G0 hl hI.len.2.1 (by omega)
   obtain⟨hp,I⟩:=hp;have old:∀ ob',iN ⟨all,lo,i+1,(k::F.cS).reverse,bv,λ_=>aR⟩ m t ob'->False:=λob' hh=>by
    obtain⟨_,c,ob0,h3,h4⟩:=hh;exact noOld h2 c ob0 ⟨by omega,h4⟩
   cases k' with
   |fC j bl ob'=>
    obtain⟨_,_,_,_,_,_,oj,ok,h7,_,h9,_⟩:=hp;simp only[dG,oS,bm] at ht;rcases ht with rfl | ht
    .exact old _ h7
    .split at ht
     .rename_i k2;rw[bm] at ht;subst ht;exact old _ (h9 _ rfl).1
     .cases ht
   |qb j ob'=>
    obtain⟨_,_,_,_,_,oj,h7,_⟩:=hp;simp only[dG,bm] at ht;subst ht;exact old _ h7
   |_=>simp[dG] at ht
  .subst h1
   obtain⟨_,_,_,Z,_,oj,⟨_,c,ob0,H2,X⟩,_⟩:=E;have Y:t+1<4096:=(hI.hs t ob1 H1).2.1
   exact⟨⟨.inr ⟨i,by omega,M⟩,c,ob0,by omega,X⟩,Y,Z⟩
 .simp only[XF.push]
  rcases B with⟨rfl,_⟩ | ⟨id,ob,rfl,rfl⟩
  .exact hI.mP
  .obtain⟨_,_,_,_,o0,h5,_⟩:=E
   rw[QH (by rw[hI.mP];exact nS.2 ⟨_,xm h5,rfl⟩)]
   exact hI.mP
 .intro hn id o' J
  simp only[XF.push] at J ⊢;rw[G];have Hd:(F.ow.map (·.1)).Nodup:=by rw[hI.mP];exact hn
  have old:∀ {id o'},(id,o')∈F.ow->(∀ ob,k≠.eh id ob)->(∃ m,Seg.kd ⟨all,lo,i+1,F.cS.reverse++[k],bv,λ_=>aR⟩ m=some (.eh id o'))\/(zc bv.own id=some o'/\∀ m ob,Seg.kd ⟨all,lo,i+1,F.cS.reverse++[k],bv,λ_=>aR⟩ m≠some (.eh id ob)):=by
   intro id o' hm O;rcases hI.ow hn id o' hm with⟨m,H⟩ | ⟨h1,h2⟩
   .exact .inl ⟨m,by rw[<-G];exact K.kd _ _ H⟩
   .refine .inr ⟨h1,λm ob H=>?_⟩
    rw[L] at H;by_cases e:m=i
    .rw[gt e] at H;cases H;exact O ob rfl
    .rw[ge e] at H;exact h2 m ob H
  rcases B with⟨rfl,O⟩ | ⟨id',ob,rfl,rfl⟩
  .exact old J λob=>O id ob
  .rcases QI Hd J with⟨rfl,rfl⟩ | ⟨O,hm⟩
   .exact .inl ⟨i,by rw[L,gt rfl]⟩
   .exact old hm λob' e=>by cases e;exact O rfl
end
end Go.V
namespace Go.V
variable [Dr] [Ov]
open Go.RowKit
theorem XK{j:Nat}{l:List (Nat×am)}{x:Nat×am}(h:x∈dR j l):x∈l/\x.1≠j:=by
 unfold dR at h
 obtain⟨H,G⟩:=oA.1 h
 refine⟨H,λe=>?_⟩
 rw[bm.2 e] at G;cases G
theorem G1{j:Nat}{l:List (Nat×am)}(h:(l.map (·.1)).Nodup):((dR j l).map (·.1)).Nodup:=h.sublist (Al _ oX)
section
variable {P:Program} {Γ:XG} {call:dH} {all:List Oper} {lo:Nat} {bv:St} {s0:XS} {aR:List (Nat×am)} {bs:List Nat} {F F':XF} {i:Nat} {o:Oper} {k:FK}
theorem Ef.held{S:Seg}{i t:Nat}{ob:am}(h:Ef S i t ob):iN S i t ob:=⟨h.1.elim (λh=>.inl h.1) .inr,h.2⟩
theorem eA.fH(H:eA P all lo bv aR bs F i){st:St}(h:dM ⟨all,lo,i+1,(k::F.cS).reverse,bv,λ_=>aR⟩ i o st):W5 bv.n F.xt.val o st:=by
 obtain⟨G,E⟩:=h
 refine⟨G,?_⟩
 rw[tm,G0 (by simpa using H.len.1) H.len.2.1 (nJ _),H.ag.val] at E
 exact E
theorem eA.im(H:yO all=true)(G:eA P all lo bv aR bs F i)(E:all[i]?=some o){d:Nat}(K:o.dst=some d){ob:am}:(d,ob)∉F.hs:=by
 intro J
 obtain⟨⟨_,c,ob0,L,⟨y,k2,M,_,O,_⟩⟩,_⟩:=G.hs d ob J
 exact((uC H M E L).1 d O).2 K
theorem eA.jp(H:yO all=true)(G:eA P all lo bv aR bs F i)(E:all[i]?=some o){d:Nat}(K:o.dst=some d){l:List (Nat×am)}(J:∀ x∈l,x∈F.hs):d∉l.map (·.1):=by
 intro L
 obtain⟨⟨t,ob⟩,M,O⟩:=nS.1 L
 simp at O;subst O
 exact G.im H E K (J _ M)
theorem AO{t:Nat}:∀ {i:Nat} {l:List Oper} {m:Nat},m∈cQ all t i l↔∃ o,i<=m/\l[m-i]?=some o/\t∈aX all o
 |i,[],m=>by simp[cQ]
 |i,o::r,m=>by
  have ih:=AO (t:=t) (i:=i+1) (l:=r) (m:=m);have step:(∃ o',i+1<=m/\r[m-(i+1)]?=some o'/\t∈aX all o')↔∃ o',i<m/\(o::r)[m-i]?=some o'/\t∈aX all o':=by
   constructor
   .rintro⟨o',H,G,F⟩
    refine⟨o',H,?_,F⟩
    have:m-i=(m-(i+1))+1:=by omega
    rw[this,pY];exact G
   .rintro⟨o',H,G,F⟩
    refine⟨o',H,?_,F⟩
    have:m-i=(m-(i+1))+1:=by omega
    rw[this,pY] at G;exact G
  simp only[cQ];split
  .rename_i E
   rw[cX] at E;rw[nE,ih,step];constructor
   .rintro(rfl | ⟨o',H,G,F⟩)
    .exact⟨o,nJ _,by simp,E⟩
    .exact⟨o',by omega,G,F⟩
   .rintro⟨o',H,G,F⟩
    rcases pn H with e | K
    .exact .inl e.symm
    .exact .inr ⟨o',K,G,F⟩
  .rename_i E
   rw[ih,step];constructor
   .rintro⟨o',H,G,F⟩;exact⟨o',by omega,G,F⟩
   .rintro⟨o',H,G,F⟩
    rcases pn H with e | K
    .subst e
     simp at G;subst G
     rw[cX.2 F] at E;cases E
    .exact⟨o',K,G,F⟩
theorem AP{ic:List Oper}{ks:List FK}:∀ {i:Nat} {r:List Oper} {kr:List FK},YC all ic ks i r kr=true->∀ (c:Nat) (o:Oper) (k:FK) (t:Nat) (ob:am),r[c]?=some o->kr[c]?=some k->k.eV=some ob->o.dst=some t ->
  cQ all t 0 ic=[]\/∃ m k',cQ all t 0 ic=[m]/\i+c<m/\ks[m]?=some k'/\dG t k'=true
 |i,[],kr,h,c,o,k,t,ob,G,_,_,_=>by simp at G
 |i,y::r,[],h,c,o,k,t,ob,_,F,_,_=>by simp at F
 |i,y::r,k0::kr,h,c,o,k,t,ob,G,F,E,K=>by
  simp only[YC,nI] at h;cases c with
  |zero=>
   simp at G F
   subst G;subst F;have J:=h.1;rw[E,K] at J;simp only at J
   split at J
   .rename_i e;exact .inl e
   .rename_i m e
    rw[nI,ZN] at J;obtain⟨L,M⟩:=J;split at M
    .rename_i k' H;exact .inr ⟨m,k',e,by omega,H,M⟩
    .cases M
   .cases J
  |succ c=>
   rcases AP h.2 c o k t ob (by simpa using G) (by simpa using F) E K with e | ⟨m,k',J,L,M⟩
   .exact .inl e
   .exact .inr ⟨m,k',J,by omega,M⟩
theorem zfr:∀ {ks:List FK} {i j id:Nat} {ob ob':am},(wJ ks).Nodup->ks[i]?=some (.eh id ob)->ks[j]?=some (.eh id ob')->i=j:=by
 have mem:∀ {ks:List FK} {i id:Nat} {ob:am},ks[i]?=some (.eh id ob)->id∈wJ ks:=by
  intro ks;induction ks with
  |nil=>intro i id ob h;simp at h
  |cons k r ih=>
   intro i id ob h;cases i with
   |zero=>simp at h;subst h;simp[wJ]
   |succ i=>
    have:=ih (i:=i) (by simpa using h)
    cases k <;> simp only[wJ] <;> first | exact nG _ this | exact this
 intro ks
 induction ks with
 |nil=>intro i j id ob ob' _ h;simp at h
 |cons k r ih=>
  intro i j id ob ob' E hi hj;have H:(wJ r).Nodup:=by
   cases k <;> simp only[wJ] at E <;> first | exact(oE.1 E).2 | exact E
  cases i with
  |zero=>
   cases j with
   |zero=>rfl
   |succ j=>
    simp at hi;subst hi
    simp only[wJ] at E;exact absurd (mem (i:=j) (by simpa using hj)) (oE.1 E).1
  |succ i=>
   cases j with
   |zero=>
    simp at hj;subst hj
    simp only[wJ] at E;exact absurd (mem (i:=i) (by simpa using hi)) (oE.1 E).1
   |succ j=>
    have G:r[i]?=some (.eh id ob):=by simpa using hi
    have F:r[j]?=some (.eh id ob'):=by simpa using hj
    have:=ih H G F
    omega
theorem AQ{xt:XS}:∀ {n:Nat} {l:List (Nat×am)} {u:Nat},(∀ t ob,(t,ob)∈l->t+1<4096)->Tr.get iI (YD xt n l) u=match zc (vi n l) u with | some s=>some s | none=>xt.get u
 |n,[],u,h=>rfl
 |n,(t,ob)::r,u,h=>by
  simp only[YD,vi,zc];rw[Tr.eX iI _ t _ u (by simpa[iI] using h t ob (by simp))]
  by_cases e:t=u
  .rw[gt e,gt e]
  .rw[ge e,ge e];exact AQ λt' ob' H=>h t' ob' (nG _ H)
theorem YX{α:Type}:∀ {l m:List (Nat×α)} {t:Nat},zc (l++m) t=match zc l t with | some s=>some s | none=>zc m t
 | [],m,t=>rfl
 |(k,v)::r,m,t=>by
  simp only[nV,zc];split
  .rfl
  .exact YX
theorem Eg(B:yO all=true){hi:Nat}(hI:eA P all lo bv aR bs F hi)(M:∀ id o,zc aR id=some o->zc bv.own id=some o/\id∉bs)(E:Ag bv s0){xs':XS}(h:W4 all ((all.drop lo).take (hi-lo)) bs s0 F=some xs'):
  fZ P ⟨all,lo,hi,F.cS.reverse,bv,λ_=>aR⟩/\iX ⟨all,lo,hi,F.cS.reverse,bv,λ_=>aR⟩ F.hs F.ow/\Ag (Seg.ck ⟨all,lo,hi,F.cS.reverse,bv,λ_=>aR⟩ F.hs F.ow) xs':=by
 unfold W4 at h
 simp only at h
 rw[UW,nI] at h
 obtain⟨⟨O,C⟩,h⟩:=h
 cases h
 obtain⟨hl,H0,H1⟩:=hI.len
 obtain⟨S,hS⟩:∃ S:Seg,S=⟨all,lo,hi,F.cS.reverse,bv,λ_=>aR⟩:=⟨_,rfl⟩
 have bJ:=hI.bJ
 have X:=hI.hs
 have Y:=hI.ow
 have J:=hI.ag
 rw[<-hS] at bJ X Y J ⊢
 have eall:S.all=all:=by rw[hS]
 have est:S.bv=bv:=by rw[hS]
 have G:∀ m,lo<=m->m<hi->((all.drop lo).take (hi-lo))[m-lo]?=all[m]?:=by
  intro m h1 h2;rw[og,gt (by omega),oQ]
  have:lo+(m-lo)=m:=by omega
  rw[this]
 have H:∀ m k,S.kd m=some k->lo<=m/\m<hi/\F.cS.reverse[m-lo]?=some k:=by
  intro m k hk;rw[hS] at hk;have:=Seg.jF hk
  unfold Seg.kd at hk;rw[gt this] at hk;exact⟨this.1,this.2,hk⟩
 have L:∀ m k,F.cS.reverse[m]?=some k->S.kd (lo+m)=some k:=by
  intro m k hk;have Z:=(nN.1 hk).1;simp at Z
  rw[hS];unfold Seg.kd;simp only
  rw[gt (by omega)]
  have:lo+m-lo=m:=by omega
  rw[this];exact hk
 have K:∀ t m,S.eW t m->m-lo∈cQ all t 0 ((all.drop lo).take (hi-lo))/\lo<=m:=by
  rintro t m ⟨y,k',h1,h2,h3⟩
  rw[eall] at h1 h3;obtain⟨g1,g2,_⟩:=H m k' h2;exact⟨AO.2 ⟨y,nU _,by rw[sq,G m g1 g2];exact h1,h3⟩,g1⟩
 -- who reads a lQ that was eV here
 have cB:∀ c t ob,S.co c t ob->(∀ m,¬S.eW t m)\/∃ m k',(∀ m',S.eW t m'->m'=m)/\c<m/\S.kd m=some k'/\dG t k'=true:=by
  rintro c t ob ⟨y,k',h1,h2,h3,h4⟩
  rw[eall] at h1;obtain⟨g1,g2,g3⟩:=H c k' h2;rcases AP O (c-lo) y k' t ob (by rw[G c g1 g2];exact h1) g3 h4 h3 with e | ⟨m,k2,e1,e2,e3,e4⟩
  .refine .inl λm hu=>?_
   have:=(K t m hu).1
   rw[e] at this;cases this
  .refine .inr ⟨lo+m,k2,λm' hu=>?_,by omega,L m k2 e3,e4⟩
   have:=K t m' hu
   rw[e1] at this;simp at this;omega
 have len':S.lo<=S.hi/\S.hi<=S.all.length/\S.ks.length=S.hi-S.lo:=by rw[hS];simp;omega
 have userOf:∀ {t m y},all[m]?=some y->(∃ k,S.kd m=some k)->t∈aX all y->S.eW t m:=λh1 ⟨k,h2⟩ h3=>⟨_,k,by rw[eall];exact h1,h2,by rw[eall];exact h3⟩
 have stoBox:∀ {m t ob},S.kd m=some (.qb t ob)->kU ob/\S.eW t m:=by
  intro m t ob hk;obtain⟨g1,g2,g3⟩:=H m _ hk;have hm:all[m]?=some all[m]:=ac (by omega)
  obtain⟨_,_,_,h3,_,h5,_⟩:=bJ m _ _ hm hk;rw[eall] at h3;exact⟨h5,userOf hm ⟨_,hk⟩ h3⟩
 have fR:fZ P S:=by
  refine⟨by rw[eall];exact B,len',?_,?_,?_,?_,?_⟩
  .rintro t m m' ⟨c,ob,hc⟩ hu Q
   rcases cB c t ob hc with h | ⟨x,_,h,_⟩
   .exact absurd hu (h m)
   .rw[h m hu,h m' Q]
  .intro c t ob m hc hu
   rcases cB c t ob hc with h | ⟨x,_,h,h2,_⟩
   .exact absurd hu (h m)
   .rw[h m hu];exact h2
  .intro a b id ob ob' h1 h2
   obtain⟨g1,g2,g3⟩:=H a _ h1;obtain⟨g4,g5,g6⟩:=H b _ h2;have:=zfr (AG C) g3 g6
   omega
  .intro _ id o' h1
   have I:zc aR id=some o':=by rw[hS] at h1;exact h1
   obtain⟨g1,g2⟩:=M id o' I;refine⟨by rw[est];exact g1,λm ob hk=>?_⟩
   obtain⟨q1,q2,q3⟩:=H m _ hk;have hm:all[m]?=some all[m]:=ac (by omega)
   obtain⟨_,_,_,_,h4,_⟩:=bJ m _ _ hm hk;exact(g2 h4).elim
  .intro m y k' hm hk
   rw[eall] at hm;obtain⟨N,hp⟩:=bJ m y k' hm hk;refine⟨by rw[est];exact N,?_⟩
   have noU:(∀ t,dG t k'=false)->∀ t∈aX S.all y,¬S.U t:=by
    rintro T t ht ⟨c,ob,hc⟩
    rw[eall] at ht;have hu:=userOf hm ⟨k',hk⟩ ht;rcases cB c t ob hc with h | ⟨x,k2,h,_,h3,h4⟩
    .exact h m hu
    .have:=h m hu;subst this
     rw[hk] at h3;cases h3;rw[T t] at h4;cases h4
   have takeU:∀ t∈aX S.all y,S.U t->dG t k'=true:=by
    rintro t ht ⟨c,ob,hc⟩
    rw[eall] at ht;have hu:=userOf hm ⟨k',hk⟩ ht;rcases cB c t ob hc with h | ⟨x,k2,h,_,h3,h4⟩
    .exact absurd hu (h m)
    .have:=h m hu;subst this
     rw[hk] at h3;cases h3;exact h4
   cases k' with
   |val s=>exact⟨noU λt=>rfl,hp⟩
   |mk ob=>exact⟨hp.1,hp.2.1,noU λt=>rfl,hp.2.2⟩
   |fC j bl ob=>
    obtain⟨h1,h2,h3,h4,h5,h6,oj,ok,h7,h8,h9,W⟩:=hp;have eV:∀ {t ob'},iN S m t ob'->wG ob'->∃ c,S.co c t ob':=by
     intro t ob' hh ha;rcases hh.1 with h | ⟨m',_,V⟩
     .exact h
     .have:=(stoBox V).1
      cases ob' <;> simp only[wG,kU] at ha this
    refine⟨h1,h2,λt ht hU=>?_,h3,h4,h5,h6,oj,ok,eV h7 h8,h8,λk hk=>⟨eV (h9 k hk).1 (h9 k hk).2,(h9 k hk).2⟩,W⟩
    have:=takeU t ht hU
    simp only[dG,oS,bm] at this;rcases this with e | e
    .exact .inl e.symm
    .right
     split at e
     .rw[bm] at e;rw[e]
     .cases e
   |qb j ob=>
    obtain⟨h1,h2,h3,h4,h5,oj,h6,h7,h8⟩:=hp;refine⟨h1,h2,λt ht hU=>?_,h3,h4,h5,oj,?_,h7,h8⟩
    .have:=takeU t ht hU
     simp only[dG,bm] at this;exact this.symm
    .rcases h6.1 with h | ⟨m',Z,V⟩
     .exact h
     .obtain⟨_,c,ob0,_,hc⟩:=h6
      have Q:=(stoBox V).2;have hu:S.eW j m:=userOf hm ⟨_,hk⟩ (by rw[eall] at h3;exact h3)
      rcases cB c j ob0 hc with h | ⟨x,_,h,_⟩
      .exact absurd hu (h m)
      .have e1:=h m hu;have e2:=h m' Q;omega
   |eh id ob=>exact⟨hp.1,hp.2.1,noU λt=>rfl,hp.2.2.1,hp.2.2.2.2⟩
 refine⟨fR,⟨?_,hI.aI,by rw[est];exact hI.mP,?_⟩,?_⟩
 .intro t ob hm
  obtain⟨⟨hr,c,ob0,_,hc⟩,_⟩:=X t ob hm;rcases hr with⟨⟨c',A⟩,T⟩ | ⟨m,_,hk⟩
  .refine⟨c',ob,A,.inl ⟨rfl,λm hu=>?_⟩⟩
   rcases cB c' t ob A with h | ⟨x,k2,h,_,h3,h4⟩
   .exact h m hu
   .exact T x k2 h3 h4
  .exact⟨c,ob0,hc,.inr ⟨m,(stoBox hk).2,hk⟩⟩
 .rw[est];exact Y
 .refine⟨?_,?_,?_,?_,?_,λt=>?_⟩
  .show S.bv.n=_;rw[est];exact E.n
  .show S.bv.next+F.hs.length=_;rw[est,E.next]
  .show qA S.bv.next F.hs++F.ow=_;rw[est,E.next]
  .show S.bv.ai=_;rw[est];exact E.ai
  .show ∀ id,id<S.bv.ai->id∈S.bv.aA->_;rw[est];exact E.aA
  .show zc (vi S.bv.next F.hs++(S.zU S.hi).af) t=Tr.get iI (YD F.xt s0.next F.hs) t
   have ehi:S.hi=hi:=by rw[hS]
   rw[YX,AQ (λt ob hm=>(hI.hs t ob hm).2.1),est,E.next,ehi]
   have:=J.af t
   cases zc (vi s0.next F.hs) t with
   |some s=>rfl
   |none=>exact this
theorem Eh{st:St}{xs:XS}(H:Ag st xs){pos:Nat}(G:pos<=all.length)(bs:List Nat):eA P all pos st (vx xs bs).xt.own bs (vx xs bs) pos/\∀ id o,zc (vx xs bs).xt.own id=some o->zc st.own id=some o/\id∉bs:=by
 have F:∀ m k,Seg.kd ⟨all,pos,pos,(vx xs bs).cS.reverse,st,λ_=>(vx xs bs).xt.own⟩ m=some k->False:=λm k h=>by have:=Seg.jF h;simp at this;omega
 refine⟨⟨⟨by simp[vx],nJ _,G⟩,?_,λj o k _ E=>absurd E (λh=>F _ _ h),λt ob h=>by simp[vx] at h,by simp[vx],by simp only[vx];rw[H.own],λK id o h=>.inr ⟨Ed K (by simp only[vx] at h;rw[H.own];exact h),λm ob E=>F _ _ E⟩⟩,?_⟩
 .have e:Seg.zU ⟨all,pos,pos,(vx xs bs).cS.reverse,st,λ_=>(vx xs bs).xt.own⟩ pos = {st with own:=(vx xs bs).xt.own}:=by
   unfold Seg.zU;simp[bL]
  rw[e];exact⟨H.n,H.next,rfl,H.ai,H.aA,H.af⟩
 .intro id o h
  cases bs with
  |nil=>simp only[vx] at h;rw[H.own];exact⟨h,by simp⟩
  |cons b r=>
   simp only[vx] at h;obtain⟨J,L⟩:=Ee (p:=λi=>!(b::r).any (Nat.beq i)) h
   rw[H.own];refine⟨L,λhm=>?_⟩
   rw[cX.2 hm] at J;cases J
end
end Go.V

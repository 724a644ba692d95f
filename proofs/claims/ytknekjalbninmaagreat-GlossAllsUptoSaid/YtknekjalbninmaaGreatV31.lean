/- A program logic of my own over the kit: part V31. It needs no conditions. -/
import Derived.Test.YtknekjalbninmaaGreatV25
set_option linter.all false
namespace Go.V
variable [Dr] [Ov]
open Go.RowKit
section
variable {P:Program} {ay look':Nat->Option am} {ρ:Operand->ah} {k:ah->Prop}
theorem zii(H:∀ id o,ay id=some o->look' id=some o){s:ah}{x:D}(h:Zu ay s=some x):Zu look' s=some x:=by
 cases s <;> simp only[Zu] at h ⊢ <;> try exact h
 rename_i id
 cases G:ay id with
 |none=>rw[G] at h;cases h
 |some o=>rw[G] at h;rw[H id o G];exact h
theorem Tm(H:∀ id o,ay id=some o->look' id=some o):∀ {l:List ah} {ds:List D},dJ ay l=some ds->dJ look' l=some ds
 | [],ds,h=>h
 |s::r,ds,h=>by
  simp only[dJ] at h ⊢;split at h
  .rename_i x xs G h2;rw[zii H G,Tm H h2];exact h
  .cases h
mutual
theorem zmk(H:∀ id o,ay id=some o->look' id=some o):∀ {s:ah} {r:D×Bool},cL ay s=some r->cL look' s=some r
 |.d x,r,h=>by simpa[cL] using h
 |.aW,r,h=>by simpa[cL] using h
 |.bp id off,r,h=>by
  simp only[cL] at h ⊢;split at h
  .rename_i T cells ho
   rw[H id _ ho];simp only;split at h
   .rename_i ds hd;rw[Tm H hd];exact h
   .cases h
  .cases h
 |.ar id,r,h=>by
  simp only[cL] at h ⊢;split at h
  .rename_i T sz rows ho;rw[H id _ ho];exact h
  .cases h
 |.mp id,r,h=>by
  simp only[cL] at h ⊢;split at h
  .rename_i T rows ho;rw[H id _ ho];exact h
  .cases h
 |.agg l,r,h=>by
  simp only[cL] at h ⊢;split at h
  .rename_i ds b hd;rw[Uy H hd];exact h
  .cases h
 |.fn f l,r,h=>by
  simp only[cL] at h ⊢;split at h
  .rename_i ds b hd;rw[Uy H hd];exact h
  .cases h
 |.bE l,r,h=>by simp[cL] at h
 |.ap _ _ _ _,r,h=>by simp[cL] at h
 |.a_s _ _ _ _,r,h=>by simp[cL] at h
 |.av _ _ _ _,r,h=>by simp[cL] at h
 |.yd _,r,h=>by simp[cL] at h
 |.junk,r,h=>by simp[cL] at h
theorem Uy(H:∀ id o,ay id=some o->look' id=some o):∀ {l:List ah} {r:List D×Bool},vO ay l=some r->vO look' l=some r
 | [],r,h=>by simpa[vO] using h
 |s::t,r,h=>by
  simp only[vO] at h ⊢;split at h
  .rename_i d b ds c G h2;rw[zmk H G,Uy H h2];exact h
  .cases h
end
theorem zdb(H:∀ id o,ay id=some o->look' id=some o){s:ah}{rows:List (List D)}(h:Xj ay s=some rows):Xj look' s=some rows:=by
 unfold Xj at h ⊢
 split at h
 .rename_i id
  (try simp only)
  split at h
  .rename_i T r ho;rw[H id _ ho];exact h
  .cases h
 .exact h
 .cases h
theorem zij(H:∀ id o,ay id=some o->look' id=some o){ti:TI}{s:ah}(h:uX ay ti s k):uX look' ti s k:=by
 cases s <;> simp only[uX] at h ⊢
 case d x=>cases x <;> simp only[uX] at h ⊢ <;> exact h
 case bp id off=>
  cases G:ay id with
  |none=>simp only[G] at h
  |some o=>simp only[G] at h;simp only[H id o G];exact h
 case ap id sz i off=>
  cases G:ay id with
  |none=>simp only[G] at h
  |some o=>simp only[G] at h;simp only[H id o G];exact h
theorem zan(H:∀ id o,ay id=some o->look' id=some o){esz:Nat}{s s':ah}(h:Zv ay esz s s' k):Zv look' esz s s' k:=by
 unfold Zv at h ⊢
 split at h
 .exact h
 .rename_i id kd n
  cases G:ay id with
  |none=>simp only[G] at h
  |some o=>simp only[G] at h;simp only[H id o G];exact h
 .exact h.elim
theorem zml(H:∀ id o,ay id=some o->look' id=some o){kd:TK}{s:ah}(h:iq ay kd s k):iq look' kd s k:=by
 unfold iq at h ⊢
 split at h
 .exact h
 .exact h
 .exact h
 .rename_i e id
  cases G:ay id with
  |none=>simp only[G] at h
  |some o=>simp only[G] at h;simp only[H id o G];exact h
 .exact h
 .exact h
 .exact h.elim
theorem zfj(H:∀ id o,ay id=some o->look' id=some o){kd:TK}{s:ah}{lo hi:Option ah}(h:Zw P ay kd s lo hi k):Zw P look' kd s lo hi k:=by
 unfold Zw at h ⊢
 split at h
 .exact h
 .rename_i e id
  cases G:ay id with
  |none=>simp only[G] at h
  |some o=>simp only[G] at h;simp only[H id o G];exact h
 .rename_i e id _ _ _
  cases G:ay id with
  |none=>simp only[G] at h
  |some o=>simp only[G] at h;simp only[H id o G];exact h
 .exact h
 .exact h.elim
theorem zdc(H:∀ id o,ay id=some o->look' id=some o){kd:TK}{s a b c:ah}(h:Zx P ay kd s a b c k):Zx P look' kd s a b c k:=by
 unfold Zx at h ⊢
 split at h
 .rename_i e id _ _ _ _ _ _
  cases G:ay id with
  |none=>simp only[G] at h
  |some o=>simp only[G] at h;simp only[H id o G];exact h
 .exact h.elim
theorem zdd(H:∀ id o,ay id=some o->look' id=some o){kk:TK}{te:TI}{c:Bool}{m x:ah}(h:Zy ay kk te c m x k):Zy look' kk te c m x k:=by
 unfold Zy at h ⊢
 cases G:Xj ay m with
 |none=>simp only[G] at h
 |some rows=>simp only[G] at h;simp only[zdb H G];exact h
theorem zik(G:∀ id o,ay id=some o->look' id=some o){c:ah}{args:List ah}(h:k5 P ay c args k):k5 P look' c args k:=by
 unfold k5 at h ⊢
 cases F:xF c with
 |none=>simp only[F] at h
 |some r=>
  obtain⟨f,aJ⟩:=r;simp only[F] at h ⊢;unfold Xi at h ⊢;cases H:vO ay (args++aJ) with
  |none=>simp only[H] at h
  |some r=>simp only[H] at h;simp only[Uy G H];exact h
theorem zqf(H:∀ id o,ay id=some o->look' id=some o){op:Op}(h:uA P ay ρ op k):uA P look' ρ op k:=by
 unfold uA at h ⊢
 split at h
 .exact h
 .exact h
 .exact h
 .split at h
  .rename_i ht;(try simp only[ht]);exact zij H h
  .exact h.elim
 .exact h
 .exact h
 .split at h
  .rename_i ht
   split at h
   .rename_i ht2;(try simp only[ht,ht2]);exact zan H h
   .exact h.elim
  .exact h.elim
 .exact h
 .split at h
  .rename_i ht;(try simp only[ht]);exact⟨h.1,zfj H h.2⟩
  .exact h.elim
 .split at h
  .rename_i ht;(try simp only[ht]);exact zdc H h
  .exact h.elim
 .exact h
 .exact h
 .exact h
 .exact h
 .split at h
  .rename_i ht
   split at h
   .rename_i G h2;(try simp only[ht,G,h2]);exact⟨h.1,zdd H h.2⟩
   .exact h.elim
  .exact h.elim
 .exact h
 .split at h
  .rename_i F E
   split at h
   .rename_i ht;(try simp only[F,E,ht]);exact zml H h
   .exact h.elim
  .exact h.elim
 .exact h
 .exact h
 .exact zik H h
 .exact h.elim
theorem zmm(H:∀ id o,ay id=some o->look' id=some o){op:Op}(h:vQ P ay ρ op k):vQ P look' ρ op k:=by
 unfold vQ at h ⊢
 split at h
 .exact h
 .exact h
 .exact h
 .exact zqf H h
end
mutual
theorem Tn{m id:Nat}(cq:m<=id):∀ {s:ah},ah.lo m s->zA id s=s
 |.bp i o,h=>by simp only[ah.lo] at h;simp only[zA];rw[ge (by omega)]
 |.ar i,h=>by simp only[ah.lo] at h;simp only[zA];rw[ge (by omega)]
 |.ap i _ _ _,h=>by simp only[ah.lo] at h;simp only[zA];rw[ge (by omega)]
 |.a_s i _ _ _,h=>by simp only[ah.lo] at h;simp only[zA];rw[ge (by omega)]
 |.av i _ _ _,h=>by simp only[ah.lo] at h;simp only[zA];rw[ge (by omega)]
 |.yd i,h=>by simp only[ah.lo] at h;simp only[zA];rw[ge (by omega)]
 |.mp i,h=>by simp only[ah.lo] at h;simp only[zA];rw[ge (by omega)]
 |.bE l,h=>by simp only[ah.lo] at h;simp only[zA];rw[V6 cq h]
 |.agg l,h=>by simp only[ah.lo] at h;simp only[zA];rw[V6 cq h]
 |.fn f l,h=>by simp only[ah.lo] at h;simp only[zA];rw[V6 cq h]
 |.d _,_=>by simp only[zA]
 |.aW,_=>by simp only[zA]
 |.junk,_=>by simp only[zA]
theorem V6{m id:Nat}(cq:m<=id):∀ {l:List ah},ah.a_ m l->yI id l=l
 | [],_=>by simp only[yI]
 |s::r,h=>by simp only[ah.a_] at h;simp only[yI];rw[Tn cq h.1,V6 cq h.2]
end
theorem za2{m id:Nat}(cq:m<=id){o:am}(h:o.lo m):qx id o=o:=by
 cases o with
 |box T cells=>simp only[am.lo] at h;simp only[qx];rw[V6 cq h]
 |aQ T sz rows=>rfl
 |map T rows=>rfl
 |cN k cells=>simp only[am.lo] at h;simp only[qx];rw[V6 cq h]
theorem Yv{id:Nat}{ob:am}:∀ (l:List (Nat×am)) (i:Nat),zc (qf id ob l) i=(zc l i).map (λo=>if i=id then ob else qx id o)
 | [],i=>rfl
 |(k,o)::r,i=>by
  simp only[qf];by_cases H:k=i
  .subst H
   by_cases e:k=id
   .subst e;simp[zc]
   .simp[zc,e]
  .by_cases e:k=id
   .rw[gt e];simp only[zc];rw[ge H,ge H];exact Yv r i
   .rw[ge e];simp only[zc];rw[ge H,ge H];exact Yv r i
theorem ZE{α:Type}{id:Nat}{v:α}:∀ (l:List (Nat×α)) (i:Nat),zc (zT id v l) i=if i=id then some v else zc l i
 | [],i=>by
  simp only[zT,zc];by_cases e:id=i
  .subst e;simp
  .rw[ge e,ge (λh=>e h.symm)]
 |(k,u)::r,i=>by
  simp only[zT];by_cases e:k=id
  .rw[gt e];simp only[zc]
   by_cases h:k=i
   .subst h;subst e;simp
   .rw[ge h,ge h,ge (λe'=>h (by omega))]
  .rw[ge e];simp only[zc]
   by_cases h:k=i
   .rw[gt h,gt h,ge (by omega)]
   .rw[ge h,ge h];exact ZE r i
theorem Xv(id:Nat):∀ (l:List (Nat×ah)) (t:Nat),zc (xu id l) t=(zc l t).map (zA id)
 | [],t=>rfl
 |(k,v)::r,t=>by simp only[xu,zc];split;rfl;exact Xv id r t
end Go.V
namespace Go.V
variable [Dr] [Ov]
open Go.RowKit
inductive FK where
 |val (s:ah)
 |mk (ob:am)
 |fC (j:Nat) (bl:Option Nat) (ob:am)
 |qb (j:Nat) (ob:am)
 |eh (id:Nat) (ob:am)
def FK.sym:FK->ah
 |.val s=>s
 |_=>.junk
def FK.eV:FK->Option am
 |.mk ob=>some ob
 |.fC _ _ ob=>some ob
 |_=>none
def cd:am->Nat->ah
 |.box _ _,id=>.bp id 0
 |.aQ _ _ _,id=>.ar id
 |.map _ _,id=>.mp id
 |.cN _ _,id=>.bp id 0
def ZF(all:List Oper):Nat->Nat->Nat->Bool
 |0,_,_=>false
 |f+1,m,i=>match all[m]? with
  |some y=>eH y i ||(y.after.toList.any λe=>Region.binds .any e&&ZF all f e.on i)
  |none=>false
structure Seg where
 all:List Oper
 lo:Nat
 hi:Nat
 ks:List FK
 bv:St
 aR:Nat->List (Nat×am)
namespace Seg
def kd(S:Seg)(i:Nat):Option FK:=if S.lo<=i/\i<S.hi then S.ks[i-S.lo]? else none
def co(S:Seg)(i t:Nat)(ob:am):Prop:=∃ o k,S.all[i]?=some o/\S.kd i=some k/\o.dst=some t/\k.eV=some ob
def U(S:Seg)(t:Nat):Prop:=∃ i ob,S.co i t ob
def eW(S:Seg)(t m:Nat):Prop:=∃ o k,S.all[m]?=some o/\S.kd m=some k/\t∈aX S.all o
def zU(S:Seg)(i:Nat):St:=bL ((S.all.drop S.lo).take (i-S.lo)) ((S.ks.map FK.sym).take (i-S.lo)) {S.bv with own:=S.aR i}
def Dep(S:Seg)(i m:Nat):Prop:=∃ f,ZF S.all f m i=true
def dn(S:Seg)(L:Nat->Prop)(t:Nat)(ob:am):Prop:=
 (∃ i,S.co i t ob/\L i/\∀ m,S.eW t m->¬L m)\/(∃ i ob0 m,S.co i t ob0/\L i/\L m/\S.eW t m/\S.kd m=some (.qb t ob))
end Seg
def wG:am->Prop
 |.aQ _ _ _=>True
 |_=>False
def kU:am->Prop
 |.box _ _=>True
 |_=>False
def dM(S:Seg)(i:Nat)(o:Oper)(st:St):Prop:=st.n=S.bv.n/\∀ x∈o.op.operands,(S.zU i).val x≠.junk->st.val x=(S.zU i).val x
def zt2(P:Program)(S:Seg)(i:Nat)(o:Oper):FK->Prop
 |.val s=>(∀ t∈aX S.all o,¬S.U t)/\eI P S.all o (S.zU i) s/\ah.lo S.bv.next s
 |.mk ob=>o.guard=none/\(∃ t,o.dst=some t)/\(∀ t∈aX S.all o,¬S.U t)/\ob.lo S.bv.next /\
   ∀ (st:St) (K:St->Prop),dM S i o st->K ((st.new ob).put o.dst (cd ob st.next))->yz P o st K
 |.fC j bl ob=>o.guard=none/\(∃ t,o.dst=some t)/\(∀ t∈aX S.all o,S.U t->t=j\/bl=some t)/\j∈aX S.all o/\(∀ k,bl=some k->k≠j/\k∈aX S.all o)/\ob.lo S.bv.next/\wG ob /\
   ∃ oj ok,(∃ c,S.co c j oj)/\wG oj/\(∀ k,bl=some k->(∃ c,S.co c k ok)/\wG ok) /\
   ∀ (st:St) (K:St->Prop) (id:Nat),dM S i o st->st.val (.tmp j) = .ar id->st.ay id=some oj->(∀ k,bl=some k->∃ id',id'≠id/\st.val (.tmp k) = .ar id'/\st.ay id'=some ok) ->
    K ((st.aV id ob).put o.dst (.ar id))->yz P o st K
 |.qb j ob=>o.guard=none/\o.dst=none/\(∀ t∈aX S.all o,S.U t->t=j)/\j∈aX S.all o/\ob.lo S.bv.next/\kU ob/\∃ oj,(∃ c,S.co c j oj)/\kU oj /\
   ∀ (st:St) (K:St->Prop) (id:Nat),dM S i o st->st.val (.tmp j) = .bp id 0->st.ay id=some oj->K {st with own:=zT id ob st.own}->yz P o st K
 |.eh id ob=>o.guard=none/\o.dst=none/\(∀ t∈aX S.all o,¬S.U t)/\ob.lo S.bv.next/\∃ o0,zc S.bv.own id=some o0 /\
   ∀ (st:St) (K:St->Prop),dM S i o st->st.ay id=some o0->K {st with own:=zT id ob st.own}->yz P o st K
structure fZ(P:Program)(S:Seg):Prop where
 ok:yO S.all=true
 len:S.lo<=S.hi/\S.hi<=S.all.length/\S.ks.length=S.hi-S.lo
 fx:∀ t m m',S.U t->S.eW t m->S.eW t m'->m=m'
 after:∀ i t ob m,S.co i t ob->S.eW t m->i<m
 na:∀ i j id ob ob',S.kd i=some (.eh id ob)->S.kd j=some (.eh id ob')->i=j
 aR:∀ i id o,zc (S.aR i) id=some o->zc S.bv.own id=some o/\∀ m ob,S.kd m=some (.eh id ob)->S.Dep i m
 step:∀ i o k,S.all[i]?=some o->S.kd i=some k->yp o.dst S.bv.n=true/\zt2 P S i o k
structure kw(st:St):Prop where
 own:∀ id o,zc st.own id=some o->id<st.next/\o.lo st.next
 af:∀ t s,zc st.af t=some s->ah.lo st.next s
def mM(S:Seg)(st:St)(ν:Nat->Nat)(t:Nat)(ob:am):Prop:=S.bv.next<=ν t/\ν t<st.next/\zc st.af t=some (cd ob (ν t))/\zc st.own (ν t)=some ob
structure dO(S:Seg)(L:Nat->Prop)(st:St)(ν:Nat->Nat):Prop where
 n:st.n=S.bv.n
 ai:st.ai=S.bv.ai
 next:S.bv.next<=st.next
 aA:∀ id,id<S.bv.next->id∈st.aA->id∈S.bv.aA
 own:∀ id o,zc S.bv.own id=some o->(∀ i ob,S.kd i=some (.eh id ob)->¬L i)->zc st.own id=some o
 eh:∀ id i ob,S.kd i=some (.eh id ob)->L i->zc st.own id=some ob
 fS:∀ i o t s,S.all[i]?=some o->L i->S.kd i=some (.val s)->o.dst=some t->zc st.af t=some s
 aC:∀ t s,zc S.bv.af t=some s->(∀ i o k,S.all[i]?=some o->L i->S.kd i=some k->o.dst≠some t)->zc st.af t=some s
 fB:∀ t ob,S.dn L t ob->mM S st ν t ob
 inj:∀ t t' ob ob',S.dn L t ob->S.dn L t' ob'->ν t=ν t'->t=t'
def cj(Lb:Array Bool)(i:Nat):Prop:=Lb.getD i true=true
theorem wm{Lb:Array Bool}{i j:Nat}(hi:i<Lb.size):cj (Lb.setIfInBounds i true) j↔j=i\/cj Lb j:=by
 unfold cj
 by_cases e:j=i
 .subst e;simp[Array.getD,hi]
 .by_cases H:j<Lb.size
  .simp[Array.getD,H,rj,se e,e]
  .simp[Array.getD,H,e]
theorem ZG{Lb:Array Bool}{i:Nat}(h:Lb.getD i false=true):cj Lb i:=by
 unfold cj
 by_cases H:i<Lb.size
 .simp[Array.getD,H] at h ⊢;exact h
 .simp[Array.getD,H] at h
theorem Seg.jF{S:Seg}{i:Nat}{k:FK}(h:S.kd i=some k):S.lo<=i/\i<S.hi:=by
 unfold Seg.kd at h
 split at h
 .assumption
 .cases h
theorem Seg.Tq{S:Seg}(F:S.lo<=S.hi/\S.hi<=S.all.length/\S.ks.length=S.hi-S.lo){i t:Nat}{s:ah}(hi:S.lo<=i/\i<=S.hi)(h:zc (S.zU i).af t=some s):
  (∃ j o k,S.all[j]?=some o/\S.kd j=some k/\j<i/\k.sym=s/\o.dst=some t)\/((∀ j o,S.all[j]?=some o->S.lo<=j->j<i->o.dst≠some t)/\zc S.bv.af t=some s):=by
 unfold Seg.zU at h
 have H:((S.all.drop S.lo).take (i-S.lo)).length=((S.ks.map FK.sym).take (i-S.lo)).length:=by simp;omega
 rcases Uu (st:={S.bv with own:=S.aR i}) (t:=t) H with⟨j,o,s',E,K,J,L⟩ | ⟨E,K⟩
 .rw[L] at h;cases h
  have hj:j<i-S.lo:=by
   rcases pe j (i-S.lo) with h | h
   .exact h
   .rw[og,ge (by omega)] at E;cases E
  rw[og,gt hj,oQ] at E;rw[og,gt hj,pC] at K;cases M:S.ks[j]? with
  |none=>rw[M] at K;cases K
  |some k=>
   rw[M] at K;simp at K;refine .inl ⟨S.lo+j,o,k,E,?_,by omega,K,J⟩
   unfold Seg.kd;rw[gt (by omega)]
   have:S.lo+j-S.lo=j:=by omega
   rw[this];exact M
 .rw[K] at h
  refine .inr ⟨λj o hj G hl2=>E (j-S.lo) o ?_,h⟩
  rw[og,gt (by omega),oQ]
  have:S.lo+(j-S.lo)=j:=by omega
  rw[this];exact hj
theorem zt3{ob:am}{id m:Nat}(h:id<m):ah.lo m (cd ob id):=by cases ob <;> simpa[cd,ah.lo] using h
theorem zmn{ob:am}{id i:Nat}(h:i≠id):zA id (cd ob i)=cd ob i:=by cases ob <;> simp[cd,zA,h]
section
variable {P:Program} {X:Nat->Prop} {w0:bz} {st:St} {β:Nat->Value} {a:Act} {w w':World} {S:Seg} {ν:Nat->Nat} {Lb:Array Bool} {i:Nat} {o:Oper} {k:FK}
structure cT(P:Program)(S:Seg)(Lb:Array Bool)(i:Nat)(o:Oper)(k:FK):Prop where
 fR:fZ P S
 mt:kw S.bv
 size:Lb.size=S.all.length
 down:∀ j y,S.all[j]?=some y->cj Lb j->∀ e∈y.after.toList,Region.binds .any e=true->Lb.getD e.on false=true
 bc:S.all[i]?=some o
 kind:S.kd i=some k
 ft:¬cj Lb i
 ready:∀ e∈o.after.toList,Region.binds .any e=true->Lb.getD e.on false=true
theorem cT.lt(h:cT P S Lb i o k):i<Lb.size:=by rw[h.size];exact(nN.1 h.bc).1
theorem cT.di(h:cT P S Lb i o k){j t:Nat}{y:Oper}(hj:S.all[j]?=some y)(H:j<i)(F:y.dst=some t)(E:t∈aX S.all o):cj Lb j:=by
 obtain⟨e,K,J,G⟩:=Yt (((uC h.fR.ok hj h.bc H).1 t F).1 E)
 have:=h.ready e K J
 rw[G] at this;exact ZG this
theorem cT.nn(h:cT P S Lb i o k){j t:Nat}{y:Oper}(hj:S.all[j]?=some y)(H:i<j)(F:y.dst=some t)(E:t∈aX S.all o):¬cj Lb j:=by
 intro K
 obtain⟨e,J,L,G⟩:=Yt ((uC h.fR.ok h.bc hj H).2 t F E)
 have:=h.down j y hj K e J L
 rw[G] at this;exact h.ft (ZG this)
theorem cT.cQ(h:cT P S Lb i o k){t m:Nat}{ob:am}(F:S.co i t ob)(E:S.eW t m):¬cj Lb m:=by
 intro K
 have H:=h.fR.after i t ob m F E
 obtain⟨o',k',J,L,M,O⟩:=F
 rw[h.bc] at J;cases J
 obtain⟨y,k2,Q,_,T⟩:=E
 obtain⟨e,V,X,G⟩:=Yt (((uC h.fR.ok h.bc Q H).1 t M).1 T)
 have:=h.down m y Q K e V X
 rw[G] at this;exact h.ft (ZG this)
theorem cT.Xw(h:cT P S Lb i o k){j t:Nat}{y:Oper}(hj:S.all[j]?=some y)(H:j≠i)(G:o.dst=some t):y.dst≠some t:=by
 rcases tU H with F | F
 .exact λe=>((uC h.fR.ok hj h.bc F).1 t e).2 G
 .exact((uC h.fR.ok h.bc hj F).1 t G).2
theorem cT.Xx(h:cT P S Lb i o k)(H:dO S (cj Lb) st ν){t:Nat}(G:t∈aX S.all o){s:ah}(hs:zc (S.zU i).af t=some s)(hj:s≠.junk):zc st.af t=some s:=by
 rcases S.Tq h.fR.len ⟨(S.jF h.kind).1,Nat.le_of_lt (S.jF h.kind).2⟩ hs with⟨j,y,k',F,E,K,J,L⟩ | ⟨F,E⟩
 .cases k' <;> simp only[FK.sym] at J <;> first | exact absurd J.symm hj | skip
  subst J;exact H.fS j y t _ F (h.di F K L G) E L
 .refine H.aC t s E λj y k' hj M O Q=>?_
  rcases pU j i with T | T | T
  .exact F j y hj (S.jF O).1 T Q
  .subst T;exact h.ft M
  .exact h.nn hj T Q G M
theorem cT.fH(h:cT P S Lb i o k)(G:dO S (cj Lb) st ν):dM S i o st:=by
 refine⟨G.n,λx F H=>?_⟩
 cases x with
 |tmp t=>
  simp only[St.val] at H ⊢;cases hs:zc (S.zU i).af t with
  |none=>rw[hs] at H;simp at H
  |some s=>rw[hs] at H;simp at H;rw[h.Xx G (V4 F) hs H]
 |_=>rfl
theorem cT.JH(h:cT P S Lb i o k){t:Nat}{ob:am}(J:S.dn (cj (Lb.setIfInBounds i true)) t ob):
  S.co i t ob\/(S.dn (cj Lb) t ob/\¬S.eW t i/\∀ ob',¬S.co i t ob')\/(S.eW t i/\S.kd i=some (.qb t ob)/\∃ ob0,S.dn (cj Lb) t ob0):=by
 have hs:=λj=>wm (Lb:=Lb) (i:=i) (j:=j) h.lt
 rcases J with⟨c,L,M,O⟩ | ⟨c,ob0,m,L,M,O,Q,T⟩
 .rcases(hs c).1 M with rfl | G
  .exact .inl L
  .by_cases F:∃ ob',S.co i t ob'
   .obtain⟨ob',K⟩:=F
    exfalso
    obtain⟨y,k1,e1,e2,e3,e4⟩:=L;obtain⟨y',k2,g1,g2,g3,g4⟩:=K;rw[h.bc] at g1;cases g1;by_cases E:c=i
    .exact h.ft (E▸G)
    .exact h.Xw e1 E g3 e3
   .exact .inr (.inl ⟨.inl ⟨c,L,G,λm V J=>O m V ((hs m).2 (.inr J))⟩,λV=>O i V ((hs i).2 (.inl rfl)),λob' X=>F ⟨ob',X⟩⟩)
 .rcases(hs m).1 O with rfl | O
  .refine .inr (.inr ⟨Q,T,?_⟩)
   have H:cj Lb c:=by
    rcases(hs c).1 M with e | M
    .exact absurd (h.fR.after c t ob0 _ L Q) (by omega)
    .exact M
   exact⟨ob0,.inl ⟨c,L,H,λm' V J=>h.ft (by rw[h.fR.fx t _ _ ⟨c,ob0,L⟩ Q V];exact J)⟩⟩
  .have H:cj Lb c:=by
    rcases(hs c).1 M with e | M
    .exact absurd O (h.cQ (by rw[<-e];exact L) Q)
    .exact M
   refine .inr (.inl ⟨.inr ⟨c,ob0,m,L,H,O,Q,T⟩,λV=>h.ft (by rw[h.fR.fx t _ _ ⟨c,ob0,L⟩ V Q];exact O),λob' X=>?_⟩)
   exact absurd O (h.cQ X Q)
end
end Go.V
namespace Go.V
variable [Dr] [Ov]
open Go.RowKit
section
variable {P:Program} {X:Nat->Prop} {w0:bz} {st:St} {β:Nat->Value} {a:Act} {w w':World} {S:Seg} {ν:Nat->Nat} {Lb:Array Bool} {i:Nat} {o:Oper} {k:FK}
theorem gi(st:St)(dst:Option Nat)(s:ah)(u:Nat):zc (st.put dst s).af u=if dst=some u then some s else zc st.af u:=by
 cases dst with
 |none=>simp[St.put]
 |some t=>simp only[St.put,zc,pB]
theorem Uz(st:St)(dst:Option Nat)(s:ah):(st.put dst s).own=st.own/\(st.put dst s).next=st.next/\(st.put dst s).n=st.n/\(st.put dst s).ai=st.ai/\(st.put dst s).aA=st.aA:=by cases dst <;> exact⟨rfl,rfl,rfl,rfl,rfl⟩
theorem Seg.dn.co{L:Nat->Prop}{t:Nat}{ob:am}(h:S.dn L t ob):∃ c ob0,S.co c t ob0/\L c:=by
 rcases h with⟨c,H,G,_⟩ | ⟨c,ob0,m,H,G,_⟩
 .exact⟨c,ob,H,G⟩
 .exact⟨c,ob0,H,G⟩
theorem cT.gj(h:cT P S Lb i o k){t:Nat}{ob:am}(G:S.dn (cj Lb) t ob):o.dst≠some t:=by
 obtain⟨c,ob0,⟨y,k',F,E,K,J⟩,L⟩:=G.co
 intro M
 by_cases H:c=i
 .subst H;exact h.ft L
 .exact h.Xw F H M K
theorem Seg.dn.lo(H:fZ P S){L:Nat->Prop}{t:Nat}{ob:am}(h:S.dn L t ob):ob.lo S.bv.next:=by
 rcases h with⟨c,⟨y,k',G,F,E,K⟩,_⟩ | ⟨c,ob0,m,_,_,_,⟨y,k',G,F,E⟩,K⟩
 .have:=(H.step c y k' G F).2
  cases k' <;> simp only[FK.eV] at K <;> cases K
  .exact this.2.2.2.1
  .exact this.2.2.2.2.2.1
 .rw[K] at F;cases F
  exact(H.step m y _ G K).2.2.2.2.2.1
theorem cT.JI(h:cT P S Lb i o k){t:Nat}{ob:am}(H:S.co i t ob):o.dst=some t/\k.eV=some ob:=by
 obtain⟨y,k',G,F,E,K⟩:=H
 rw[h.bc] at G;cases G
 rw[h.kind] at F;cases F
 exact⟨E,K⟩
theorem cT.UA(h:cT P S Lb i o k){t:Nat}(H:t∈aX S.all o):S.eW t i:=⟨o,k,h.bc,h.kind,H⟩
theorem cT.holds(h:cT P S Lb i o k){j:Nat}{oj:am}(hj:j∈aX S.all o)(G:∃ c,S.co c j oj):S.dn (cj Lb) j oj:=by
 obtain⟨c,G⟩:=G
 refine .inl ⟨c,G,?_,λm F E=>h.ft (by rw[h.fR.fx j _ _ ⟨c,oj,G⟩ (h.UA hj) F];exact E)⟩
 have H:=h.fR.after c j oj i G (h.UA hj)
 obtain⟨y,k',K,J,L,M⟩:=G
 exact h.di K H L hj
theorem dO.val{s:ah}(h:cT P S Lb i o (.val s))(K:dO S (cj Lb) st ν)(J:∀ t∈aX S.all o,¬S.U t):dO S (cj (Lb.setIfInBounds i true)) (st.put o.dst s) ν:=by
 have hs:=λj=>wm (Lb:=Lb) (i:=i) (j:=j) h.lt
 obtain⟨e1,e2,e3,e4,e5⟩:=Uz st o.dst s
 have H:∀ t ob,S.dn (cj (Lb.setIfInBounds i true)) t ob->S.dn (cj Lb) t ob:=by
  intro t ob L;rcases h.JH L with M | ⟨L,_⟩ | ⟨_,O,_⟩
  .have:=(h.JI M).2;simp[FK.eV] at this
  .exact L
  .rw[h.kind] at O;cases O
 refine⟨e3.trans K.n,e4.trans K.ai,by rw[e2];exact K.next,by rw[e5];exact K.aA,?_,?_,?_,?_,?_,?_⟩
 .intro id o' Q T;rw[e1];exact K.own id o' Q λj ob O L=>T j ob O ((hs j).2 (.inr L))
 .intro id j ob O L
  rw[e1];rcases(hs j).1 L with rfl | G
  .rw[h.kind] at O;cases O
  .exact K.eh id j ob O G
 .intro j y t s' hj L O V
  rw[gi];rcases(hs j).1 L with rfl | G
  .rw[h.bc] at hj;cases hj;rw[h.kind] at O;cases O
   rw[gt V]
  .rw[ge]
   .exact K.fS j y t s' hj G O V
   .intro E
    exact h.Xw hj (λe=>h.ft (e▸G)) E V
 .intro t s' Q T
  rw[gi,ge (λV=>T i o _ h.bc ((hs i).2 (.inl rfl)) h.kind V)]
  exact K.aC t s' Q λj y k' hj L O=>T j y k' hj ((hs j).2 (.inr L)) O
 .intro t ob L
  have F:=H t ob L;obtain⟨q1,q2,q3,q4⟩:=K.fB t ob F;exact⟨q1,by rw[e2];exact q2,by rw[gi,ge (h.gj F)];exact q3,by rw[e1];exact q4⟩
 .exact λt t' ob ob' Q T=>K.inj t t' ob ob' (H t ob Q) (H t' ob' T)
theorem dO.mk'{ob:am}(h:cT P S Lb i o (.mk ob))(O:dO S (cj Lb) st ν):dO S (cj (Lb.setIfInBounds i true)) ((st.new ob).put o.dst (cd ob st.next)) (λu=>if o.dst=some u then st.next else ν u):=by
 have hs:=λj=>wm (Lb:=Lb) (i:=i) (j:=j) h.lt
 obtain⟨e1,e2,e3,e4,e5⟩:=Uz (st.new ob) o.dst (cd ob st.next)
 have H:∀ t ob',S.dn (cj (Lb.setIfInBounds i true)) t ob'->(o.dst=some t/\ob'=ob)\/S.dn (cj Lb) t ob':=by
  intro t ob' Q;rcases h.JH Q with T | ⟨Q,_⟩ | ⟨_,V,_⟩
  .have:=h.JI T;simp[FK.eV] at this;exact .inl ⟨this.1,this.2.symm⟩
  .exact .inr Q
  .rw[h.kind] at V;cases V
 have F:∀ id o',id≠st.next->zc st.own id=some o'->zc ((st.new ob).put o.dst (cd ob st.next)).own id=some o':=by
  intro id o' L X;rw[e1];simp only[St.new,zc];rw[ge (se L)];exact X
 refine⟨e3.trans O.n,e4.trans O.ai,by rw[e2];exact wD O.next,by rw[e5];exact O.aA,?_,?_,?_,?_,?_,?_⟩
 .intro id o' Y Z
  exact F id o' (by have:=(h.mt.own id o' Y).1;have:=O.next;omega) (O.own id o' Y λj ob V Q=>Z j ob V ((hs j).2 (.inr Q)))
 .intro id j ob' V Q
  rcases(hs j).1 Q with rfl | J
  .rw[h.kind] at V;cases V
  .have A:=(S.jF V)
   obtain⟨y,B⟩:∃ y,S.all[j]?=some y:=⟨_,ac (by have:=h.fR.len;omega)⟩
   obtain⟨o0,M,_⟩:=((h.fR.step j y _ B V).2).2.2.2.2;exact F id ob' (by have:=(h.mt.own id o0 M).1;have:=O.next;omega) (O.eh id j ob' V J)
 .intro j y t s' hj Q V C
  rw[gi];rcases(hs j).1 Q with rfl | J
  .rw[h.kind] at V;cases V
  .rw[ge]
   .exact O.fS j y t s' hj J V C
   .intro K
    exact h.Xw hj (λe=>h.ft (e▸J)) K C
 .intro t s' Y Z
  rw[gi,ge (λC=>Z i o _ h.bc ((hs i).2 (.inl rfl)) h.kind C)]
  exact O.aC t s' Y λj y k' hj Q V=>Z j y k' hj ((hs j).2 (.inr Q)) V
 .intro t ob' Q
  rcases H t ob' Q with⟨C,rfl⟩ | E
  .refine⟨by simp only[gt C];exact O.next,by simp only[gt C];rw[e2];exact tC _,?_,?_⟩
   .rw[gi,gt C];simp only[gt C]
   .simp only[gt C];rw[e1];simp[St.new,zc]
  .have G:=h.gj E
   obtain⟨q1,q2,q3,q4⟩:=O.fB t ob' E;refine⟨by simp only[ge G];exact q1,by simp only[ge G];rw[e2];exact Cx q2,?_,?_⟩
   .rw[gi,ge G];simp only[ge G];exact q3
   .simp only[ge G];exact F _ _ (by omega) q4
 .intro t t' o1 o2 Y Z he
  rcases H t o1 Y with⟨C,rfl⟩ | Q <;> rcases H t' o2 Z with⟨K,rfl⟩ | E
  .rw[C] at K;cases K;rfl
  .have G:=h.gj E
   simp only[gt C,ge G] at he;have:=(O.fB t' o2 E).2.1;omega
  .have G:=h.gj Q
   simp only[gt K,ge G] at he;have:=(O.fB t o1 Q).2.1;omega
  .simp only[ge (h.gj Q),ge (h.gj E)] at he
   exact O.inj t t' o1 o2 Q E he
theorem dO.fC{j:Nat}{bl:Option Nat}{ob oj:am}(h:cT P S Lb i o (.fC j bl ob))(A:dO S (cj Lb) st ν)(hj:j∈aX S.all o)(B:∃ c,S.co c j oj)(Y:wG ob):
  dO S (cj (Lb.setIfInBounds i true)) ((st.aV (ν j) ob).put o.dst (.ar (ν j))) (λu=>if o.dst=some u then ν j else ν u):=by
 have hs:=λj=>wm (Lb:=Lb) (i:=i) (j:=j) h.lt
 have O:=h.holds hj B
 obtain⟨p1,p2,p3,p4⟩:=A.fB j oj O
 obtain⟨e1,e2,e3,e4,e5⟩:=Uz (st.aV (ν j) ob) o.dst (.ar (ν j))
 have H:∀ t ob',S.dn (cj (Lb.setIfInBounds i true)) t ob'->(o.dst=some t/\ob'=ob)\/(S.dn (cj Lb) t ob'/\t≠j):=by
  intro t ob' C;rcases h.JH C with B | ⟨C,I,_⟩ | ⟨_,N,_⟩
  .have:=h.JI B;simp[FK.eV] at this;exact .inl ⟨this.1,this.2.symm⟩
  .exact .inr ⟨C,λe=>I (e▸h.UA hj)⟩
  .rw[h.kind] at N;cases N
 have E:∀ id o',id≠ν j->o'.lo S.bv.next->zc st.own id=some o'->zc ((st.aV (ν j) ob).put o.dst (.ar (ν j))).own id=some o':=by
  intro id o' J K W;rw[e1];simp only[St.aV];rw[Yv,W];simp only[oL];rw[ge J,za2 p1 K]
 have F:∀ t s,o.dst≠some t->ah.lo S.bv.next s->zc st.af t=some s->zc ((st.aV (ν j) ob).put o.dst (.ar (ν j))).af t=some s:=by
  intro t s hd K hs;rw[gi,ge hd];simp only[St.aV];rw[Xv,hs];simp only[oL];rw[Tn p1 K]
 refine⟨e3.trans A.n,e4.trans A.ai,by rw[e2];exact A.next,?_,?_,?_,?_,?_,?_,?_⟩
 .intro id cq hm
  rw[e5] at hm;simp only[St.aV] at hm;rcases nE.1 hm with e | hm
  .omega
  .exact A.aA id cq hm
 .intro id o' h1 h2
  have K:=h.mt.own id o' h1;exact E id o' (by omega) K.2 (A.own id o' h1 λj ob N C=>h2 j ob N ((hs j).2 (.inr C)))
 .intro id j' ob' N C
  rcases(hs j').1 C with rfl | Q
  .rw[h.kind] at N;cases N
  .have hb:=(S.jF N)
   obtain⟨y,hy⟩:∃ y,S.all[j']?=some y:=⟨_,ac (by have:=h.fR.len;omega)⟩
   obtain⟨_,_,_,T,o0,Z,_⟩:=(h.fR.step j' y _ hy N).2;exact E id ob' (by have:=(h.mt.own id o0 Z).1;omega) T (A.eh id j' ob' N Q)
 .intro j' y t s' V C N hd
  rcases(hs j').1 C with rfl | Q
  .rw[h.kind] at N;cases N
  .have K:=((h.fR.step j' y _ V N).2).2.2
   exact F t s' (λL=>h.Xw V (λe=>h.ft (e▸Q)) L hd) K (A.fS j' y t s' V Q N hd)
 .intro t s' h1 h2
  exact F t s' (λhd=>h2 i o _ h.bc ((hs i).2 (.inl rfl)) h.kind hd) (h.mt.af t s' h1) (A.aC t s' h1 λj y k' hj C N=>h2 j y k' hj ((hs j).2 (.inr C)) N)
 .intro t ob' C
  rcases H t ob' C with⟨hd,rfl⟩ | ⟨G,J⟩
  .refine⟨by simp only[gt hd];exact p1,by simp only[gt hd];rw[e2];exact p2,?_,?_⟩
   .rw[gi,gt hd];simp only[gt hd]
    cases ob' <;> simp only[wG] at Y <;> rfl
   .simp only[gt hd];rw[e1];simp only[St.aV];rw[Yv,p4];simp
  .have M:=h.gj G
   obtain⟨q1,q2,q3,q4⟩:=A.fB t ob' G;have hνne:ν t≠ν j:=λe=>J (A.inj t j ob' oj G O e)
   refine⟨by simp only[ge M];exact q1,by simp only[ge M];rw[e2];exact q2,?_,?_⟩
   .rw[gi,ge M];simp only[ge M,St.aV];rw[Xv,q3];simp only[oL];rw[zmn hνne]
   .simp only[ge M];exact E _ _ hνne (G.lo h.fR) q4
 .intro t t' o1 o2 h1 h2 he
  rcases H t o1 h1 with⟨hd,rfl⟩ | ⟨C,J⟩ <;> rcases H t' o2 h2 with⟨L,rfl⟩ | ⟨G,X⟩
  .rw[hd] at L;cases L;rfl
  .simp only[gt hd,ge (h.gj G)] at he
   exact absurd (A.inj t' j o2 oj G O he.symm) X
  .simp only[gt L,ge (h.gj C)] at he
   exact absurd (A.inj t j o1 oj C O he) J
  .simp only[ge (h.gj C),ge (h.gj G)] at he
   exact A.inj t t' o1 o2 C G he
theorem dO.qb{j:Nat}{ob oj:am}(h:cT P S Lb i o (.qb j ob))(X:dO S (cj Lb) st ν)(T:o.dst=none)(hj:j∈aX S.all o)(Y:∃ c,S.co c j oj)(Z:kU ob)(L:kU oj):
  dO S (cj (Lb.setIfInBounds i true)) {st with own:=zT (ν j) ob st.own} ν:=by
 have hs:=λj=>wm (Lb:=Lb) (i:=i) (j:=j) h.lt
 have F:=h.holds hj Y
 obtain⟨p1,p2,p3,p4⟩:=X.fB j oj F
 have H:∀ t ob',S.dn (cj (Lb.setIfInBounds i true)) t ob'->(t=j/\ob'=ob)\/(S.dn (cj Lb) t ob'/\t≠j):=by
  intro t ob' A;rcases h.JH A with Y | ⟨A,B,_⟩ | ⟨_,C,_⟩
  .have:=h.JI Y;simp[FK.eV] at this
  .exact .inr ⟨A,λe=>B (e▸h.UA hj)⟩
  .rw[h.kind] at C;cases C;exact .inl ⟨rfl,rfl⟩
 have G:∀ id o',id≠ν j->zc st.own id=some o'->zc (zT (ν j) ob st.own) id=some o':=by
  intro id o' E I;rw[ZE,ge E];exact I
 refine⟨X.n,X.ai,X.next,X.aA,?_,?_,?_,?_,?_,?_⟩
 .intro id o' N W
  have V:=h.mt.own id o' N;exact G id o' (by omega) (X.own id o' N λj ob C A=>W j ob C ((hs j).2 (.inr A)))
 .intro id j' ob' C A
  rcases(hs j').1 A with rfl | K
  .rw[h.kind] at C;cases C
  .have Z:=(S.jF C)
   obtain⟨y,hy⟩:∃ y,S.all[j']?=some y:=⟨_,ac (by have:=h.fR.len;omega)⟩
   obtain⟨_,_,_,M,o0,O,_⟩:=(h.fR.step j' y _ hy C).2;exact G id ob' (by have:=(h.mt.own id o0 O).1;omega) (X.eh id j' ob' C K)
 .intro j' y t s' Q A C hd
  rcases(hs j').1 A with rfl | K
  .rw[h.kind] at C;cases C
  .exact X.fS j' y t s' Q K C hd
 .intro t s' N W
  exact X.aC t s' N λj y k' hj A C=>W j y k' hj ((hs j).2 (.inr A)) C
 .intro t ob' A
  rcases H t ob' A with⟨rfl,rfl⟩ | ⟨J,E⟩
  .refine⟨p1,p2,?_,by show zc (zT _ _ _) _=_;rw[ZE,gt rfl]⟩
   show zc st.af _=_
   rw[p3];cases oj <;> simp only[kU] at L
   cases ob' <;> simp only[kU] at Z
   rfl
  .obtain⟨q1,q2,q3,q4⟩:=X.fB t ob' J
   have hνne:ν t≠ν j:=λe=>E (X.inj t j ob' oj J F e)
   exact⟨q1,q2,q3,G _ _ hνne q4⟩
 .intro t t' o1 o2 N W he
  have e1:∃ o,S.dn (cj Lb) t o:=by
   rcases H t o1 N with⟨rfl,_⟩ | ⟨A,_⟩
   .exact⟨oj,F⟩
   .exact⟨o1,A⟩
  have e2:∃ o,S.dn (cj Lb) t' o:=by
   rcases H t' o2 W with⟨rfl,_⟩ | ⟨A,_⟩
   .exact⟨oj,F⟩
   .exact⟨o2,A⟩
  obtain⟨_,e1⟩:=e1;obtain⟨_,e2⟩:=e2;exact X.inj t t' _ _ e1 e2 he
theorem dO.bst'{id:Nat}{ob o0:am}(h:cT P S Lb i o (.eh id ob))(J:dO S (cj Lb) st ν)(K:o.dst=none)(F:zc S.bv.own id=some o0):
  dO S (cj (Lb.setIfInBounds i true)) {st with own:=zT id ob st.own} ν:=by
 have hs:=λj=>wm (Lb:=Lb) (i:=i) (j:=j) h.lt
 have cq:=(h.mt.own id o0 F).1
 have H:∀ t ob',S.dn (cj (Lb.setIfInBounds i true)) t ob'->S.dn (cj Lb) t ob':=by
  intro t ob' L;rcases h.JH L with M | ⟨L,O,_⟩ | ⟨_,Q,_⟩
  .have:=h.JI M;simp[FK.eV] at this
  .exact L
  .rw[h.kind] at Q;cases Q
 refine⟨J.n,J.ai,J.next,J.aA,?_,?_,?_,?_,?_,?_⟩
 .intro id' o' T V
  show zc (zT id ob st.own) id'=some o'
  rw[ZE,ge (λe=>V i ob (by rw[e];exact h.kind) ((hs i).2 (.inl rfl)))]
  exact J.own id' o' T λj ob Q L=>V j ob Q ((hs j).2 (.inr L))
 .intro id' j' ob' Q L
  show zc (zT id ob st.own) id'=some ob'
  rcases(hs j').1 L with rfl | G
  .rw[h.kind] at Q;cases Q;rw[ZE,gt rfl]
  .rw[ZE,ge (λe=>by subst e;exact h.ft (by rw[h.fR.na i j' _ ob ob' h.kind Q];exact G))]
   exact J.eh id' j' ob' Q G
 .intro j' y t s' E L Q hd
  rcases(hs j').1 L with rfl | G
  .rw[h.kind] at Q;cases Q
  .exact J.fS j' y t s' E G Q hd
 .intro t s' T V
  exact J.aC t s' T λj y k' hj L Q=>V j y k' hj ((hs j).2 (.inr L)) Q
 .intro t ob' L
  obtain⟨q1,q2,q3,q4⟩:=J.fB t ob' (H t ob' L);exact⟨q1,q2,q3,by show zc (zT id ob st.own) _=_;rw[ZE,ge (by omega)];exact q4⟩
 .exact λt t' o1 o2 T V he=>J.inj t t' o1 o2 (H t o1 T) (H t' o2 V) he
theorem Tt(G:ax X w0 st β a w){t:Nat}{b:Bool}(h:zc st.af t=some (.d (.bool b))):a.tmps[t]?=some (.bool b):=by
 obtain⟨_,hs⟩:=G.af t _ h
 simp only[Sm,R] at hs
 by_cases H:t<a.tmps.size
 .rw[qz H]
  simp[H] at hs;rw[hs]
 .rw[show a.tmps.getD t undef=undef by simp[H]] at hs;simp[undef] at hs
theorem Tv{ops:Array Oper}{tmps:Array Value}{j t:Nat}{b:Bool}(h:(ops[j]?).bind (·.dst)=some t)(H:tmps[t]?=some (.bool b)):yielded ops tmps j=some b:=by
 unfold yielded
 rw[h]
 simp[H]
theorem zsn{b c:Bool}(h:¬b=c):b = !c:=by cases b <;> cases c <;> simp_all
theorem BM{all:List Oper}(H:∀ j y,all[j]?=some y->cj Lb j->∀ e∈y.after.toList,Region.binds .any e=true->Lb.getD e.on false=true):∀ (f:Nat) {m i:Nat},cj Lb m->ZF all f m i=true->cj Lb i
 |0,m,i,_,h=>by cases h
 |f+1,m,i,G,h=>by
  simp only[ZF] at h;split at h
  .rename_i y F
   rw[oS] at h;rcases h with h | h
   .unfold eH at h
    obtain⟨e,E,K⟩:=n_.1 h;rw[nI,tx] at K;have:=H m y F G e E K.1
    rw[K.2] at this;exact ZG this
   .obtain⟨e,E,K⟩:=n_.1 h
    rw[nI] at K;exact BM H f (ZG (H m y F G e E K.1)) K.2
  .cases h
theorem zqg(h:cT P S Lb i o k)(hm:ax X w0 st β a w)(hD:dO S (cj Lb) st ν){N:Act->World->Prop}{Q:Exit->Act->World->Prop}
  (hN:∀ a' w' st' β' ν',ax X w0 st' β' a' w'->dO S (cj (Lb.setIfInBounds i true)) st' ν'->N a' w'):wpOp P S.all.toArray Q i N a w:=by
 obtain⟨Hc,H⟩:=h.fR.step i o k h.bc h.kind
 have Hd:S.all.toArray[i]?=some o:=by simpa using h.bc
 unfold wpOp
 rw[Hd]
 simp only
 have W:∀ t,o.dst=some t->t<st.n:=by rw[hD.n];exact xw Hc
 cases k with
 |mk ob=>
  obtain⟨hg,_,_,_,G⟩:=H;simp only[Region.wanted,hg,oV];exact .inl (wi hm (K:=λst'=>st'=(st.new ob).put o.dst (cd ob st.next)) (G st _ (h.fH hD) rfl) N Q λa' w' st' β' e F=>by subst e;exact hN _ _ _ _ _ F (hD.mk' h))
 |fC j bl ob=>
  obtain⟨hg,_,hU,hj,O,_,Hi,oj,ok,J,T,Hp,G⟩:=H;simp only[Region.wanted,hg,oV];obtain⟨p1,p2,p3,p4⟩:=hD.fB j oj (h.holds hj J);refine .inl (wi hm (K:=λst'=>st'=(st.aV (ν j) ob).put o.dst (.ar (ν j))) (G st _ (ν j) (h.fH hD) ?_ p4 ?_ rfl) N Q λa' w' st' β' e F=>by subst e;exact hN _ _ _ _ _ F (hD.fC h hj J Hi))
  .simp only[St.val,p3,nW]
   cases oj <;> simp only[wG] at T;rfl
  .intro k hk
   obtain⟨Hs,Hx⟩:=O k hk;obtain⟨G2,V⟩:=Hp k hk;have H0:=h.holds Hx G2;obtain⟨q1,q2,q3,q4⟩:=hD.fB k ok H0;refine⟨ν k,λe=>Hs (hD.inj k j ok oj H0 (h.holds hj J) e),?_,q4⟩
   simp only[St.val,q3,nW];cases ok <;> simp only[wG] at V;rfl
 |qb j ob=>
  obtain⟨hg,Y,hU,hj,_,hb,oj,J,H1,G⟩:=H;simp only[Region.wanted,hg,oV];obtain⟨p1,p2,p3,p4⟩:=hD.fB j oj (h.holds hj J);refine .inl (wi hm (K:=λst'=>st' = {st with own:=zT (ν j) ob st.own}) (G st _ (ν j) (h.fH hD) ?_ p4 rfl) N Q λa' w' st' β' e F=>by subst e;exact hN _ _ _ _ _ F (hD.qb h Y hj J hb H1))
  simp only[St.val,p3,nW];cases oj <;> simp only[kU] at H1;rfl
 |eh id ob=>
  obtain⟨hg,Y,hU,_,o0,H2,G⟩:=H;simp only[Region.wanted,hg,oV];have Z:st.ay id=some o0:=hD.own id o0 H2 λj ob' hk hl=>h.ft (by rw[h.fR.na i j id ob ob' h.kind hk];exact hl)
  exact .inl (wi hm (K:=λst'=>st' = {st with own:=zT id ob st.own}) (G st _ (h.fH hD) Z rfl) N Q λa' w' st' β' e F=>by subst e;exact hN _ _ _ _ _ F (hD.bst' h Y H2))
 |val s=>
  obtain⟨hU,H,A⟩:=H;let st':St:={st with af:=seen S.all o (S.zU i)}
  have F:ax X w0 st' β a w:=by
   refine⟨hm.bU,hm.bI,hm.cB,hm.defers,hm.size,hm.below,hm.bB,hm.own,hm.apart,?_⟩
   intro t s' ht;obtain⟨q1,q2⟩:=Ys ht;by_cases hj:s' = .junk
   .subst hj;exact⟨by simp[ah.lo],by simp[Sm]⟩
   .exact hm.af t s' (h.Xx hD q1 q2 hj)
  have B:∀ x∈o.op.operands,(S.zU i).val x=st'.val x:=by
   intro x Ga;cases x with
   |tmp t=>
    simp only[St.val];have C:t∈aX S.all o:=V4 Ga
    cases hl:zc (S.zU i).af t with
    |some s'=>rw[show zc st'.af t=some s' from JD C hl]
    |none=>
     cases I:zc st'.af t with
     |none=>rfl
     |some s'=>have:=(Ys I).2;rw[hl] at this;cases this
   |_=>rfl
  have L:∀ id ob,(S.zU i).ay id=some ob->st'.ay id=some ob:=by
   intro id ob hl;have I:zc (S.aR i) id=some ob:=by
    have e:(S.zU i).own=S.aR i:=(Xu _ _ _).1
    simp only[St.ay,e] at hl;exact hl
   obtain⟨h1,h2⟩:=h.fR.aR i id ob I;exact hD.own id ob h1 λj ob' hk hl=>by
    obtain⟨f,hf⟩:=h2 j ob' hk;exact h.ft (BM h.down f hl hf)
  have M:(Yr (S.zU i).val o.op=true/\vQ P (S.zU i).ay (S.zU i).val o.op (λs'=>s'=s))->o.wp P a w N Q:=by
   intro⟨h1,h2⟩;have h3:=zmm L (BG B h2);refine Jq F o h3 N Q λs' v w' e hl hb Gb=>?_
   subst e;exact hN _ _ _ _ _ (hm.put hb W (ah.jA hD.next A) Gb) (hD.val h hU)
  have E:s = .d (.val undef)->N (a.put o.dst undef) w:=by
   intro e;subst e;exact hN _ _ _ _ _ (hm.yH W (by simp[ah.lo]) (by simp[Sm,R])) (hD.val h hU)
  unfold eI wj at H;split at H
  .rename_i hg
   simp only[Region.wanted,hg,oV];exact .inl (M H)
  .rename_i j want hg
   split at H
   .rename_i t ht
    have Hb:t∈aX S.all o:=BH hg ht
    split at H
    .rename_i b hb
     have hy:=Tv (Yq ht) (Tt hm (h.Xx hD Hb hb (by simp)))
     simp only[Region.wanted,hg,hy];by_cases e:b=want
     .subst e
      simp only[tD,oV];exact .inl (M (H.1 rfl))
     .have e':b = !want:=zsn e
      have:(some b==some want)=false:=by simp[e]
      simp only[this,ou,oU];exact E (H.2 e').symm
    .rename_i v hb
     obtain⟨rfl,hj⟩:=H;obtain⟨_,hv⟩:=hm.af t _ (h.Xx hD Hb hb (by simp))
     simp only[Sm,R] at hv;have hy:yielded S.all.toArray a.tmps j=none:=Up (Yq ht) hv
     simp only[Region.wanted,hg,hy];have:((none:Option Bool)==some want)=false:=rfl
     simp only[this,ou,oU];exact E hj.symm
    .exact H.elim
   .exact H.elim
def qA:Nat->List (Nat×am)->List (Nat×am)
 |_,[]=>[]
 |n,(_,ob)::r=>(n,ob)::qA (n+1) r
def vi:Nat->List (Nat×am)->List (Nat×ah)
 |_,[]=>[]
 |n,(t,ob)::r=>(t,cd ob n)::vi (n+1) r
structure iX(S:Seg)(fins eC:List (Nat×am)):Prop where
 d_:∀ t ob,(t,ob)∈fins->∃ c ob0,S.co c t ob0/\((ob=ob0/\∀ m,¬S.eW t m)\/∃ m,S.eW t m/\S.kd m=some (.qb t ob))
 fI:(fins.map (·.1)).Nodup
 bB:eC.map (·.1)=S.bv.own.map (·.1)
 eC:(S.bv.own.map (·.1)).Nodup->∀ id o,(id,o)∈eC->(∃ i,S.kd i=some (.eh id o))\/(zc S.bv.own id=some o/\∀ i ob,S.kd i≠some (.eh id ob))
def Seg.ck(S:Seg)(fins eC:List (Nat×am)):St:=
 {S.bv with next:=S.bv.next+fins.length,af:=vi S.bv.next fins++(S.zU S.hi).af,own:=qA S.bv.next fins++eC}
theorem Tz:∀ {n:Nat} {l:List (Nat×am)} {id:Nat} {ob:am},(id,ob)∈qA n l->∃ j t,l[j]?=some (t,ob)/\id=n+j
 |n,(t,o)::r,id,ob,h=>by
  simp only[qA] at h;rcases nE.1 h with e | h
  .cases e;exact⟨0,t,by simp,by omega⟩
  .obtain⟨j,t',H,G⟩:=Tz h;exact⟨j+1,t',by simpa using H,by omega⟩
theorem BN:∀ (n:Nat) (l:List (Nat×am)),(qA n l).map (·.1)=List.range' n l.length
 |n,[]=>rfl
 |n,(t,o)::r=>by simp only[qA,nK,nP,sS,BN (n+1) r]
theorem TA:∀ {n:Nat} {l:List (Nat×am)} {sl:List (Nat×ah)} {t:Nat} {s:ah},zc (vi n l++sl) t=some s->(∃ j ob,l[j]?=some (t,ob)/\s=cd ob (n+j))\/zc sl t=some s
 |n,[],sl,t,s,h=>.inr (by simpa[vi] using h)
 |n,(t',ob)::r,sl,t,s,h=>by
  simp only[vi,nV,zc] at h;split at h
  .rename_i e;subst e;cases h;exact .inl ⟨0,ob,by simp,by simp⟩
  .rcases TA h with⟨j,ob',H,G⟩ | h
   .exact .inl ⟨j+1,ob',by simpa using H,by rw[G];congr 1;omega⟩
   .exact .inr h
theorem zt4{E E':Nat->Prop}{β':Nat->Value}{ob:am}{i j:Nat}{v:Value}(h:Sm w E β (cd ob i) v)(e:β' j=β i):Sm w E' β' (cd ob j) v:=by
 cases ob <;> simp only[cd,Sm] at h ⊢ <;> rw[e] <;> exact h
theorem yV.t_o{N:Nat->Prop}{E E':Nat->Prop}{β':Nat->Value}{m i j:Nat}{ob:am}(hβ:∀ id,id<m->β' id=β id)(H:bh w E w E')(e:β' j=β i)(G:ob.lo m)(h:yV w N E β i ob):yV w N E' β' j ob:=by
 cases ob with
 |box T cells=>
  obtain⟨b,vs,F,K,J,L,M⟩:=h;exact⟨b,vs,by rw[e];exact F,K,J,zi.over hβ H G L,M⟩
 |aQ T sz rows=>
  obtain⟨xs,F,K,J⟩:=h;exact⟨xs,by rw[e];exact F,zl.over H _ _ K,J⟩
 |map T rows=>
  obtain⟨r,es,clock,F,K,J,L⟩:=h;exact⟨r,es,clock,by rw[e];exact F,K,J,yN.over H _ _ L⟩
 |cN k cells=>
  obtain⟨b,fn,D,vs,F,K,J,L⟩:=h;exact⟨b,fn,D,vs,by rw[e];exact F,K,J,zi.over hβ H G L⟩
theorem zso(M:fZ P S)(J:kw S.bv)(C:(S.bv.own.map (·.1)).Nodup)(I:S.bv.ai<=S.bv.next){L:Nat->Prop}(hm:ax X w0 st β a w)(hD:dO S L st ν)(V:∀ j,S.lo<=j->j<S.hi->L j){fins eC:List (Nat×am)}(he:iX S fins eC):
  ∃ β',ax X w0 (S.ck fins eC) β' a w:=by
 have Q:∀ {j k},S.kd j=some k->L j:=λh=>V _ (S.jF h).1 (S.jF h).2
 have G:∀ t ob,(t,ob)∈fins->S.dn L t ob:=by
  intro t ob H;obtain⟨c,ob0,hc,h⟩:=he.d_ t ob H;have N:L c:=by obtain⟨y,k',_,h2,_⟩:=hc;exact Q h2
  rcases h with⟨rfl,hu⟩ | ⟨m,hu,hk⟩
  .exact .inl ⟨c,hc,N,λm H0=>absurd H0 (hu m)⟩
  .exact .inr ⟨c,ob0,m,hc,N,Q hk,hu,hk⟩
 let β':Nat->Value:=λid=>if S.bv.next<=id then (match fins[id-S.bv.next]? with | some (t,_)=>β (ν t) | none=>β id) else β id
 have E:∀ id,id<S.bv.next->β' id=β id:=λid h=>ge (by omega)
 have O:∀ j t ob,fins[j]?=some (t,ob)->β' (S.bv.next+j)=β (ν t):=by
  intro j t ob h;show(if _ then _ else _)=_
  rw[gt (by omega)]
  have:S.bv.next+j-S.bv.next=j:=by omega
  rw[this,h]
 have T:∀ j t ob,fins[j]?=some (t,ob)->mM S st ν t ob:=λj t ob h=>hD.fB t ob (G t ob (ol h))
 have K:∀ id o',(id,o')∈eC->id<S.bv.next/\o'.lo S.bv.next/\(id,o')∈st.own:=by
  intro id o' H;rcases he.eC C id o' H with⟨i,hk⟩ | ⟨h1,h2⟩
  .have hb:=(S.jF hk)
   obtain⟨y,hy⟩:∃ y,S.all[i]?=some y:=⟨_,ac (by have:=M.len;omega)⟩
   obtain⟨_,_,_,Y,o0,H1,_⟩:=(M.step i y _ hy hk).2;exact⟨(J.own id o0 H1).1,Y,xm (hD.eh id i o' hk (Q hk))⟩
  .obtain⟨q1,q2⟩:=J.own id o' h1
   exact⟨q1,q2,xm (hD.own id o' h1 λj ob hk _=>h2 j ob hk)⟩
 -- d_ own thing of the end is cB of those that are iO
 have F:∀ id o',(id,o')∈(S.ck fins eC).own->∃ id0,(id0,o')∈st.own/\β' id=β id0/\o'.lo S.bv.next/\((id0=id/\id<S.bv.next)\/∃ j t,fins[j]?=some (t,o')/\id=S.bv.next+j/\id0=ν t):=by
  intro id o' H;rcases nM.1 H with h | h
  .obtain⟨j,t,hj,rfl⟩:=Tz h
   obtain⟨q1,q2,q3,q4⟩:=T j t o' hj;exact⟨ν t,xm q4,O j t o' hj,(G t o' (ol hj)).lo M,.inr ⟨j,t,hj,rfl,rfl⟩⟩
  .obtain⟨q1,q2,q3⟩:=K id o' h
   exact⟨id,q3,E id q1,q2,.inl ⟨rfl,q1⟩⟩
 have W:bh w (Ex X β st.own) w (Ex X β' (S.ck fins eC).own):=by
  refine bh.dy λb hb=>hb.elim .inl λ⟨id,o',H,Z⟩=>?_
  obtain⟨id0,h1,h2,_⟩:=F id o' H;exact .inr ⟨id0,o',h1,by rw[<-h2];exact Z⟩
 refine⟨β',hm.bU,⟨oC I (sV _ _),?_⟩,?_,hm.defers,hm.size.trans hD.n,hm.below,?_,?_,?_,?_⟩
 .intro id h1 h2
  have cq:id<S.bv.next:=pg h1 I
  rw[E id cq];exact hm.bI.2 id (by rw[hD.ai];exact h1) (λh=>h2 (hD.aA id cq h))
 .intro id
  show((if _ then _ else _:Value)).oneCell'=true
  split
  .split
   .exact hm.cB _
   .exact hm.cB _
  .exact hm.cB _
 .show((qA S.bv.next fins++eC).map (·.1)).Nodup
  rw[oF,rX];refine⟨by rw[BN];exact List.nodup_range',by rw[he.bB];exact C,?_⟩
  intro p hp q hq e;subst e;rw[BN] at hp;obtain⟨⟨id,o'⟩,H,e⟩:=nS.1 hq;have:=(K id o' H).1
  have:=(AR.1 hp)
  simp at e;omega
 .intro id o' H
  obtain⟨id0,h1,h2,h3,h4⟩:=F id o' H;obtain⟨q1,q2,q3⟩:=hm.own id0 o' h1;refine⟨?_,am.jA (sV _ _) h3,q3.t_o E W h2 h3⟩
  show id<S.bv.next+fins.length
  rcases h4 with⟨_,h⟩ | ⟨j,t,hj,rfl,_⟩
  .omega
  .have:=(nN.1 hj).1;omega
 .intro id o1 id' o2 b h1 h2 e1 e2
  obtain⟨i1,p1,p2,_,p4⟩:=F id o1 h1;obtain⟨i2,q1,q2,_,q4⟩:=F id' o2 h2;have heq:=hm.apart i1 o1 i2 o2 b p1 q1 (by rw[<-p2];exact e1) (by rw[<-q2];exact e2)
  rcases p4 with⟨rfl,Hc⟩ | ⟨j,t,hj,rfl,rfl⟩ <;> rcases q4 with⟨rfl,H2⟩ | ⟨j',t',A,rfl,rfl⟩
  .exact heq
  .have:=(T j' t' o2 A).1;omega
  .have:=(T j t o1 hj).1;omega
  .have ht:=hD.inj t t' o1 o2 (G _ _ (ol hj)) (G _ _ (ol A)) heq
   subst ht;have hn:=he.fI;have h1:(fins.map (·.1))[j]?=some t:=by simp[hj]
   have h2:(fins.map (·.1))[j']?=some t:=by simp[A]
   have Hb:=(nN.1 h1);have B:=(nN.1 h2);have:j=j':=(List.getElem_inj hn).1 (Hb.2.trans B.2.symm)
   rw[this]
 .intro t s ht
  rcases TA ht with⟨j,ob,hj,rfl⟩ | ht
  .obtain⟨q1,q2,q3,q4⟩:=T j t ob hj
   refine⟨zt3 ?_,zt4 (hm.af t _ q3).2 (O j t ob hj)⟩
   show S.bv.next+j<S.bv.next+fins.length
   have:=(nN.1 hj).1;omega
  .have ck:ah.lo S.bv.next s->zc st.af t=some s->ah.lo (S.ck fins eC).next s/\Sm w (Ex X β' (S.ck fins eC).own) β' s (a.tmps.getD t undef):=
    λh1 h2=>⟨ah.jA (sV _ _) h1,Sm.over E W h1 (hm.af t s h2).2⟩
   rcases S.Tq M.len ⟨M.len.1,nJ _⟩ ht with⟨j,y,k',h1,h2,h3,h4,h5⟩ | ⟨h1,h2⟩
   .cases k' with
    |val s'=>
     simp only[FK.sym] at h4;subst h4;exact ck (M.step j y _ h1 h2).2.2.2 (hD.fS j y t _ h1 (Q h2) h2 h5)
    |_=>simp only[FK.sym] at h4;subst h4;exact⟨by simp[ah.lo],by simp[Sm]⟩
   .exact ck (J.af t s h2) (hD.aC t s h2 λj y k' hj hl hk=>h1 j y hj (S.jF hk).1 (S.jF hk).2)
end
end Go.V
namespace Go.V
variable [Dr] [Ov]
open Go.RowKit
def lC(all:List Oper)(b:Nat):List Nat:=(List.range b).filter λi=>!((all.take b).any λz=>eH z i)
def vF(all:List Oper)(b:Nat):Bool:=
 (all.drop b).all λy=>(y.after.toList.any λe=>Region.binds .any e&&Nat.ble b e.on) || (lC all b).all λi=>eH y i
def zu1(P:Program)(all:List Oper)(pos:Nat)(st:St)(K:St->Prop):Prop:=
 ∀ (X:Nat->Prop) (w0:bz) (β:Nat->Value) (a:Act) (w:World),ax X w0 st β a w->∀ (N:Act->World->Prop) (Q:Exit->Act->World->Prop),
  (∀ a' w' st' β',K st'->ax X w0 st' β' a' w'->N a' w')->wpOp P all.toArray Q pos N a w
inductive eR (P:Program) (all:List Oper) (K:St->Prop):Nat->St->Prop
 |done {st:St}:K st->eR P all K all.length st
 |mG {pos:Nat} {st:St} (K1:St->Prop):pos<all.length->(vF all (pos+1)=true\/pos+1=all.length)->zu1 P all pos st K1->(∀ st',K1 st'->eR P all K (pos+1) st')->eR P all K pos st
 |ic {pos hi:Nat} {st:St} (ks:List FK) (aR:Nat->List (Nat×am)) (fins eC:List (Nat×am)):fZ P ⟨all,pos,hi,ks,st,aR⟩->iX ⟨all,pos,hi,ks,st,aR⟩ fins eC->(vF all hi=true\/hi=all.length) ->
   eR P all K hi (Seg.ck ⟨all,pos,hi,ks,st,aR⟩ fins eC)->eR P all K pos st
section
variable {P:Program} {X:Nat->Prop} {w0:bz} {st:St} {β:Nat->Value} {a:Act} {w w':World} {all:List Oper} {Lb:Array Bool}
theorem BO(E:yO all=true){b:Nat}(Y:vF all b=true)(O:Lb.size=all.length)(G:∀ j y,all[j]?=some y->cj Lb j->∀ e∈y.after.toList,Region.binds .any e=true->Lb.getD e.on false=true)
  (L:∀ j,b<=j->j<all.length->¬cj Lb j) {j:Nat} {y:Oper} (hj:all[j]?=some y) (Q:b<=j) (H:∀ e∈y.after.toList,Region.binds .any e=true->Lb.getD e.on false=true):∀ i,i<b->cj Lb i:=by
 have T:=(nN.1 hj).1
 -- y waits for d_ sink
 have hs:∀ i∈lC all b,cj Lb i:=by
  have Z:y∈all.drop b:=by
   refine ol (i:=j-b) ?_
   rw[oQ];have:b+(j-b)=j:=by omega
   rw[this];exact hj
  have:=(oo.1 Y) y Z
  rw[oS] at this;rcases this with h | h
  .obtain⟨e,A,B⟩:=n_.1 h
   rw[nI] at B;have C:=H e A B.1;have F:b<=e.on:=so▸B.2
   have V:e.on<j:=(BI E hj).1 e A B.1
   exact absurd (ZG C) (L e.on F (by omega))
  .intro i hi
   obtain⟨e,A,I,F⟩:=Yt ((oo.1 h) i hi);have:=H e A I
   rw[F] at this;exact ZG this
 -- the greatest cB that is not done
 have key:∀ n i,i<b->b-i<=n->cj Lb i:=by
  intro n;induction n with
  |zero=>intro i hi h;omega
  |succ n ih=>
   intro i hi h;by_cases K:i∈lC all b
   .exact hs i K
   .have:((all.take b).any λz=>eH z i)=true:=by
     cases N:((all.take b).any λz=>eH z i) with
     |true=>rfl
     |false=>exact absurd (oA.2 ⟨oc.2 hi,by rw[N];rfl⟩) K
    obtain⟨z,P,M⟩:=n_.1 this;obtain⟨m,S⟩:=List.mem_iff_getElem?.1 P;have J:m<b:=by
     rcases pe m b with h | h
     .exact h
     .rw[og,ge (by omega)] at S;cases S
    rw[og,gt J] at S;obtain⟨e,A,I,F⟩:=Yt M;have X:i<m:=by have:=(BI E S).1 e A I;omega
    have:=G m z S (ih m J (by omega)) e A I
    rw[F] at this;exact ZG this
 exact λi hi=>key (b-i) i hi (nJ _)
structure dX(all:List Oper)(Lb:Array Bool):Prop where
 size:Lb.size=all.length
 down:∀ j y,all[j]?=some y->cj Lb j->∀ e∈y.after.toList,Region.binds .any e=true->Lb.getD e.on false=true
theorem dX.set(h:dX all Lb){i:Nat}{o:Oper}(hi:all[i]?=some o)(H:∀ e∈o.after.toList,Region.binds .any e=true->Lb.getD e.on false=true):dX all (Lb.setIfInBounds i true):=by
 have G:i<Lb.size:=by rw[h.size];exact(nN.1 hi).1
 have F:∀ j,Lb.getD j false=true->(Lb.setIfInBounds i true).getD j false=true:=by
  intro j hj;by_cases E:j<Lb.size
  .simp[Array.getD,E,rj] at hj ⊢;right;exact hj
  .simp[Array.getD,E] at hj
 refine⟨by simp[h.size],λj y hj K e J L=>?_⟩
 rcases(wm G).1 K with rfl | K
 .rw[hi] at hj;cases hj;exact F _ (H e J L)
 .exact F _ (h.down j y hj K e J L)
theorem UB(h:dX all Lb){i:Nat}(hi:i∈Region.ready .any all.toArray Lb):∃ o,all[i]?=some o/\i<all.length/\¬cj Lb i/\∀ e∈o.after.toList,Region.binds .any e=true->Lb.getD e.on false=true:=by
 unfold Region.ready at hi
 obtain⟨G,hi⟩:=oA.1 hi
 simp only[nI,pS] at hi
 obtain⟨H,hi⟩:=hi
 cases F:all.toArray[i]? with
 |none=>rw[F] at hi;simp at hi
 |some o=>
  rw[F] at hi;simp only[oL,nW] at hi;refine⟨o,by simpa using F,by simpa using G,(λE=>by unfold cj at E;rw[H] at E;cases E),λe K hb=>?_⟩
  rw[sm] at hi;have:=hi e (by simpa using K)
  simp only[hb,tF,rk] at this;exact this
def left(Lb:Array Bool):Nat:=(Lb.toList.filter (!·)).length
theorem Xy{i:Nat}(hi:i<Lb.size)(H:¬cj Lb i):left (Lb.setIfInBounds i true)+1=left Lb:=by
 have G:Lb.toList[i]?=some false:=by
  have:Lb[i]=false:=by
   cases h:Lb[i] with
   |false=>rfl
   |true=>exact absurd (by unfold cj;simp[Array.getD,hi,h]) H
  simp[hi,this]
 unfold left
 rw[ut]
 generalize Lb.toList=l at G
 clear hi H
 induction l generalizing i with
 |nil=>simp at G
 |cons x r ih=>
  cases i with
  |zero=>simp at G;subst G;simp
  |succ i=>
   have:=ih (i:=i) (by simpa using G)
   simp only[sk,rK];cases x <;> simp <;> omega
theorem JJ{i:Nat}(hi:i<Lb.size)(H:¬cj Lb i):0<left Lb:=by have:=Xy hi H;omega
theorem TB(O:yO all=true){S:Seg}(G:S.all=all)(hS:fZ P S)(J:kw S.bv)(L:vF all S.hi=true\/S.hi=all.length){Q:Exit->Act->World->Prop}
  (M:∀ st' β' ν a' w' Lb',ax X w0 st' β' a' w'->dO S (cj Lb') st' ν->dX all Lb'->(∀ j,j<all.length->(cj Lb' j↔j<S.hi))->∀ fuel,left Lb'<=fuel->wpAny P .any all.toArray Q fuel Lb' a' w') :
  ∀ (fuel:Nat) (Lb:Array Bool) (st:St) (β ν:Nat->_) (a:Act) (w:World),ax X w0 st β a w->dO S (cj Lb) st ν->dX all Lb->(∀ j,j<S.lo->cj Lb j)->(∀ j,S.hi<=j->j<all.length->¬cj Lb j)->left Lb<=fuel ->
   wpAny P .any all.toArray Q fuel Lb a w
 |fuel,Lb,st,β,ν,a,w,hm,hD,F,T,V,hf=>by
  by_cases hd:∀ j,S.lo<=j->j<S.hi->cj Lb j
  .refine M st β ν a w Lb hm hD F (λj hj=>⟨λhl=>?_,λh=>?_⟩) fuel hf
   .rcases pe j S.hi with h | h
    .exact h
    .exact absurd hl (V j h hj)
   .rcases pe j S.lo with h' | h'
    .exact T j h'
    .exact hd j h' h
  .have hx:∃ j,S.lo<=j/\j<S.hi/\¬cj Lb j:=by
    refine oJ λhn=>hd λj h1 h2=>oJ λh3=>hn ⟨j,h1,h2,h3⟩
   obtain⟨j,H0,Z,Y⟩:=hx;have H1:S.hi<=all.length:=by rw[<-G];exact hS.len.2.1
   cases fuel with
   |zero=>have:=JJ (Lb:=Lb) (by rw[F.size];omega) Y;omega
   |succ fuel=>
    refine⟨λhr=>absurd (Uw O F.size hr j (by omega)) Y,λi hi=>?_⟩
    obtain⟨o,ho,A,E,H⟩:=UB F hi;have B:S.lo<=i:=x_ λh=>E (T i h)
    have C:i<S.hi:=by
     rcases pe i S.hi with h | h
     .exact h
     .rcases L with hc | hc
      .exact absurd (BO O hc F.size F.down V ho h H j Z) Y
      .omega
    have hk:∃ k,S.kd i=some k:=by
     unfold Seg.kd;rw[gt ⟨B,C⟩];exact⟨_,ac (by have:=hS.len.2.2;omega)⟩
    obtain⟨k,hk⟩:=hk;have K:i<Lb.size:=by rw[F.size];exact A
    have here:cT P S Lb i o k:=⟨hS,J,by rw[G];exact F.size,by rw[G];exact F.down,by rw[G];exact ho,hk,E,H⟩
    have:=zqg (P:=P) here hm hD (N:=wpAny P .any all.toArray Q fuel (Lb.setIfInBounds i true)) (Q:=Q) λa' w' st' β' ν' I W=>
     TB O G hS J L M fuel (Lb.setIfInBounds i true) st' β' ν' a' w' I W (F.set ho H) (λj h=>(wm K).2 (.inr (T j h)))
      (λj h1 h2 hl=>by
       rcases(wm K).1 hl with e | hl
       .omega
       .exact V j h1 h2 hl) (by have:=Xy K E;omega)
    rw[G] at this;exact this
theorem kw.of(H:ax X w0 st β a w):kw st:=⟨λid o h=>⟨(H.dm h).1,(H.dm h).2.1⟩,λt s h=>(H.af t s h).1⟩
theorem BP(V:yO all=true){Q:Exit->Act->World->Prop}{K:St->Prop}(hQ:∀ a w st β,K st->ax X w0 st β a w->Q .normal a w){pos:Nat}{st:St}(h:eR P all K pos st):
  ∀ (β:Nat->Value) (a:Act) (w:World) (Lb:Array Bool),ax X w0 st β a w->dX all Lb->(∀ j,j<all.length->(cj Lb j↔j<pos))->∀ fuel,left Lb<=fuel->wpAny P .any all.toArray Q fuel Lb a w:=by
 induction h with
 | @done st hk=>
  intro β a w Lb hm H hL fuel hf;have E:Region.ready .any all.toArray Lb=[]:=by
   cases hr:Region.ready .any all.toArray Lb with
   |nil=>rfl
   |cons i r=>
    obtain⟨o,ho,L,F,_⟩:=UB H (by rw[hr];simp:i∈Region.ready .any all.toArray Lb)
    exact absurd ((hL i L).2 L) F
  cases fuel with
  |zero=>exact⟨E,hQ a w st β hk hm⟩
  |succ fuel=>exact⟨λ_=>hQ a w st β hk hm,λi hi=>by rw[E] at hi;cases hi⟩
 | @mG pos st K1 M J Y _ ih=>
  intro β a w Lb hm H hL fuel hf;have Z:¬cj Lb pos:=λhl=>by have:=(hL pos M).1 hl;omega
  cases fuel with
  |zero=>have:=JJ (Lb:=Lb) (by rw[H.size];omega) Z;omega
  |succ fuel=>
   refine⟨λhr=>absurd (Uw V H.size hr pos M) Z,λi hi=>?_⟩
   obtain⟨o,ho,L,F,G⟩:=UB H hi;have Hb:pos<=i:=x_ λh=>F ((hL i L).2 h)
   have H0:i=pos:=by
    rcases pe pos i with h | h
    .rcases J with hc | hc
     .exact absurd (BO V hc H.size H.down (λj h1 h2 hl=>by have:=(hL j h2).1 hl;omega) ho h G pos (tC _)) Z
     .omega
    .omega
   subst H0;have O:i<Lb.size:=by rw[H.size];exact L
   refine Y X w0 β a w hm _ Q λa' w' st' β' hk A=>?_
   refine ih st' hk β' a' w' (Lb.setIfInBounds i true) A (H.set ho G) (λj hj=>?_) fuel (by have:=Xy O F;omega)
   rw[wm O,hL j hj];omega
 | @ic pos hi st ks aR fins eC hS hE J _ ih=>
  intro β a w Lb hm H hL fuel hf;have T:kw st:=.of hm
  refine TB (P:=P) (X:=X) (w0:=w0) (S:=⟨all,pos,hi,ks,st,aR⟩) V rfl hS T J ?_ fuel Lb st β (λ_=>0) a w hm ?_ H ?_ ?_ hf
  .intro st' β' ν a' w' Lb' A hD B N fuel' hf'
   obtain⟨β2,H1⟩:=zso (S:=⟨all,pos,hi,ks,st,aR⟩) hS T hm.bB hm.bI.1 A hD (λj h1 h2=>(N j (by have:=hS.len.2.1;exact pg h2 this)).2 h2) hE
   exact ih β2 a' w' Lb' H1 B N fuel' hf'
  .have C:∀ {j k},Seg.kd ⟨all,pos,hi,ks,st,aR⟩ j=some k->¬cj Lb j:=by
    intro j k hk hl;have hb:=Seg.jF hk;have I:=hS.len.2.1;have:=(hL j (pg hb.2 I)).1 hl
    simp at hb;omega
   have W:∀ t ob,¬Seg.dn ⟨all,pos,hi,ks,st,aR⟩ (cj Lb) t ob:=by
    intro t ob hl;obtain⟨c,ob0,⟨y,k',_,h2,_⟩,H2⟩:=hl.co;exact C h2 H2
   exact⟨rfl,rfl,nJ _,λ_ _ h=>h,λ_ _ h _=>h,λ_ _ _ hk hl=>absurd hl (C hk),λ_ _ _ _ _ hl hk _=>absurd hl (C hk),λ_ _ h _=>h,λt ob hl=>absurd hl (W t ob),λt _ ob _ hl=>absurd hl (W t ob)⟩
  .intro j hj
   have:j<all.length:=by have:=hS.len;simp at this hj;omega
   exact(hL j this).2 hj
  .intro j h1 h2 hl
   have:=(hL j h2).1 hl
   have:=hS.len
   simp at h1 this;omega
theorem JK{id:Nat}(G:P.follows .mixedOrders=true)(F:yO all=true){Q:DE->St->Prop}(h:eR P all (Q .normal) 0 st):aT P (.region id all.toArray true) Q st:=by
 intro X w0 β a w L
 refine wp_region_any G ?_
 have E:ax X w0 st β a {w with drawn:=w.drawn+1}:=by
  have M:Below w.heap.size w {w with drawn:=w.drawn+1}:=⟨⟨rfl,rfl,rfl,nJ _,λ_ _=>rfl⟩,λ_=>rr _⟩
  have:=L.put M (dst:=none) (s:=.junk) (v:=undef) (by simp) (by simp[ah.lo]) (by simp[Sm])
  simpa[St.put,Act.put] using this
 have H:∀ j,j<all.length->¬cj (Array.replicate all.toArray.size false) j:=by
  intro j hj h;unfold cj at h;simp[Array.getD,hj] at h
 refine BP (P:=P) (X:=X) (w0:=w0) F (K:=Q .normal) (λa w st' β O J=>⟨.normal,st',β,trivial,O,J⟩) h β a _ _ E ⟨by simp,?_⟩ (λj hj=>⟨λh=>absurd h (H j hj),λh=>by omega⟩) _ ?_
 .intro j y hj T
  exact absurd T (H j (nN.1 hj).1)
 .simp[left]
end
end Go.V

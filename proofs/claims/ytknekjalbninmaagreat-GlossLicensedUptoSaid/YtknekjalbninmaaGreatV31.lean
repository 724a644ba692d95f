/- A program logic of my own over the kit: part V31. It needs no conditions. -/
import Derived.Test.YtknekjalbninmaaGreatV25
set_option linter.unusedVariables false
set_option linter.unusedSimpArgs false
set_option linter.unusedSectionVars false
namespace Go.V
variable [Dr] [Ov]
open Go.RowKit
section
variable {P:Program} {look look':Nat->Option Obj'} {ρ:Operand->Sym} {k:Sym->Prop}
theorem zey(H:∀ id o,look id=some o->look' id=some o){s:Sym}{x:D}(h:uZ look s=some x):uZ look' s=some x:=by
 cases s <;> simp only[uZ] at h ⊢ <;> try exact h
 rename_i id
 cases G:look id with
 |none=>rw[G] at h;cases h
 |some o=>rw[G] at h;rw[H id o G];exact h
theorem MZ(H:∀ id o,look id=some o->look' id=some o):∀ {l:List Sym} {ds:List D},cellsD look l=some ds->cellsD look' l=some ds
 | [],ds,h=>h
 |s::r,ds,h=>by
  simp only[cellsD] at h ⊢;split at h
  .rename_i x xs G h2;rw[zey H G,MZ H h2];exact h
  .cases h
mutual
theorem zgx(H:∀ id o,look id=some o->look' id=some o):∀ {s:Sym} {r:D×Bool},lend look s=some r->lend look' s=some r
 |.d x,r,h=>by simpa[lend] using h
 |.nils,r,h=>by simpa[lend] using h
 |.bp id off,r,h=>by
  simp only[lend] at h ⊢;split at h
  .rename_i T cells ho
   rw[H id _ ho];simp only;split at h
   .rename_i ds hd;rw[MZ H hd];exact h
   .cases h
  .cases h
 |.ar id,r,h=>by
  simp only[lend] at h ⊢;split at h
  .rename_i T sz rows ho;rw[H id _ ho];exact h
  .cases h
 |.mp id,r,h=>by
  simp only[lend] at h ⊢;split at h
  .rename_i T rows ho;rw[H id _ ho];exact h
  .cases h
 |.agg l,r,h=>by
  simp only[lend] at h ⊢;split at h
  .rename_i ds b hd;rw[K4 H hd];exact h
  .cases h
 |.fn f l,r,h=>by
  simp only[lend] at h ⊢;split at h
  .rename_i ds b hd;rw[K4 H hd];exact h
  .cases h
 |.tup l,r,h=>by simp[lend] at h
 |.ap _ _ _ _,r,h=>by simp[lend] at h
 |.aS _ _ _ _,r,h=>by simp[lend] at h
 |.av _ _ _ _,r,h=>by simp[lend] at h
 |.yd _,r,h=>by simp[lend] at h
 |.junk,r,h=>by simp[lend] at h
theorem K4(H:∀ id o,look id=some o->look' id=some o):∀ {l:List Sym} {r:List D×Bool},vj look l=some r->vj look' l=some r
 | [],r,h=>by simpa[vj] using h
 |s::t,r,h=>by
  simp only[vj] at h ⊢;split at h
  .rename_i d b ds c G h2;rw[zgx H G,K4 H h2];exact h
  .cases h
end
theorem zce(H:∀ id o,look id=some o->look' id=some o){s:Sym}{rows:List (List D)}(h:Y9 look s=some rows):Y9 look' s=some rows:=by
 unfold Y9 at h ⊢
 split at h
 .rename_i id
  (try simp only)
  split at h
  .rename_i T r ho;rw[H id _ ho];exact h
  .cases h
 .exact h
 .cases h
theorem zez(H:∀ id o,look id=some o->look' id=some o){ti:TI}{s:Sym}(h:kS look ti s k):kS look' ti s k:=by
 cases s <;> simp only[kS] at h ⊢
 case d x=>cases x <;> simp only[kS] at h ⊢ <;> exact h
 case bp id off=>
  cases G:look id with
  |none=>simp only[G] at h
  |some o=>simp only[G] at h;simp only[H id o G];exact h
 case ap id sz i off=>
  cases G:look id with
  |none=>simp only[G] at h
  |some o=>simp only[G] at h;simp only[H id o G];exact h
theorem zak(H:∀ id o,look id=some o->look' id=some o){esz:Nat}{s s':Sym}(h:ga look esz s s' k):ga look' esz s s' k:=by
 unfold ga at h ⊢
 split at h
 .exact h
 .rename_i id kd n
  cases G:look id with
  |none=>simp only[G] at h
  |some o=>simp only[G] at h;simp only[H id o G];exact h
 .exact h.elim
theorem zgy(H:∀ id o,look id=some o->look' id=some o){kd:TK}{s:Sym}(h:slen look kd s k):slen look' kd s k:=by
 unfold slen at h ⊢
 split at h
 .exact h
 .exact h
 .exact h
 .rename_i e id
  cases G:look id with
  |none=>simp only[G] at h
  |some o=>simp only[G] at h;simp only[H id o G];exact h
 .exact h
 .exact h
 .exact h.elim
theorem zdl(H:∀ id o,look id=some o->look' id=some o){kd:TK}{s:Sym}{lo hi:Option Sym}(h:gb P look kd s lo hi k):gb P look' kd s lo hi k:=by
 unfold gb at h ⊢
 split at h
 .exact h
 .rename_i e id
  cases G:look id with
  |none=>simp only[G] at h
  |some o=>simp only[G] at h;simp only[H id o G];exact h
 .rename_i e id _ _ _
  cases G:look id with
  |none=>simp only[G] at h
  |some o=>simp only[G] at h;simp only[H id o G];exact h
 .exact h
 .exact h.elim
theorem zcf(H:∀ id o,look id=some o->look' id=some o){kd:TK}{s a b c:Sym}(h:gd P look kd s a b c k):gd P look' kd s a b c k:=by
 unfold gd at h ⊢
 split at h
 .rename_i e id _ _ _ _ _ _
  cases G:look id with
  |none=>simp only[G] at h
  |some o=>simp only[G] at h;simp only[H id o G];exact h
 .exact h.elim
theorem zcg(H:∀ id o,look id=some o->look' id=some o){kk:TK}{te:TI}{c:Bool}{m x:Sym}(h:gg look kk te c m x k):gg look' kk te c m x k:=by
 unfold gg at h ⊢
 cases G:Y9 look m with
 |none=>simp only[G] at h
 |some rows=>simp only[G] at h;simp only[zce H G];exact h
theorem ze0(G:∀ id o,look id=some o->look' id=some o){c:Sym}{args:List Sym}(h:jW P look c args k):jW P look' c args k:=by
 unfold jW at h ⊢
 cases F:xh c with
 |none=>simp only[F] at h
 |some r=>
  obtain⟨f,caps⟩:=r;simp only[F] at h ⊢;unfold Y8 at h ⊢;cases H:vj look (args++caps) with
  |none=>simp only[H] at h
  |some r=>simp only[H] at h;simp only[K4 G H];exact h
theorem zij(H:∀ id o,look id=some o->look' id=some o){op:Op}(h:kf P look ρ op k):kf P look' ρ op k:=by
 unfold kf at h ⊢
 split at h
 .exact h
 .exact h
 .exact h
 .split at h
  .rename_i ht;(try simp only[ht]);exact zez H h
  .exact h.elim
 .exact h
 .exact h
 .split at h
  .rename_i ht
   split at h
   .rename_i ht2;(try simp only[ht,ht2]);exact zak H h
   .exact h.elim
  .exact h.elim
 .exact h
 .split at h
  .rename_i ht;(try simp only[ht]);exact⟨h.1,zdl H h.2⟩
  .exact h.elim
 .split at h
  .rename_i ht;(try simp only[ht]);exact zcf H h
  .exact h.elim
 .exact h
 .exact h
 .exact h
 .exact h
 .split at h
  .rename_i ht
   split at h
   .rename_i G h2;(try simp only[ht,G,h2]);exact⟨h.1,zcg H h.2⟩
   .exact h.elim
  .exact h.elim
 .exact h
 .split at h
  .rename_i F E
   split at h
   .rename_i ht;(try simp only[F,E,ht]);exact zgy H h
   .exact h.elim
  .exact h.elim
 .exact h
 .exact h
 .exact ze0 H h
 .exact h.elim
theorem zgz(H:∀ id o,look id=some o->look' id=some o){op:Op}(h:vm P look ρ op k):vm P look' ρ op k:=by
 unfold vm at h ⊢
 split at h
 .exact h
 .exact h
 .exact h
 .exact zij H h
end
mutual
theorem N1{m id:Nat}(hid:m<=id):∀ {s:Sym},Sym.lo m s->zA id s=s
 |.bp i o,h=>by simp only[Sym.lo] at h;simp only[zA];rw[if_neg (by omega)]
 |.ar i,h=>by simp only[Sym.lo] at h;simp only[zA];rw[if_neg (by omega)]
 |.ap i _ _ _,h=>by simp only[Sym.lo] at h;simp only[zA];rw[if_neg (by omega)]
 |.aS i _ _ _,h=>by simp only[Sym.lo] at h;simp only[zA];rw[if_neg (by omega)]
 |.av i _ _ _,h=>by simp only[Sym.lo] at h;simp only[zA];rw[if_neg (by omega)]
 |.yd i,h=>by simp only[Sym.lo] at h;simp only[zA];rw[if_neg (by omega)]
 |.mp i,h=>by simp only[Sym.lo] at h;simp only[zA];rw[if_neg (by omega)]
 |.tup l,h=>by simp only[Sym.lo] at h;simp only[zA];rw[XU hid h]
 |.agg l,h=>by simp only[Sym.lo] at h;simp only[zA];rw[XU hid h]
 |.fn f l,h=>by simp only[Sym.lo] at h;simp only[zA];rw[XU hid h]
 |.d _,_=>by simp only[zA]
 |.nils,_=>by simp only[zA]
 |.junk,_=>by simp only[zA]
theorem XU{m id:Nat}(hid:m<=id):∀ {l:List Sym},Sym.los m l->yD id l=l
 | [],_=>by simp only[yD]
 |s::r,h=>by simp only[Sym.los] at h;simp only[yD];rw[N1 hid h.1,XU hid h.2]
end
theorem zay{m id:Nat}(hid:m<=id){o:Obj'}(h:o.lo m):qa id o=o:=by
 cases o with
 |box T cells=>simp only[Obj'.lo] at h;simp only[qa];rw[XU hid h]
 |arr T sz rows=>rfl
 |map T rows=>rfl
 |raw k cells=>simp only[Obj'.lo] at h;simp only[qa];rw[XU hid h]
theorem Zt{id:Nat}{ob:Obj'}:∀ (l:List (Nat×Obj')) (i:Nat),zc (xI id ob l) i=(zc l i).map (λo=>if i=id then ob else qa id o)
 | [],i=>rfl
 |(k,o)::r,i=>by
  simp only[xI];by_cases H:k=i
  .subst H
   by_cases e:k=id
   .subst e;simp[zc]
   .simp[zc,e]
  .by_cases e:k=id
   .rw[if_pos e];simp only[zc];rw[if_neg H,if_neg H];exact Zt r i
   .rw[if_neg e];simp only[zc];rw[if_neg H,if_neg H];exact Zt r i
theorem gp{α:Type}{id:Nat}{v:α}:∀ (l:List (Nat×α)) (i:Nat),zc (zV id v l) i=if i=id then some v else zc l i
 | [],i=>by
  simp only[zV,zc];by_cases e:id=i
  .subst e;simp
  .rw[if_neg e,if_neg (λh=>e h.symm)]
 |(k,u)::r,i=>by
  simp only[zV];by_cases e:k=id
  .rw[if_pos e];simp only[zc]
   by_cases h:k=i
   .subst h;subst e;simp
   .rw[if_neg h,if_neg h,if_neg (λe'=>h (by omega))]
  .rw[if_neg e];simp only[zc]
   by_cases h:k=i
   .rw[if_pos h,if_pos h,if_neg (by omega)]
   .rw[if_neg h,if_neg h];exact gp r i
theorem Yk(id:Nat):∀ (l:List (Nat×Sym)) (t:Nat),zc (x8 id l) t=(zc l t).map (zA id)
 | [],t=>rfl
 |(k,v)::r,t=>by simp only[x8,zc];split;rfl;exact Yk id r t
end Go.V
namespace Go.V
variable [Dr] [Ov]
open Go.RowKit
inductive FK where
 |val (s:Sym)
 |mk (ob:Obj')
 |app (j:Nat) (src:Option Nat) (ob:Obj')
 |qA (j:Nat) (ob:Obj')
 |bst (id:Nat) (ob:Obj')
def FK.sym:FK->Sym
 |.val s=>s
 |_=>.junk
def FK.made:FK->Option Obj'
 |.mk ob=>some ob
 |.app _ _ ob=>some ob
 |_=>none
def ref:Obj'->Nat->Sym
 |.box _ _,id=>.bp id 0
 |.arr _ _ _,id=>.ar id
 |.map _ _,id=>.mp id
 |.raw _ _,id=>.bp id 0
def gq(all:List Oper):Nat->Nat->Nat->Bool
 |0,_,_=>false
 |f+1,m,i=>match all[m]? with
  |some y=>bound y i ||(y.after.toList.any λe=>Region.binds .any e&&gq all f e.on i)
  |none=>false
structure Seg where
 all:List Oper
 lo:Nat
 hi:Nat
 ks:List FK
 st0:St
 own0:Nat->List (Nat×Obj')
namespace Seg
def kd(S:Seg)(i:Nat):Option FK:=if S.lo<=i/\i<S.hi then S.ks[i-S.lo]? else none
def co(S:Seg)(i t:Nat)(ob:Obj'):Prop:=∃ o k,S.all[i]?=some o/\S.kd i=some k/\o.dst=some t/\k.made=some ob
def U(S:Seg)(t:Nat):Prop:=∃ i ob,S.co i t ob
def user(S:Seg)(t m:Nat):Prop:=∃ o k,S.all[m]?=some o/\S.kd m=some k/\t∈tmpsOf S.all o
def zX(S:Seg)(i:Nat):St:=puts ((S.all.drop S.lo).take (i-S.lo)) ((S.ks.map FK.sym).take (i-S.lo)) {S.st0 with own:=S.own0 i}
def Dep(S:Seg)(i m:Nat):Prop:=∃ f,gq S.all f m i=true
def Live(S:Seg)(L:Nat->Prop)(t:Nat)(ob:Obj'):Prop:=
 (∃ i,S.co i t ob/\L i/\∀ m,S.user t m->¬L m)\/(∃ i ob0 m,S.co i t ob0/\L i/\L m/\S.user t m/\S.kd m=some (.qA t ob))
end Seg
def jH:Obj'->Prop
 |.arr _ _ _=>True
 |_=>False
def wO:Obj'->Prop
 |.box _ _=>True
 |_=>False
def Knows(S:Seg)(i:Nat)(o:Oper)(st:St):Prop:=st.n=S.st0.n/\∀ x∈o.op.operands,(S.zX i).val x≠.junk->st.val x=(S.zX i).val x
def zkp(P:Program)(S:Seg)(i:Nat)(o:Oper):FK->Prop
 |.val s=>(∀ t∈tmpsOf S.all o,¬S.U t)/\DStep P S.all o (S.zX i) s/\Sym.lo S.st0.next s
 |.mk ob=>o.guard=none/\(∃ t,o.dst=some t)/\(∀ t∈tmpsOf S.all o,¬S.U t)/\ob.lo S.st0.next /\
   ∀ (st:St) (K:St->Prop),Knows S i o st->K ((st.new ob).put o.dst (ref ob st.next))->yq P o st K
 |.app j src ob=>o.guard=none/\(∃ t,o.dst=some t)/\(∀ t∈tmpsOf S.all o,S.U t->t=j\/src=some t)/\j∈tmpsOf S.all o/\(∀ k,src=some k->k≠j/\k∈tmpsOf S.all o)/\ob.lo S.st0.next/\jH ob /\
   ∃ oj ok,(∃ c,S.co c j oj)/\jH oj/\(∀ k,src=some k->(∃ c,S.co c k ok)/\jH ok) /\
   ∀ (st:St) (K:St->Prop) (id:Nat),Knows S i o st->st.val (.tmp j) = .ar id->st.look id=some oj->(∀ k,src=some k->∃ id',id'≠id/\st.val (.tmp k) = .ar id'/\st.look id'=some ok) ->
    K ((st.renew id ob).put o.dst (.ar id))->yq P o st K
 |.qA j ob=>o.guard=none/\o.dst=none/\(∀ t∈tmpsOf S.all o,S.U t->t=j)/\j∈tmpsOf S.all o/\ob.lo S.st0.next/\wO ob/\∃ oj,(∃ c,S.co c j oj)/\wO oj /\
   ∀ (st:St) (K:St->Prop) (id:Nat),Knows S i o st->st.val (.tmp j) = .bp id 0->st.look id=some oj->K {st with own:=zV id ob st.own}->yq P o st K
 |.bst id ob=>o.guard=none/\o.dst=none/\(∀ t∈tmpsOf S.all o,¬S.U t)/\ob.lo S.st0.next/\∃ o0,zc S.st0.own id=some o0 /\
   ∀ (st:St) (K:St->Prop),Knows S i o st->st.look id=some o0->K {st with own:=zV id ob st.own}->yq P o st K
structure SegOk(P:Program)(S:Seg):Prop where
 ok:yT S.all=true
 len:S.lo<=S.hi/\S.hi<=S.all.length/\S.ks.length=S.hi-S.lo
 uniq:∀ t m m',S.U t->S.user t m->S.user t m'->m=m'
 after:∀ i t ob m,S.co i t ob->S.user t m->i<m
 bstu:∀ i j id ob ob',S.kd i=some (.bst id ob)->S.kd j=some (.bst id ob')->i=j
 own0:∀ i id o,zc (S.own0 i) id=some o->zc S.st0.own id=some o/\∀ m ob,S.kd m=some (.bst id ob)->S.Dep i m
 step:∀ i o k,S.all[i]?=some o->S.kd i=some k->yj o.dst S.st0.n=true/\zkp P S i o k
structure StLo(st:St):Prop where
 own:∀ id o,zc st.own id=some o->id<st.next/\o.lo st.next
 slots:∀ t s,zc st.slots t=some s->Sym.lo st.next s
def Hold(S:Seg)(st:St)(ν:Nat->Nat)(t:Nat)(ob:Obj'):Prop:=S.st0.next<=ν t/\ν t<st.next/\zc st.slots t=some (ref ob (ν t))/\zc st.own (ν t)=some ob
structure Desc(S:Seg)(L:Nat->Prop)(st:St)(ν:Nat->Nat):Prop where
 n:st.n=S.st0.n
 base:st.base=S.st0.base
 next:S.st0.next<=st.next
 moved:∀ id,id<S.st0.next->id∈st.moved->id∈S.st0.moved
 own:∀ id o,zc S.st0.own id=some o->(∀ i ob,S.kd i=some (.bst id ob)->¬L i)->zc st.own id=some o
 bst:∀ id i ob,S.kd i=some (.bst id ob)->L i->zc st.own id=some ob
 vals:∀ i o t s,S.all[i]?=some o->L i->S.kd i=some (.val s)->o.dst=some t->zc st.slots t=some s
 rest:∀ t s,zc S.st0.slots t=some s->(∀ i o k,S.all[i]?=some o->L i->S.kd i=some k->o.dst≠some t)->zc st.slots t=some s
 live:∀ t ob,S.Live L t ob->Hold S st ν t ob
 inj:∀ t t' ob ob',S.Live L t ob->S.Live L t' ob'->ν t=ν t'->t=t'
def lst(Lb:Array Bool)(i:Nat):Prop:=Lb.getD i true=true
theorem jl{Lb:Array Bool}{i j:Nat}(hi:i<Lb.size):lst (Lb.setIfInBounds i true) j↔j=i\/lst Lb j:=by
 unfold lst
 by_cases e:j=i
 .subst e;simp[Array.getD,hi]
 .by_cases H:j<Lb.size
  .simp[Array.getD,H,Array.getElem_setIfInBounds,Ne.symm e,e]
  .simp[Array.getD,H,e]
theorem gu{Lb:Array Bool}{i:Nat}(h:Lb.getD i false=true):lst Lb i:=by
 unfold lst
 by_cases H:i<Lb.size
 .simp[Array.getD,H] at h ⊢;exact h
 .simp[Array.getD,H] at h
theorem Seg.vW{S:Seg}{i:Nat}{k:FK}(h:S.kd i=some k):S.lo<=i/\i<S.hi:=by
 unfold Seg.kd at h
 split at h
 .assumption
 .cases h
theorem Seg.N2{S:Seg}(F:S.lo<=S.hi/\S.hi<=S.all.length/\S.ks.length=S.hi-S.lo){i t:Nat}{s:Sym}(hi:S.lo<=i/\i<=S.hi)(h:zc (S.zX i).slots t=some s):
  (∃ j o k,S.all[j]?=some o/\S.kd j=some k/\j<i/\k.sym=s/\o.dst=some t)\/((∀ j o,S.all[j]?=some o->S.lo<=j->j<i->o.dst≠some t)/\zc S.st0.slots t=some s):=by
 unfold Seg.zX at h
 have H:((S.all.drop S.lo).take (i-S.lo)).length=((S.ks.map FK.sym).take (i-S.lo)).length:=by simp;omega
 rcases K0 (st:={S.st0 with own:=S.own0 i}) (t:=t) H with⟨j,o,s',E,K,J,L⟩ | ⟨E,K⟩
 .rw[L] at h;cases h
  have hj:j<i-S.lo:=by
   rcases Nat.lt_or_ge j (i-S.lo) with h | h
   .exact h
   .rw[List.getElem?_take,if_neg (by omega)] at E;cases E
  rw[List.getElem?_take,if_pos hj,List.getElem?_drop] at E;rw[List.getElem?_take,if_pos hj,List.getElem?_map] at K;cases M:S.ks[j]? with
  |none=>rw[M] at K;cases K
  |some k=>
   rw[M] at K;simp at K;refine .inl ⟨S.lo+j,o,k,E,?_,by omega,K,J⟩
   unfold Seg.kd;rw[if_pos (by omega)]
   have:S.lo+j-S.lo=j:=by omega
   rw[this];exact M
 .rw[K] at h
  refine .inr ⟨λj o hj G hl2=>E (j-S.lo) o ?_,h⟩
  rw[List.getElem?_take,if_pos (by omega),List.getElem?_drop]
  have:S.lo+(j-S.lo)=j:=by omega
  rw[this];exact hj
theorem zkq{ob:Obj'}{id m:Nat}(h:id<m):Sym.lo m (ref ob id):=by cases ob <;> simpa[ref,Sym.lo] using h
theorem zg0{ob:Obj'}{id i:Nat}(h:i≠id):zA id (ref ob i)=ref ob i:=by cases ob <;> simp[ref,zA,h]
section
variable {P:Program} {X:Nat->Prop} {w0:Base} {st:St} {β:Nat->Value} {a:Act} {w w':World} {S:Seg} {ν:Nat->Nat} {Lb:Array Bool} {i:Nat} {o:Oper} {k:FK}
structure Here(P:Program)(S:Seg)(Lb:Array Bool)(i:Nat)(o:Oper)(k:FK):Prop where
 sok:SegOk P S
 slo:StLo S.st0
 size:Lb.size=S.all.length
 down:∀ j y,S.all[j]?=some y->lst Lb j->∀ e∈y.after.toList,Region.binds .any e=true->Lb.getD e.on false=true
 at_:S.all[i]?=some o
 kind:S.kd i=some k
 not_:¬lst Lb i
 ready:∀ e∈o.after.toList,Region.binds .any e=true->Lb.getD e.on false=true
theorem Here.lt(h:Here P S Lb i o k):i<Lb.size:=by rw[h.size];exact(List.getElem?_eq_some_iff.1 h.at_).1
theorem Here.before(h:Here P S Lb i o k){j t:Nat}{y:Oper}(hj:S.all[j]?=some y)(H:j<i)(F:y.dst=some t)(E:t∈tmpsOf S.all o):lst Lb j:=by
 obtain⟨e,K,J,G⟩:=Zr (((ki h.sok.ok hj h.at_ H).1 t F).1 E)
 have:=h.ready e K J
 rw[G] at this;exact gu this
theorem Here.later(h:Here P S Lb i o k){j t:Nat}{y:Oper}(hj:S.all[j]?=some y)(H:i<j)(F:y.dst=some t)(E:t∈tmpsOf S.all o):¬lst Lb j:=by
 intro K
 obtain⟨e,J,L,G⟩:=Zr ((ki h.sok.ok h.at_ hj H).2 t F E)
 have:=h.down j y hj K e J L
 rw[G] at this;exact h.not_ (gu this)
theorem Here.readers(h:Here P S Lb i o k){t m:Nat}{ob:Obj'}(F:S.co i t ob)(E:S.user t m):¬lst Lb m:=by
 intro K
 have H:=h.sok.after i t ob m F E
 obtain⟨o',k',J,L,M,O⟩:=F
 rw[h.at_] at J;cases J
 obtain⟨y,k2,Q,_,T⟩:=E
 obtain⟨e,V,X,G⟩:=Zr (((ki h.sok.ok h.at_ Q H).1 t M).1 T)
 have:=h.down m y Q K e V X
 rw[G] at this;exact h.not_ (gu this)
theorem Here.Yl(h:Here P S Lb i o k){j t:Nat}{y:Oper}(hj:S.all[j]?=some y)(H:j≠i)(G:o.dst=some t):y.dst≠some t:=by
 rcases Nat.lt_or_gt_of_ne H with F | F
 .exact λe=>((ki h.sok.ok hj h.at_ F).1 t e).2 G
 .exact((ki h.sok.ok h.at_ hj F).1 t G).2
theorem Here.Ym(h:Here P S Lb i o k)(H:Desc S (lst Lb) st ν){t:Nat}(G:t∈tmpsOf S.all o){s:Sym}(hs:zc (S.zX i).slots t=some s)(hj:s≠.junk):zc st.slots t=some s:=by
 rcases S.N2 h.sok.len ⟨(S.vW h.kind).1,Nat.le_of_lt (S.vW h.kind).2⟩ hs with⟨j,y,k',F,E,K,J,L⟩ | ⟨F,E⟩
 .cases k' <;> simp only[FK.sym] at J <;> first | exact absurd J.symm hj | skip
  subst J;exact H.vals j y t _ F (h.before F K L G) E L
 .refine H.rest t s E λj y k' hj M O Q=>?_
  rcases Nat.lt_trichotomy j i with T | T | T
  .exact F j y hj (S.vW O).1 T Q
  .subst T;exact h.not_ M
  .exact h.later hj T Q G M
theorem Here.knows(h:Here P S Lb i o k)(G:Desc S (lst Lb) st ν):Knows S i o st:=by
 refine⟨G.n,λx F H=>?_⟩
 cases x with
 |tmp t=>
  simp only[St.val] at H ⊢;cases hs:zc (S.zX i).slots t with
  |none=>rw[hs] at H;simp at H
  |some s=>rw[hs] at H;simp at H;rw[h.Ym G (XQ F) hs H]
 |_=>rfl
theorem Here.VD(h:Here P S Lb i o k){t:Nat}{ob:Obj'}(J:S.Live (lst (Lb.setIfInBounds i true)) t ob):
  S.co i t ob\/(S.Live (lst Lb) t ob/\¬S.user t i/\∀ ob',¬S.co i t ob')\/(S.user t i/\S.kd i=some (.qA t ob)/\∃ ob0,S.Live (lst Lb) t ob0):=by
 have hs:=λj=>jl (Lb:=Lb) (i:=i) (j:=j) h.lt
 rcases J with⟨c,L,M,O⟩ | ⟨c,ob0,m,L,M,O,Q,T⟩
 .rcases(hs c).1 M with rfl | G
  .exact .inl L
  .by_cases F:∃ ob',S.co i t ob'
   .obtain⟨ob',K⟩:=F
    exfalso
    obtain⟨y,k1,e1,e2,e3,e4⟩:=L;obtain⟨y',k2,g1,g2,g3,g4⟩:=K;rw[h.at_] at g1;cases g1;by_cases E:c=i
    .exact h.not_ (E▸G)
    .exact h.Yl e1 E g3 e3
   .exact .inr (.inl ⟨.inl ⟨c,L,G,λm V J=>O m V ((hs m).2 (.inr J))⟩,λV=>O i V ((hs i).2 (.inl rfl)),λob' X=>F ⟨ob',X⟩⟩)
 .rcases(hs m).1 O with rfl | O
  .refine .inr (.inr ⟨Q,T,?_⟩)
   have H:lst Lb c:=by
    rcases(hs c).1 M with e | M
    .exact absurd (h.sok.after c t ob0 _ L Q) (by omega)
    .exact M
   exact⟨ob0,.inl ⟨c,L,H,λm' V J=>h.not_ (by rw[h.sok.uniq t _ _ ⟨c,ob0,L⟩ Q V];exact J)⟩⟩
  .have H:lst Lb c:=by
    rcases(hs c).1 M with e | M
    .exact absurd O (h.readers (by rw[<-e];exact L) Q)
    .exact M
   refine .inr (.inl ⟨.inr ⟨c,ob0,m,L,H,O,Q,T⟩,λV=>h.not_ (by rw[h.sok.uniq t _ _ ⟨c,ob0,L⟩ V Q];exact O),λob' X=>?_⟩)
   exact absurd O (h.readers X Q)
end
end Go.V
namespace Go.V
variable [Dr] [Ov]
open Go.RowKit
section
variable {P:Program} {X:Nat->Prop} {w0:Base} {st:St} {β:Nat->Value} {a:Act} {w w':World} {S:Seg} {ν:Nat->Nat} {Lb:Array Bool} {i:Nat} {o:Oper} {k:FK}
theorem kZ(st:St)(dst:Option Nat)(s:Sym)(u:Nat):zc (st.put dst s).slots u=if dst=some u then some s else zc st.slots u:=by
 cases dst with
 |none=>simp[St.put]
 |some t=>simp only[St.put,zc,Option.some.injEq]
theorem K5(st:St)(dst:Option Nat)(s:Sym):(st.put dst s).own=st.own/\(st.put dst s).next=st.next/\(st.put dst s).n=st.n/\(st.put dst s).base=st.base/\(st.put dst s).moved=st.moved:=by cases dst <;> exact⟨rfl,rfl,rfl,rfl,rfl⟩
theorem Seg.Live.co{L:Nat->Prop}{t:Nat}{ob:Obj'}(h:S.Live L t ob):∃ c ob0,S.co c t ob0/\L c:=by
 rcases h with⟨c,H,G,_⟩ | ⟨c,ob0,m,H,G,_⟩
 .exact⟨c,ob,H,G⟩
 .exact⟨c,ob0,H,G⟩
theorem Here.u0(h:Here P S Lb i o k){t:Nat}{ob:Obj'}(G:S.Live (lst Lb) t ob):o.dst≠some t:=by
 obtain⟨c,ob0,⟨y,k',F,E,K,J⟩,L⟩:=G.co
 intro M
 by_cases H:c=i
 .subst H;exact h.not_ L
 .exact h.Yl F H M K
theorem Seg.Live.lo(H:SegOk P S){L:Nat->Prop}{t:Nat}{ob:Obj'}(h:S.Live L t ob):ob.lo S.st0.next:=by
 rcases h with⟨c,⟨y,k',G,F,E,K⟩,_⟩ | ⟨c,ob0,m,_,_,_,⟨y,k',G,F,E⟩,K⟩
 .have:=(H.step c y k' G F).2
  cases k' <;> simp only[FK.made] at K <;> cases K
  .exact this.2.2.2.1
  .exact this.2.2.2.2.2.1
 .rw[K] at F;cases F
  exact(H.step m y _ G K).2.2.2.2.2.1
theorem Here.VE(h:Here P S Lb i o k){t:Nat}{ob:Obj'}(H:S.co i t ob):o.dst=some t/\k.made=some ob:=by
 obtain⟨y,k',G,F,E,K⟩:=H
 rw[h.at_] at G;cases G
 rw[h.kind] at F;cases F
 exact⟨E,K⟩
theorem Here.K6(h:Here P S Lb i o k){t:Nat}(H:t∈tmpsOf S.all o):S.user t i:=⟨o,k,h.at_,h.kind,H⟩
theorem Here.holds(h:Here P S Lb i o k){j:Nat}{oj:Obj'}(hj:j∈tmpsOf S.all o)(G:∃ c,S.co c j oj):S.Live (lst Lb) j oj:=by
 obtain⟨c,G⟩:=G
 refine .inl ⟨c,G,?_,λm F E=>h.not_ (by rw[h.sok.uniq j _ _ ⟨c,oj,G⟩ (h.K6 hj) F];exact E)⟩
 have H:=h.sok.after c j oj i G (h.K6 hj)
 obtain⟨y,k',K,J,L,M⟩:=G
 exact h.before K H L hj
theorem Desc.val{s:Sym}(h:Here P S Lb i o (.val s))(K:Desc S (lst Lb) st ν)(J:∀ t∈tmpsOf S.all o,¬S.U t):Desc S (lst (Lb.setIfInBounds i true)) (st.put o.dst s) ν:=by
 have hs:=λj=>jl (Lb:=Lb) (i:=i) (j:=j) h.lt
 obtain⟨e1,e2,e3,e4,e5⟩:=K5 st o.dst s
 have H:∀ t ob,S.Live (lst (Lb.setIfInBounds i true)) t ob->S.Live (lst Lb) t ob:=by
  intro t ob L;rcases h.VD L with M | ⟨L,_⟩ | ⟨_,O,_⟩
  .have:=(h.VE M).2;simp[FK.made] at this
  .exact L
  .rw[h.kind] at O;cases O
 refine⟨e3.trans K.n,e4.trans K.base,by rw[e2];exact K.next,by rw[e5];exact K.moved,?_,?_,?_,?_,?_,?_⟩
 .intro id o' Q T;rw[e1];exact K.own id o' Q λj ob O L=>T j ob O ((hs j).2 (.inr L))
 .intro id j ob O L
  rw[e1];rcases(hs j).1 L with rfl | G
  .rw[h.kind] at O;cases O
  .exact K.bst id j ob O G
 .intro j y t s' hj L O V
  rw[kZ];rcases(hs j).1 L with rfl | G
  .rw[h.at_] at hj;cases hj;rw[h.kind] at O;cases O
   rw[if_pos V]
  .rw[if_neg]
   .exact K.vals j y t s' hj G O V
   .intro E
    exact h.Yl hj (λe=>h.not_ (e▸G)) E V
 .intro t s' Q T
  rw[kZ,if_neg (λV=>T i o _ h.at_ ((hs i).2 (.inl rfl)) h.kind V)]
  exact K.rest t s' Q λj y k' hj L O=>T j y k' hj ((hs j).2 (.inr L)) O
 .intro t ob L
  have F:=H t ob L;obtain⟨q1,q2,q3,q4⟩:=K.live t ob F;exact⟨q1,by rw[e2];exact q2,by rw[kZ,if_neg (h.u0 F)];exact q3,by rw[e1];exact q4⟩
 .exact λt t' ob ob' Q T=>K.inj t t' ob ob' (H t ob Q) (H t' ob' T)
theorem Desc.mk'{ob:Obj'}(h:Here P S Lb i o (.mk ob))(O:Desc S (lst Lb) st ν):Desc S (lst (Lb.setIfInBounds i true)) ((st.new ob).put o.dst (ref ob st.next)) (λu=>if o.dst=some u then st.next else ν u):=by
 have hs:=λj=>jl (Lb:=Lb) (i:=i) (j:=j) h.lt
 obtain⟨e1,e2,e3,e4,e5⟩:=K5 (st.new ob) o.dst (ref ob st.next)
 have H:∀ t ob',S.Live (lst (Lb.setIfInBounds i true)) t ob'->(o.dst=some t/\ob'=ob)\/S.Live (lst Lb) t ob':=by
  intro t ob' Q;rcases h.VD Q with T | ⟨Q,_⟩ | ⟨_,V,_⟩
  .have:=h.VE T;simp[FK.made] at this;exact .inl ⟨this.1,this.2.symm⟩
  .exact .inr Q
  .rw[h.kind] at V;cases V
 have F:∀ id o',id≠st.next->zc st.own id=some o'->zc ((st.new ob).put o.dst (ref ob st.next)).own id=some o':=by
  intro id o' L X;rw[e1];simp only[St.new,zc];rw[if_neg (Ne.symm L)];exact X
 refine⟨e3.trans O.n,e4.trans O.base,by rw[e2];exact Nat.le_succ_of_le O.next,by rw[e5];exact O.moved,?_,?_,?_,?_,?_,?_⟩
 .intro id o' Y Z
  exact F id o' (by have:=(h.slo.own id o' Y).1;have:=O.next;omega) (O.own id o' Y λj ob V Q=>Z j ob V ((hs j).2 (.inr Q)))
 .intro id j ob' V Q
  rcases(hs j).1 Q with rfl | J
  .rw[h.kind] at V;cases V
  .have A:=(S.vW V)
   obtain⟨y,B⟩:∃ y,S.all[j]?=some y:=⟨_,List.getElem?_eq_getElem (by have:=h.sok.len;omega)⟩
   obtain⟨o0,M,_⟩:=((h.sok.step j y _ B V).2).2.2.2.2;exact F id ob' (by have:=(h.slo.own id o0 M).1;have:=O.next;omega) (O.bst id j ob' V J)
 .intro j y t s' hj Q V C
  rw[kZ];rcases(hs j).1 Q with rfl | J
  .rw[h.kind] at V;cases V
  .rw[if_neg]
   .exact O.vals j y t s' hj J V C
   .intro K
    exact h.Yl hj (λe=>h.not_ (e▸J)) K C
 .intro t s' Y Z
  rw[kZ,if_neg (λC=>Z i o _ h.at_ ((hs i).2 (.inl rfl)) h.kind C)]
  exact O.rest t s' Y λj y k' hj Q V=>Z j y k' hj ((hs j).2 (.inr Q)) V
 .intro t ob' Q
  rcases H t ob' Q with⟨C,rfl⟩ | E
  .refine⟨by simp only[if_pos C];exact O.next,by simp only[if_pos C];rw[e2];exact Nat.lt_succ_self _,?_,?_⟩
   .rw[kZ,if_pos C];simp only[if_pos C]
   .simp only[if_pos C];rw[e1];simp[St.new,zc]
  .have G:=h.u0 E
   obtain⟨q1,q2,q3,q4⟩:=O.live t ob' E;refine⟨by simp only[if_neg G];exact q1,by simp only[if_neg G];rw[e2];exact Nat.lt_succ_of_lt q2,?_,?_⟩
   .rw[kZ,if_neg G];simp only[if_neg G];exact q3
   .simp only[if_neg G];exact F _ _ (by omega) q4
 .intro t t' o1 o2 Y Z he
  rcases H t o1 Y with⟨C,rfl⟩ | Q <;> rcases H t' o2 Z with⟨K,rfl⟩ | E
  .rw[C] at K;cases K;rfl
  .have G:=h.u0 E
   simp only[if_pos C,if_neg G] at he;have:=(O.live t' o2 E).2.1;omega
  .have G:=h.u0 Q
   simp only[if_pos K,if_neg G] at he;have:=(O.live t o1 Q).2.1;omega
  .simp only[if_neg (h.u0 Q),if_neg (h.u0 E)] at he
   exact O.inj t t' o1 o2 Q E he
theorem Desc.app{j:Nat}{src:Option Nat}{ob oj:Obj'}(h:Here P S Lb i o (.app j src ob))(A:Desc S (lst Lb) st ν)(hj:j∈tmpsOf S.all o)(B:∃ c,S.co c j oj)(Y:jH ob):
  Desc S (lst (Lb.setIfInBounds i true)) ((st.renew (ν j) ob).put o.dst (.ar (ν j))) (λu=>if o.dst=some u then ν j else ν u):=by
 have hs:=λj=>jl (Lb:=Lb) (i:=i) (j:=j) h.lt
 have O:=h.holds hj B
 obtain⟨p1,p2,p3,p4⟩:=A.live j oj O
 obtain⟨e1,e2,e3,e4,e5⟩:=K5 (st.renew (ν j) ob) o.dst (.ar (ν j))
 have H:∀ t ob',S.Live (lst (Lb.setIfInBounds i true)) t ob'->(o.dst=some t/\ob'=ob)\/(S.Live (lst Lb) t ob'/\t≠j):=by
  intro t ob' C;rcases h.VD C with B | ⟨C,I,_⟩ | ⟨_,N,_⟩
  .have:=h.VE B;simp[FK.made] at this;exact .inl ⟨this.1,this.2.symm⟩
  .exact .inr ⟨C,λe=>I (e▸h.K6 hj)⟩
  .rw[h.kind] at N;cases N
 have E:∀ id o',id≠ν j->o'.lo S.st0.next->zc st.own id=some o'->zc ((st.renew (ν j) ob).put o.dst (.ar (ν j))).own id=some o':=by
  intro id o' J K W;rw[e1];simp only[St.renew];rw[Zt,W];simp only[Option.map_some];rw[if_neg J,zay p1 K]
 have F:∀ t s,o.dst≠some t->Sym.lo S.st0.next s->zc st.slots t=some s->zc ((st.renew (ν j) ob).put o.dst (.ar (ν j))).slots t=some s:=by
  intro t s hd K hs;rw[kZ,if_neg hd];simp only[St.renew];rw[Yk,hs];simp only[Option.map_some];rw[N1 p1 K]
 refine⟨e3.trans A.n,e4.trans A.base,by rw[e2];exact A.next,?_,?_,?_,?_,?_,?_,?_⟩
 .intro id hid hm
  rw[e5] at hm;simp only[St.renew] at hm;rcases List.mem_cons.1 hm with e | hm
  .omega
  .exact A.moved id hid hm
 .intro id o' h1 h2
  have K:=h.slo.own id o' h1;exact E id o' (by omega) K.2 (A.own id o' h1 λj ob N C=>h2 j ob N ((hs j).2 (.inr C)))
 .intro id j' ob' N C
  rcases(hs j').1 C with rfl | Q
  .rw[h.kind] at N;cases N
  .have hb:=(S.vW N)
   obtain⟨y,hy⟩:∃ y,S.all[j']?=some y:=⟨_,List.getElem?_eq_getElem (by have:=h.sok.len;omega)⟩
   obtain⟨_,_,_,T,o0,Z,_⟩:=(h.sok.step j' y _ hy N).2;exact E id ob' (by have:=(h.slo.own id o0 Z).1;omega) T (A.bst id j' ob' N Q)
 .intro j' y t s' V C N hd
  rcases(hs j').1 C with rfl | Q
  .rw[h.kind] at N;cases N
  .have K:=((h.sok.step j' y _ V N).2).2.2
   exact F t s' (λL=>h.Yl V (λe=>h.not_ (e▸Q)) L hd) K (A.vals j' y t s' V Q N hd)
 .intro t s' h1 h2
  exact F t s' (λhd=>h2 i o _ h.at_ ((hs i).2 (.inl rfl)) h.kind hd) (h.slo.slots t s' h1) (A.rest t s' h1 λj y k' hj C N=>h2 j y k' hj ((hs j).2 (.inr C)) N)
 .intro t ob' C
  rcases H t ob' C with⟨hd,rfl⟩ | ⟨G,J⟩
  .refine⟨by simp only[if_pos hd];exact p1,by simp only[if_pos hd];rw[e2];exact p2,?_,?_⟩
   .rw[kZ,if_pos hd];simp only[if_pos hd]
    cases ob' <;> simp only[jH] at Y <;> rfl
   .simp only[if_pos hd];rw[e1];simp only[St.renew];rw[Zt,p4];simp
  .have M:=h.u0 G
   obtain⟨q1,q2,q3,q4⟩:=A.live t ob' G;have hνne:ν t≠ν j:=λe=>J (A.inj t j ob' oj G O e)
   refine⟨by simp only[if_neg M];exact q1,by simp only[if_neg M];rw[e2];exact q2,?_,?_⟩
   .rw[kZ,if_neg M];simp only[if_neg M,St.renew];rw[Yk,q3];simp only[Option.map_some];rw[zg0 hνne]
   .simp only[if_neg M];exact E _ _ hνne (G.lo h.sok) q4
 .intro t t' o1 o2 h1 h2 he
  rcases H t o1 h1 with⟨hd,rfl⟩ | ⟨C,J⟩ <;> rcases H t' o2 h2 with⟨L,rfl⟩ | ⟨G,X⟩
  .rw[hd] at L;cases L;rfl
  .simp only[if_pos hd,if_neg (h.u0 G)] at he
   exact absurd (A.inj t' j o2 oj G O he.symm) X
  .simp only[if_pos L,if_neg (h.u0 C)] at he
   exact absurd (A.inj t j o1 oj C O he) J
  .simp only[if_neg (h.u0 C),if_neg (h.u0 G)] at he
   exact A.inj t t' o1 o2 C G he
theorem Desc.qA{j:Nat}{ob oj:Obj'}(h:Here P S Lb i o (.qA j ob))(X:Desc S (lst Lb) st ν)(T:o.dst=none)(hj:j∈tmpsOf S.all o)(Y:∃ c,S.co c j oj)(Z:wO ob)(L:wO oj):
  Desc S (lst (Lb.setIfInBounds i true)) {st with own:=zV (ν j) ob st.own} ν:=by
 have hs:=λj=>jl (Lb:=Lb) (i:=i) (j:=j) h.lt
 have F:=h.holds hj Y
 obtain⟨p1,p2,p3,p4⟩:=X.live j oj F
 have H:∀ t ob',S.Live (lst (Lb.setIfInBounds i true)) t ob'->(t=j/\ob'=ob)\/(S.Live (lst Lb) t ob'/\t≠j):=by
  intro t ob' A;rcases h.VD A with Y | ⟨A,B,_⟩ | ⟨_,C,_⟩
  .have:=h.VE Y;simp[FK.made] at this
  .exact .inr ⟨A,λe=>B (e▸h.K6 hj)⟩
  .rw[h.kind] at C;cases C;exact .inl ⟨rfl,rfl⟩
 have G:∀ id o',id≠ν j->zc st.own id=some o'->zc (zV (ν j) ob st.own) id=some o':=by
  intro id o' E I;rw[gp,if_neg E];exact I
 refine⟨X.n,X.base,X.next,X.moved,?_,?_,?_,?_,?_,?_⟩
 .intro id o' N W
  have V:=h.slo.own id o' N;exact G id o' (by omega) (X.own id o' N λj ob C A=>W j ob C ((hs j).2 (.inr A)))
 .intro id j' ob' C A
  rcases(hs j').1 A with rfl | K
  .rw[h.kind] at C;cases C
  .have Z:=(S.vW C)
   obtain⟨y,hy⟩:∃ y,S.all[j']?=some y:=⟨_,List.getElem?_eq_getElem (by have:=h.sok.len;omega)⟩
   obtain⟨_,_,_,M,o0,O,_⟩:=(h.sok.step j' y _ hy C).2;exact G id ob' (by have:=(h.slo.own id o0 O).1;omega) (X.bst id j' ob' C K)
 .intro j' y t s' Q A C hd
  rcases(hs j').1 A with rfl | K
  .rw[h.kind] at C;cases C
  .exact X.vals j' y t s' Q K C hd
 .intro t s' N W
  exact X.rest t s' N λj y k' hj A C=>W j y k' hj ((hs j).2 (.inr A)) C
 .intro t ob' A
  rcases H t ob' A with⟨rfl,rfl⟩ | ⟨J,E⟩
  .refine⟨p1,p2,?_,by show zc (zV _ _ _) _=_;rw[gp,if_pos rfl]⟩
   show zc st.slots _=_
   rw[p3];cases oj <;> simp only[wO] at L
   cases ob' <;> simp only[wO] at Z
   rfl
  .obtain⟨q1,q2,q3,q4⟩:=X.live t ob' J
   have hνne:ν t≠ν j:=λe=>E (X.inj t j ob' oj J F e)
   exact⟨q1,q2,q3,G _ _ hνne q4⟩
 .intro t t' o1 o2 N W he
  have e1:∃ o,S.Live (lst Lb) t o:=by
   rcases H t o1 N with⟨rfl,_⟩ | ⟨A,_⟩
   .exact⟨oj,F⟩
   .exact⟨o1,A⟩
  have e2:∃ o,S.Live (lst Lb) t' o:=by
   rcases H t' o2 W with⟨rfl,_⟩ | ⟨A,_⟩
   .exact⟨oj,F⟩
   .exact⟨o2,A⟩
  obtain⟨_,e1⟩:=e1;obtain⟨_,e2⟩:=e2;exact X.inj t t' _ _ e1 e2 he
theorem Desc.bst'{id:Nat}{ob o0:Obj'}(h:Here P S Lb i o (.bst id ob))(J:Desc S (lst Lb) st ν)(K:o.dst=none)(F:zc S.st0.own id=some o0):
  Desc S (lst (Lb.setIfInBounds i true)) {st with own:=zV id ob st.own} ν:=by
 have hs:=λj=>jl (Lb:=Lb) (i:=i) (j:=j) h.lt
 have hid:=(h.slo.own id o0 F).1
 have H:∀ t ob',S.Live (lst (Lb.setIfInBounds i true)) t ob'->S.Live (lst Lb) t ob':=by
  intro t ob' L;rcases h.VD L with M | ⟨L,O,_⟩ | ⟨_,Q,_⟩
  .have:=h.VE M;simp[FK.made] at this
  .exact L
  .rw[h.kind] at Q;cases Q
 refine⟨J.n,J.base,J.next,J.moved,?_,?_,?_,?_,?_,?_⟩
 .intro id' o' T V
  show zc (zV id ob st.own) id'=some o'
  rw[gp,if_neg (λe=>V i ob (by rw[e];exact h.kind) ((hs i).2 (.inl rfl)))]
  exact J.own id' o' T λj ob Q L=>V j ob Q ((hs j).2 (.inr L))
 .intro id' j' ob' Q L
  show zc (zV id ob st.own) id'=some ob'
  rcases(hs j').1 L with rfl | G
  .rw[h.kind] at Q;cases Q;rw[gp,if_pos rfl]
  .rw[gp,if_neg (λe=>by subst e;exact h.not_ (by rw[h.sok.bstu i j' _ ob ob' h.kind Q];exact G))]
   exact J.bst id' j' ob' Q G
 .intro j' y t s' E L Q hd
  rcases(hs j').1 L with rfl | G
  .rw[h.kind] at Q;cases Q
  .exact J.vals j' y t s' E G Q hd
 .intro t s' T V
  exact J.rest t s' T λj y k' hj L Q=>V j y k' hj ((hs j).2 (.inr L)) Q
 .intro t ob' L
  obtain⟨q1,q2,q3,q4⟩:=J.live t ob' (H t ob' L);exact⟨q1,q2,q3,by show zc (zV id ob st.own) _=_;rw[gp,if_neg (by omega)];exact q4⟩
 .exact λt t' o1 o2 T V he=>J.inj t t' o1 o2 (H t o1 T) (H t' o2 V) he
theorem N3(G:Mods X w0 st β a w){t:Nat}{b:Bool}(h:zc st.slots t=some (.d (.bool b))):a.tmps[t]?=some (.bool b):=by
 obtain⟨_,hs⟩:=G.slots t _ h
 simp only[Sm,R] at hs
 by_cases H:t<a.tmps.size
 .rw[Array.getElem?_eq_getElem H]
  simp[H] at hs;rw[hs]
 .rw[show a.tmps.getD t undef=undef by simp[H]] at hs;simp[undef] at hs
theorem N4{ops:Array Oper}{tmps:Array Value}{j t:Nat}{b:Bool}(h:(ops[j]?).bind (·.dst)=some t)(H:tmps[t]?=some (.bool b)):yielded ops tmps j=some b:=by
 unfold yielded
 rw[h]
 simp[H]
theorem zjq{b c:Bool}(h:¬b=c):b = !c:=by cases b <;> cases c <;> simp_all
theorem FP{all:List Oper}(H:∀ j y,all[j]?=some y->lst Lb j->∀ e∈y.after.toList,Region.binds .any e=true->Lb.getD e.on false=true):∀ (f:Nat) {m i:Nat},lst Lb m->gq all f m i=true->lst Lb i
 |0,m,i,_,h=>by cases h
 |f+1,m,i,G,h=>by
  simp only[gq] at h;split at h
  .rename_i y F
   rw[Bool.or_eq_true] at h;rcases h with h | h
   .unfold bound at h
    obtain⟨e,E,K⟩:=List.any_eq_true.1 h;rw[Bool.and_eq_true,beq_iff_eq] at K;have:=H m y F G e E K.1
    rw[K.2] at this;exact gu this
   .obtain⟨e,E,K⟩:=List.any_eq_true.1 h
    rw[Bool.and_eq_true] at K;exact FP H f (gu (H m y F G e E K.1)) K.2
  .cases h
theorem zik(h:Here P S Lb i o k)(hm:Mods X w0 st β a w)(hD:Desc S (lst Lb) st ν){N:Act->World->Prop}{Q:Exit->Act->World->Prop}
  (hN:∀ a' w' st' β' ν',Mods X w0 st' β' a' w'->Desc S (lst (Lb.setIfInBounds i true)) st' ν'->N a' w'):wpOp P S.all.toArray Q i N a w:=by
 obtain⟨Hs,H⟩:=h.sok.step i o k h.at_ h.kind
 have Go:S.all.toArray[i]?=some o:=by simpa using h.at_
 unfold wpOp
 rw[Go]
 simp only
 have W:∀ t,o.dst=some t->t<st.n:=by rw[hD.n];exact x9 Hs
 cases k with
 |mk ob=>
  obtain⟨hg,_,_,_,G⟩:=H;simp only[Region.wanted,hg,if_true];exact .inl (ji hm (K:=λst'=>st'=(st.new ob).put o.dst (ref ob st.next)) (G st _ (h.knows hD) rfl) N Q λa' w' st' β' e F=>by subst e;exact hN _ _ _ _ _ F (hD.mk' h))
 |app j src ob=>
  obtain⟨hg,_,hU,hj,O,_,F0,oj,ok,J,T,F1,G⟩:=H;simp only[Region.wanted,hg,if_true];obtain⟨p1,p2,p3,p4⟩:=hD.live j oj (h.holds hj J);refine .inl (ji hm (K:=λst'=>st'=(st.renew (ν j) ob).put o.dst (.ar (ν j))) (G st _ (ν j) (h.knows hD) ?_ p4 ?_ rfl) N Q λa' w' st' β' e F=>by subst e;exact hN _ _ _ _ _ F (hD.app h hj J F0))
  .simp only[St.val,p3,Option.getD_some]
   cases oj <;> simp only[jH] at T;rfl
  .intro k hk
   obtain⟨Fd,Fk⟩:=O k hk;obtain⟨Fm,V⟩:=F1 k hk;have H0:=h.holds Fk Fm;obtain⟨q1,q2,q3,q4⟩:=hD.live k ok H0;refine⟨ν k,λe=>Fd (hD.inj k j ok oj H0 (h.holds hj J) e),?_,q4⟩
   simp only[St.val,q3,Option.getD_some];cases ok <;> simp only[jH] at V;rfl
 |qA j ob=>
  obtain⟨hg,Y,hU,hj,_,hb,oj,J,H1,G⟩:=H;simp only[Region.wanted,hg,if_true];obtain⟨p1,p2,p3,p4⟩:=hD.live j oj (h.holds hj J);refine .inl (ji hm (K:=λst'=>st' = {st with own:=zV (ν j) ob st.own}) (G st _ (ν j) (h.knows hD) ?_ p4 rfl) N Q λa' w' st' β' e F=>by subst e;exact hN _ _ _ _ _ F (hD.qA h Y hj J hb H1))
  simp only[St.val,p3,Option.getD_some];cases oj <;> simp only[wO] at H1;rfl
 |bst id ob=>
  obtain⟨hg,Y,hU,_,o0,Hc,G⟩:=H;simp only[Region.wanted,hg,if_true];have Z:st.look id=some o0:=hD.own id o0 Hc λj ob' hk hl=>h.not_ (by rw[h.sok.bstu i j id ob ob' h.kind hk];exact hl)
  exact .inl (ji hm (K:=λst'=>st' = {st with own:=zV id ob st.own}) (G st _ (h.knows hD) Z rfl) N Q λa' w' st' β' e F=>by subst e;exact hN _ _ _ _ _ F (hD.bst' h Y Hc))
 |val s=>
  obtain⟨hU,H,A⟩:=H;let st':St:={st with slots:=seen S.all o (S.zX i)}
  have F:Mods X w0 st' β a w:=by
   refine⟨hm.outer,hm.still,hm.one,hm.defers,hm.size,hm.below,hm.keys,hm.own,hm.apart,?_⟩
   intro t s' ht;obtain⟨q1,q2⟩:=Zq ht;by_cases hj:s' = .junk
   .subst hj;exact⟨by simp[Sym.lo],by simp[Sm]⟩
   .exact hm.slots t s' (h.Ym hD q1 q2 hj)
  have B:∀ x∈o.op.operands,(S.zX i).val x=st'.val x:=by
   intro x Fn;cases x with
   |tmp t=>
    simp only[St.val];have C:t∈tmpsOf S.all o:=XQ Fn
    cases hl:zc (S.zX i).slots t with
    |some s'=>rw[show zc st'.slots t=some s' from Vy C hl]
    |none=>
     cases I:zc st'.slots t with
     |none=>rfl
     |some s'=>have:=(Zq I).2;rw[hl] at this;cases this
   |_=>rfl
  have L:∀ id ob,(S.zX i).look id=some ob->st'.look id=some ob:=by
   intro id ob hl;have I:zc (S.own0 i) id=some ob:=by
    have e:(S.zX i).own=S.own0 i:=(Yi _ _ _).1
    simp only[St.look,e] at hl;exact hl
   obtain⟨h1,h2⟩:=h.sok.own0 i id ob I;exact hD.own id ob h1 λj ob' hk hl=>by
    obtain⟨f,hf⟩:=h2 j ob' hk;exact h.not_ (FP h.down f hl hf)
  have M:(Zp (S.zX i).val o.op=true/\vm P (S.zX i).look (S.zX i).val o.op (λs'=>s'=s))->o.wp P a w N Q:=by
   intro⟨h1,h2⟩;have h3:=zgz L (FD B h2);refine Vl F o h3 N Q λs' v w' e hl hb Fr=>?_
   subst e;exact hN _ _ _ _ _ (hm.put hb W (Sym.vR hD.next A) Fr) (hD.val h hU)
  have E:s = .d (.val undef)->N (a.put o.dst undef) w:=by
   intro e;subst e;exact hN _ _ _ _ _ (hm.yC W (by simp[Sym.lo]) (by simp[Sm,R])) (hD.val h hU)
  unfold DStep jk at H;split at H
  .rename_i hg
   simp only[Region.wanted,hg,if_true];exact .inl (M H)
  .rename_i j want hg
   split at H
   .rename_i t ht
    have Hi:t∈tmpsOf S.all o:=FG hg ht
    split at H
    .rename_i b hb
     have hy:=N4 (Zo ht) (N3 hm (h.Ym hD Hi hb (by simp)))
     simp only[Region.wanted,hg,hy];by_cases e:b=want
     .subst e
      simp only[beq_self_eq_true,if_true];exact .inl (M (H.1 rfl))
     .have e':b = !want:=zjq e
      have:(some b==some want)=false:=by simp[e]
      simp only[this,Bool.false_eq_true,if_false];exact E (H.2 e').symm
    .rename_i v hb
     obtain⟨rfl,hj⟩:=H;obtain⟨_,hv⟩:=hm.slots t _ (h.Ym hD Hi hb (by simp))
     simp only[Sm,R] at hv;have hy:yielded S.all.toArray a.tmps j=none:=WV (Zo ht) hv
     simp only[Region.wanted,hg,hy];have:((none:Option Bool)==some want)=false:=rfl
     simp only[this,Bool.false_eq_true,if_false];exact E hj.symm
    .exact H.elim
   .exact H.elim
def ve:Nat->List (Nat×Obj')->List (Nat×Obj')
 |_,[]=>[]
 |n,(_,ob)::r=>(n,ob)::ve (n+1) r
def vC:Nat->List (Nat×Obj')->List (Nat×Sym)
 |_,[]=>[]
 |n,(t,ob)::r=>(t,ref ob n)::vC (n+1) r
structure SegEnd(S:Seg)(fins own1:List (Nat×Obj')):Prop where
 each:∀ t ob,(t,ob)∈fins->∃ c ob0,S.co c t ob0/\((ob=ob0/\∀ m,¬S.user t m)\/∃ m,S.user t m/\S.kd m=some (.qA t ob))
 nodup:(fins.map (·.1)).Nodup
 keys:own1.map (·.1)=S.st0.own.map (·.1)
 own1:(S.st0.own.map (·.1)).Nodup->∀ id o,(id,o)∈own1->(∃ i,S.kd i=some (.bst id o))\/(zc S.st0.own id=some o/\∀ i ob,S.kd i≠some (.bst id ob))
def Seg.fin(S:Seg)(fins own1:List (Nat×Obj')):St:=
 {S.st0 with next:=S.st0.next+fins.length,slots:=vC S.st0.next fins++(S.zX S.hi).slots,own:=ve S.st0.next fins++own1}
theorem N5:∀ {n:Nat} {l:List (Nat×Obj')} {id:Nat} {ob:Obj'},(id,ob)∈ve n l->∃ j t,l[j]?=some (t,ob)/\id=n+j
 |n,(t,o)::r,id,ob,h=>by
  simp only[ve] at h;rcases List.mem_cons.1 h with e | h
  .cases e;exact⟨0,t,by simp,by omega⟩
  .obtain⟨j,t',H,G⟩:=N5 h;exact⟨j+1,t',by simpa using H,by omega⟩
theorem FQ:∀ (n:Nat) (l:List (Nat×Obj')),(ve n l).map (·.1)=List.range' n l.length
 |n,[]=>rfl
 |n,(t,o)::r=>by simp only[ve,List.map_cons,List.length_cons,List.range'_succ,FQ (n+1) r]
theorem N6:∀ {n:Nat} {l:List (Nat×Obj')} {sl:List (Nat×Sym)} {t:Nat} {s:Sym},zc (vC n l++sl) t=some s->(∃ j ob,l[j]?=some (t,ob)/\s=ref ob (n+j))\/zc sl t=some s
 |n,[],sl,t,s,h=>.inr (by simpa[vC] using h)
 |n,(t',ob)::r,sl,t,s,h=>by
  simp only[vC,List.cons_append,zc] at h;split at h
  .rename_i e;subst e;cases h;exact .inl ⟨0,ob,by simp,by simp⟩
  .rcases N6 h with⟨j,ob',H,G⟩ | h
   .exact .inl ⟨j+1,ob',by simpa using H,by rw[G];congr 1;omega⟩
   .exact .inr h
theorem zkr{E E':Nat->Prop}{β':Nat->Value}{ob:Obj'}{i j:Nat}{v:Value}(h:Sm w E β (ref ob i) v)(e:β' j=β i):Sm w E' β' (ref ob j) v:=by
 cases ob <;> simp only[ref,Sm] at h ⊢ <;> rw[e] <;> exact h
theorem yM.tO{N:Nat->Prop}{E E':Nat->Prop}{β':Nat->Value}{m i j:Nat}{ob:Obj'}(hβ:∀ id,id<m->β' id=β id)(H:Over w E w E')(e:β' j=β i)(G:ob.lo m)(h:yM w N E β i ob):yM w N E' β' j ob:=by
 cases ob with
 |box T cells=>
  obtain⟨b,vs,F,K,J,L,M⟩:=h;exact⟨b,vs,by rw[e];exact F,K,J,zh.over hβ H G L,M⟩
 |arr T sz rows=>
  obtain⟨xs,F,K,J⟩:=h;exact⟨xs,by rw[e];exact F,zi.over H _ _ K,J⟩
 |map T rows=>
  obtain⟨r,es,clock,F,K,J,L⟩:=h;exact⟨r,es,clock,by rw[e];exact F,K,J,yH.over H _ _ L⟩
 |raw k cells=>
  obtain⟨b,fn,D,vs,F,K,J,L⟩:=h;exact⟨b,fn,D,vs,by rw[e];exact F,K,J,zh.over hβ H G L⟩
theorem zjr(M:SegOk P S)(J:StLo S.st0)(C:(S.st0.own.map (·.1)).Nodup)(I:S.st0.base<=S.st0.next){L:Nat->Prop}(hm:Mods X w0 st β a w)(hD:Desc S L st ν)(V:∀ j,S.lo<=j->j<S.hi->L j){fins own1:List (Nat×Obj')}(he:SegEnd S fins own1):
  ∃ β',Mods X w0 (S.fin fins own1) β' a w:=by
 have Q:∀ {j k},S.kd j=some k->L j:=λh=>V _ (S.vW h).1 (S.vW h).2
 have G:∀ t ob,(t,ob)∈fins->S.Live L t ob:=by
  intro t ob H;obtain⟨c,ob0,hc,h⟩:=he.each t ob H;have N:L c:=by obtain⟨y,k',_,h2,_⟩:=hc;exact Q h2
  rcases h with⟨rfl,hu⟩ | ⟨m,hu,hk⟩
  .exact .inl ⟨c,hc,N,λm H0=>absurd H0 (hu m)⟩
  .exact .inr ⟨c,ob0,m,hc,N,Q hk,hu,hk⟩
 let β':Nat->Value:=λid=>if S.st0.next<=id then (match fins[id-S.st0.next]? with | some (t,_)=>β (ν t) | none=>β id) else β id
 have E:∀ id,id<S.st0.next->β' id=β id:=λid h=>if_neg (by omega)
 have O:∀ j t ob,fins[j]?=some (t,ob)->β' (S.st0.next+j)=β (ν t):=by
  intro j t ob h;show(if _ then _ else _)=_
  rw[if_pos (by omega)]
  have:S.st0.next+j-S.st0.next=j:=by omega
  rw[this,h]
 have T:∀ j t ob,fins[j]?=some (t,ob)->Hold S st ν t ob:=λj t ob h=>hD.live t ob (G t ob (List.mem_of_getElem? h))
 have K:∀ id o',(id,o')∈own1->id<S.st0.next/\o'.lo S.st0.next/\(id,o')∈st.own:=by
  intro id o' H;rcases he.own1 C id o' H with⟨i,hk⟩ | ⟨h1,h2⟩
  .have hb:=(S.vW hk)
   obtain⟨y,hy⟩:∃ y,S.all[i]?=some y:=⟨_,List.getElem?_eq_getElem (by have:=M.len;omega)⟩
   obtain⟨_,_,_,Y,o0,H1,_⟩:=(M.step i y _ hy hk).2;exact⟨(J.own id o0 H1).1,Y,yZ (hD.bst id i o' hk (Q hk))⟩
  .obtain⟨q1,q2⟩:=J.own id o' h1
   exact⟨q1,q2,yZ (hD.own id o' h1 λj ob hk _=>h2 j ob hk)⟩
 -- each own thing of the end is one of those that are there
 have F:∀ id o',(id,o')∈(S.fin fins own1).own->∃ id0,(id0,o')∈st.own/\β' id=β id0/\o'.lo S.st0.next/\((id0=id/\id<S.st0.next)\/∃ j t,fins[j]?=some (t,o')/\id=S.st0.next+j/\id0=ν t):=by
  intro id o' H;rcases List.mem_append.1 H with h | h
  .obtain⟨j,t,hj,rfl⟩:=N5 h
   obtain⟨q1,q2,q3,q4⟩:=T j t o' hj;exact⟨ν t,yZ q4,O j t o' hj,(G t o' (List.mem_of_getElem? hj)).lo M,.inr ⟨j,t,hj,rfl,rfl⟩⟩
  .obtain⟨q1,q2,q3⟩:=K id o' h
   exact⟨id,q3,E id q1,q2,.inl ⟨rfl,q1⟩⟩
 have W:Over w (Ex X β st.own) w (Ex X β' (S.fin fins own1).own):=by
  refine Over.less λb hb=>hb.elim .inl λ⟨id,o',H,Z⟩=>?_
  obtain⟨id0,h1,h2,_⟩:=F id o' H;exact .inr ⟨id0,o',h1,by rw[<-h2];exact Z⟩
 refine⟨β',hm.outer,⟨Nat.le_trans I (Nat.le_add_right _ _),?_⟩,?_,hm.defers,hm.size.trans hD.n,hm.below,?_,?_,?_,?_⟩
 .intro id h1 h2
  have hid:id<S.st0.next:=Nat.lt_of_lt_of_le h1 I
  rw[E id hid];exact hm.still.2 id (by rw[hD.base];exact h1) (λh=>h2 (hD.moved id hid h))
 .intro id
  show((if _ then _ else _:Value)).oneCell'=true
  split
  .split
   .exact hm.one _
   .exact hm.one _
  .exact hm.one _
 .show((ve S.st0.next fins++own1).map (·.1)).Nodup
  rw[List.map_append,List.nodup_append];refine⟨by rw[FQ];exact List.nodup_range',by rw[he.keys];exact C,?_⟩
  intro p hp q hq e;subst e;rw[FQ] at hp;obtain⟨⟨id,o'⟩,H,e⟩:=List.mem_map.1 hq;have:=(K id o' H).1
  have:=(List.mem_range'.1 hp)
  simp at e;omega
 .intro id o' H
  obtain⟨id0,h1,h2,h3,h4⟩:=F id o' H;obtain⟨q1,q2,q3⟩:=hm.own id0 o' h1;refine⟨?_,Obj'.vR (Nat.le_add_right _ _) h3,q3.tO E W h2 h3⟩
  show id<S.st0.next+fins.length
  rcases h4 with⟨_,h⟩ | ⟨j,t,hj,rfl,_⟩
  .omega
  .have:=(List.getElem?_eq_some_iff.1 hj).1;omega
 .intro id o1 id' o2 b h1 h2 e1 e2
  obtain⟨i1,p1,p2,_,p4⟩:=F id o1 h1;obtain⟨i2,q1,q2,_,q4⟩:=F id' o2 h2;have heq:=hm.apart i1 o1 i2 o2 b p1 q1 (by rw[<-p2];exact e1) (by rw[<-q2];exact e2)
  rcases p4 with⟨rfl,Hs⟩ | ⟨j,t,hj,rfl,rfl⟩ <;> rcases q4 with⟨rfl,Hc⟩ | ⟨j',t',A,rfl,rfl⟩
  .exact heq
  .have:=(T j' t' o2 A).1;omega
  .have:=(T j t o1 hj).1;omega
  .have ht:=hD.inj t t' o1 o2 (G _ _ (List.mem_of_getElem? hj)) (G _ _ (List.mem_of_getElem? A)) heq
   subst ht;have hn:=he.nodup;have h1:(fins.map (·.1))[j]?=some t:=by simp[hj]
   have h2:(fins.map (·.1))[j']?=some t:=by simp[A]
   have Hi:=(List.getElem?_eq_some_iff.1 h1);have B:=(List.getElem?_eq_some_iff.1 h2);have:j=j':=(List.getElem_inj hn).1 (Hi.2.trans B.2.symm)
   rw[this]
 .intro t s ht
  rcases N6 ht with⟨j,ob,hj,rfl⟩ | ht
  .obtain⟨q1,q2,q3,q4⟩:=T j t ob hj
   refine⟨zkq ?_,zkr (hm.slots t _ q3).2 (O j t ob hj)⟩
   show S.st0.next+j<S.st0.next+fins.length
   have:=(List.getElem?_eq_some_iff.1 hj).1;omega
  .have fin:Sym.lo S.st0.next s->zc st.slots t=some s->Sym.lo (S.fin fins own1).next s/\Sm w (Ex X β' (S.fin fins own1).own) β' s (a.tmps.getD t undef):=
    λh1 h2=>⟨Sym.vR (Nat.le_add_right _ _) h1,Sm.over E W h1 (hm.slots t s h2).2⟩
   rcases S.N2 M.len ⟨M.len.1,Nat.le_refl _⟩ ht with⟨j,y,k',h1,h2,h3,h4,h5⟩ | ⟨h1,h2⟩
   .cases k' with
    |val s'=>
     simp only[FK.sym] at h4;subst h4;exact fin (M.step j y _ h1 h2).2.2.2 (hD.vals j y t _ h1 (Q h2) h2 h5)
    |_=>simp only[FK.sym] at h4;subst h4;exact⟨by simp[Sym.lo],by simp[Sm]⟩
   .exact fin (J.slots t s h2) (hD.rest t s h2 λj y k' hj hl hk=>h1 j y hj (S.vW hk).1 (S.vW hk).2)
end
end Go.V
namespace Go.V
variable [Dr] [Ov]
open Go.RowKit
def sinks(all:List Oper)(b:Nat):List Nat:=(List.range b).filter λi=>!((all.take b).any λz=>bound z i)
def vX(all:List Oper)(b:Nat):Bool:=
 (all.drop b).all λy=>(y.after.toList.any λe=>Region.binds .any e&&Nat.ble b e.on) || (sinks all b).all λi=>bound y i
def zlf(P:Program)(all:List Oper)(pos:Nat)(st:St)(K:St->Prop):Prop:=
 ∀ (X:Nat->Prop) (w0:Base) (β:Nat->Value) (a:Act) (w:World),Mods X w0 st β a w->∀ (N:Act->World->Prop) (Q:Exit->Act->World->Prop),
  (∀ a' w' st' β',K st'->Mods X w0 st' β' a' w'->N a' w')->wpOp P all.toArray Q pos N a w
inductive RegI (P:Program) (all:List Oper) (K:St->Prop):Nat->St->Prop
 |done {st:St}:K st->RegI P all K all.length st
 |tot {pos:Nat} {st:St} (K1:St->Prop):pos<all.length->(vX all (pos+1)=true\/pos+1=all.length)->zlf P all pos st K1->(∀ st',K1 st'->RegI P all K (pos+1) st')->RegI P all K pos st
 |seg {pos hi:Nat} {st:St} (ks:List FK) (own0:Nat->List (Nat×Obj')) (fins own1:List (Nat×Obj')):SegOk P ⟨all,pos,hi,ks,st,own0⟩->SegEnd ⟨all,pos,hi,ks,st,own0⟩ fins own1->(vX all hi=true\/hi=all.length) ->
   RegI P all K hi (Seg.fin ⟨all,pos,hi,ks,st,own0⟩ fins own1)->RegI P all K pos st
section
variable {P:Program} {X:Nat->Prop} {w0:Base} {st:St} {β:Nat->Value} {a:Act} {w w':World} {all:List Oper} {Lb:Array Bool}
theorem FR(E:yT all=true){b:Nat}(Y:vX all b=true)(O:Lb.size=all.length)(G:∀ j y,all[j]?=some y->lst Lb j->∀ e∈y.after.toList,Region.binds .any e=true->Lb.getD e.on false=true)
  (L:∀ j,b<=j->j<all.length->¬lst Lb j) {j:Nat} {y:Oper} (hj:all[j]?=some y) (Q:b<=j) (H:∀ e∈y.after.toList,Region.binds .any e=true->Lb.getD e.on false=true):∀ i,i<b->lst Lb i:=by
 have T:=(List.getElem?_eq_some_iff.1 hj).1
 -- y waits for each sink
 have hs:∀ i∈sinks all b,lst Lb i:=by
  have Z:y∈all.drop b:=by
   refine List.mem_of_getElem? (i:=j-b) ?_
   rw[List.getElem?_drop];have:b+(j-b)=j:=by omega
   rw[this];exact hj
  have:=(List.all_eq_true.1 Y) y Z
  rw[Bool.or_eq_true] at this;rcases this with h | h
  .obtain⟨e,A,B⟩:=List.any_eq_true.1 h
   rw[Bool.and_eq_true] at B;have C:=H e A B.1;have F:b<=e.on:=Nat.ble_eq▸B.2
   have V:e.on<j:=(FH E hj).1 e A B.1
   exact absurd (gu C) (L e.on F (by omega))
  .intro i hi
   obtain⟨e,A,I,F⟩:=Zr ((List.all_eq_true.1 h) i hi);have:=H e A I
   rw[F] at this;exact gu this
 -- the greatest one that is not done
 have key:∀ n i,i<b->b-i<=n->lst Lb i:=by
  intro n;induction n with
  |zero=>intro i hi h;omega
  |succ n ih=>
   intro i hi h;by_cases K:i∈sinks all b
   .exact hs i K
   .have:((all.take b).any λz=>bound z i)=true:=by
     cases N:((all.take b).any λz=>bound z i) with
     |true=>rfl
     |false=>exact absurd (List.mem_filter.2 ⟨List.mem_range.2 hi,by rw[N];rfl⟩) K
    obtain⟨z,P,M⟩:=List.any_eq_true.1 this;obtain⟨m,S⟩:=List.mem_iff_getElem?.1 P;have J:m<b:=by
     rcases Nat.lt_or_ge m b with h | h
     .exact h
     .rw[List.getElem?_take,if_neg (by omega)] at S;cases S
    rw[List.getElem?_take,if_pos J] at S;obtain⟨e,A,I,F⟩:=Zr M;have X:i<m:=by have:=(FH E S).1 e A I;omega
    have:=G m z S (ih m J (by omega)) e A I
    rw[F] at this;exact gu this
 exact λi hi=>key (b-i) i hi (Nat.le_refl _)
structure Stands(all:List Oper)(Lb:Array Bool):Prop where
 size:Lb.size=all.length
 down:∀ j y,all[j]?=some y->lst Lb j->∀ e∈y.after.toList,Region.binds .any e=true->Lb.getD e.on false=true
theorem Stands.set(h:Stands all Lb){i:Nat}{o:Oper}(hi:all[i]?=some o)(H:∀ e∈o.after.toList,Region.binds .any e=true->Lb.getD e.on false=true):Stands all (Lb.setIfInBounds i true):=by
 have G:i<Lb.size:=by rw[h.size];exact(List.getElem?_eq_some_iff.1 hi).1
 have F:∀ j,Lb.getD j false=true->(Lb.setIfInBounds i true).getD j false=true:=by
  intro j hj;by_cases E:j<Lb.size
  .simp[Array.getD,E,Array.getElem_setIfInBounds] at hj ⊢;right;exact hj
  .simp[Array.getD,E] at hj
 refine⟨by simp[h.size],λj y hj K e J L=>?_⟩
 rcases(jl G).1 K with rfl | K
 .rw[hi] at hj;cases hj;exact F _ (H e J L)
 .exact F _ (h.down j y hj K e J L)
theorem K7(h:Stands all Lb){i:Nat}(hi:i∈Region.ready .any all.toArray Lb):∃ o,all[i]?=some o/\i<all.length/\¬lst Lb i/\∀ e∈o.after.toList,Region.binds .any e=true->Lb.getD e.on false=true:=by
 unfold Region.ready at hi
 obtain⟨G,hi⟩:=List.mem_filter.1 hi
 simp only[Bool.and_eq_true,Bool.not_eq_true'] at hi
 obtain⟨H,hi⟩:=hi
 cases F:all.toArray[i]? with
 |none=>rw[F] at hi;simp at hi
 |some o=>
  rw[F] at hi;simp only[Option.map_some,Option.getD_some] at hi;refine⟨o,by simpa using F,by simpa using G,(λE=>by unfold lst at E;rw[H] at E;cases E),λe K hb=>?_⟩
  rw[Array.all_eq_true'] at hi;have:=hi e (by simpa using K)
  simp only[hb,Bool.not_true,Bool.false_or] at this;exact this
def left(Lb:Array Bool):Nat:=(Lb.toList.filter (!·)).length
theorem K8{i:Nat}(hi:i<Lb.size)(H:¬lst Lb i):left (Lb.setIfInBounds i true)+1=left Lb:=by
 have G:Lb.toList[i]?=some false:=by
  have:Lb[i]=false:=by
   cases h:Lb[i] with
   |false=>rfl
   |true=>exact absurd (by unfold lst;simp[Array.getD,hi,h]) H
  simp[hi,this]
 unfold left
 rw[Array.toList_setIfInBounds]
 generalize Lb.toList=l at G
 clear hi H
 induction l generalizing i with
 |nil=>simp at G
 |cons x r ih=>
  cases i with
  |zero=>simp at G;subst G;simp
  |succ i=>
   have:=ih (i:=i) (by simpa using G)
   simp only[List.set_cons_succ,List.filter_cons];cases x <;> simp <;> omega
theorem fS{i:Nat}(hi:i<Lb.size)(H:¬lst Lb i):0<left Lb:=by have:=K8 hi H;omega
theorem N7(O:yT all=true){S:Seg}(G:S.all=all)(hS:SegOk P S)(J:StLo S.st0)(L:vX all S.hi=true\/S.hi=all.length){Q:Exit->Act->World->Prop}
  (M:∀ st' β' ν a' w' Lb',Mods X w0 st' β' a' w'->Desc S (lst Lb') st' ν->Stands all Lb'->(∀ j,j<all.length->(lst Lb' j↔j<S.hi))->∀ fuel,left Lb'<=fuel->wpAny P .any all.toArray Q fuel Lb' a' w') :
  ∀ (fuel:Nat) (Lb:Array Bool) (st:St) (β ν:Nat->_) (a:Act) (w:World),Mods X w0 st β a w->Desc S (lst Lb) st ν->Stands all Lb->(∀ j,j<S.lo->lst Lb j)->(∀ j,S.hi<=j->j<all.length->¬lst Lb j)->left Lb<=fuel ->
   wpAny P .any all.toArray Q fuel Lb a w
 |fuel,Lb,st,β,ν,a,w,hm,hD,F,T,V,hf=>by
  by_cases hd:∀ j,S.lo<=j->j<S.hi->lst Lb j
  .refine M st β ν a w Lb hm hD F (λj hj=>⟨λhl=>?_,λh=>?_⟩) fuel hf
   .rcases Nat.lt_or_ge j S.hi with h | h
    .exact h
    .exact absurd hl (V j h hj)
   .rcases Nat.lt_or_ge j S.lo with h' | h'
    .exact T j h'
    .exact hd j h' h
  .have hx:∃ j,S.lo<=j/\j<S.hi/\¬lst Lb j:=by
    refine Classical.byContradiction λhn=>hd λj h1 h2=>Classical.byContradiction λh3=>hn ⟨j,h1,h2,h3⟩
   obtain⟨j,H0,Z,Y⟩:=hx;have H1:S.hi<=all.length:=by rw[<-G];exact hS.len.2.1
   cases fuel with
   |zero=>have:=fS (Lb:=Lb) (by rw[F.size];omega) Y;omega
   |succ fuel=>
    refine⟨λhr=>absurd (K2 O F.size hr j (by omega)) Y,λi hi=>?_⟩
    obtain⟨o,ho,A,E,H⟩:=K7 F hi;have B:S.lo<=i:=Nat.le_of_not_lt λh=>E (T i h)
    have C:i<S.hi:=by
     rcases Nat.lt_or_ge i S.hi with h | h
     .exact h
     .rcases L with hc | hc
      .exact absurd (FR O hc F.size F.down V ho h H j Z) Y
      .omega
    have hk:∃ k,S.kd i=some k:=by
     unfold Seg.kd;rw[if_pos ⟨B,C⟩];exact⟨_,List.getElem?_eq_getElem (by have:=hS.len.2.2;omega)⟩
    obtain⟨k,hk⟩:=hk;have K:i<Lb.size:=by rw[F.size];exact A
    have here:Here P S Lb i o k:=⟨hS,J,by rw[G];exact F.size,by rw[G];exact F.down,by rw[G];exact ho,hk,E,H⟩
    have:=zik (P:=P) here hm hD (N:=wpAny P .any all.toArray Q fuel (Lb.setIfInBounds i true)) (Q:=Q) λa' w' st' β' ν' I W=>
     N7 O G hS J L M fuel (Lb.setIfInBounds i true) st' β' ν' a' w' I W (F.set ho H) (λj h=>(jl K).2 (.inr (T j h)))
      (λj h1 h2 hl=>by
       rcases(jl K).1 hl with e | hl
       .omega
       .exact V j h1 h2 hl) (by have:=K8 K E;omega)
    rw[G] at this;exact this
theorem StLo.of(H:Mods X w0 st β a w):StLo st:=⟨λid o h=>⟨(H.obj h).1,(H.obj h).2.1⟩,λt s h=>(H.slots t s h).1⟩
theorem N8(V:yT all=true){Q:Exit->Act->World->Prop}{K:St->Prop}(hQ:∀ a w st β,K st->Mods X w0 st β a w->Q .normal a w){pos:Nat}{st:St}(h:RegI P all K pos st):
  ∀ (β:Nat->Value) (a:Act) (w:World) (Lb:Array Bool),Mods X w0 st β a w->Stands all Lb->(∀ j,j<all.length->(lst Lb j↔j<pos))->∀ fuel,left Lb<=fuel->wpAny P .any all.toArray Q fuel Lb a w:=by
 induction h with
 | @done st hk=>
  intro β a w Lb hm H hL fuel hf;have E:Region.ready .any all.toArray Lb=[]:=by
   cases hr:Region.ready .any all.toArray Lb with
   |nil=>rfl
   |cons i r=>
    obtain⟨o,ho,L,F,_⟩:=K7 H (by rw[hr];simp:i∈Region.ready .any all.toArray Lb)
    exact absurd ((hL i L).2 L) F
  cases fuel with
  |zero=>exact⟨E,hQ a w st β hk hm⟩
  |succ fuel=>exact⟨λ_=>hQ a w st β hk hm,λi hi=>by rw[E] at hi;cases hi⟩
 | @tot pos st K1 M J Y _ ih=>
  intro β a w Lb hm H hL fuel hf;have Z:¬lst Lb pos:=λhl=>by have:=(hL pos M).1 hl;omega
  cases fuel with
  |zero=>have:=fS (Lb:=Lb) (by rw[H.size];omega) Z;omega
  |succ fuel=>
   refine⟨λhr=>absurd (K2 V H.size hr pos M) Z,λi hi=>?_⟩
   obtain⟨o,ho,L,F,G⟩:=K7 H hi;have Hi:pos<=i:=Nat.le_of_not_lt λh=>F ((hL i L).2 h)
   have H0:i=pos:=by
    rcases Nat.lt_or_ge pos i with h | h
    .rcases J with hc | hc
     .exact absurd (FR V hc H.size H.down (λj h1 h2 hl=>by have:=(hL j h2).1 hl;omega) ho h G pos (Nat.lt_succ_self _)) Z
     .omega
    .omega
   subst H0;have O:i<Lb.size:=by rw[H.size];exact L
   refine Y X w0 β a w hm _ Q λa' w' st' β' hk A=>?_
   refine ih st' hk β' a' w' (Lb.setIfInBounds i true) A (H.set ho G) (λj hj=>?_) fuel (by have:=K8 O F;omega)
   rw[jl O,hL j hj];omega
 | @seg pos hi st ks own0 fins own1 hS hE J _ ih=>
  intro β a w Lb hm H hL fuel hf;have T:StLo st:=.of hm
  refine N7 (P:=P) (X:=X) (w0:=w0) (S:=⟨all,pos,hi,ks,st,own0⟩) V rfl hS T J ?_ fuel Lb st β (λ_=>0) a w hm ?_ H ?_ ?_ hf
  .intro st' β' ν a' w' Lb' A hD B N fuel' hf'
   obtain⟨β2,H1⟩:=zjr (S:=⟨all,pos,hi,ks,st,own0⟩) hS T hm.keys hm.still.1 A hD (λj h1 h2=>(N j (by have:=hS.len.2.1;exact Nat.lt_of_lt_of_le h2 this)).2 h2) hE
   exact ih β2 a' w' Lb' H1 B N fuel' hf'
  .have C:∀ {j k},Seg.kd ⟨all,pos,hi,ks,st,own0⟩ j=some k->¬lst Lb j:=by
    intro j k hk hl;have hb:=Seg.vW hk;have I:=hS.len.2.1;have:=(hL j (Nat.lt_of_lt_of_le hb.2 I)).1 hl
    simp at hb;omega
   have W:∀ t ob,¬Seg.Live ⟨all,pos,hi,ks,st,own0⟩ (lst Lb) t ob:=by
    intro t ob hl;obtain⟨c,ob0,⟨y,k',_,h2,_⟩,Hc⟩:=hl.co;exact C h2 Hc
   exact⟨rfl,rfl,Nat.le_refl _,λ_ _ h=>h,λ_ _ h _=>h,λ_ _ _ hk hl=>absurd hl (C hk),λ_ _ _ _ _ hl hk _=>absurd hl (C hk),λ_ _ h _=>h,λt ob hl=>absurd hl (W t ob),λt _ ob _ hl=>absurd hl (W t ob)⟩
  .intro j hj
   have:j<all.length:=by have:=hS.len;simp at this hj;omega
   exact(hL j this).2 hj
  .intro j h1 h2 hl
   have:=(hL j h2).1 hl
   have:=hS.len
   simp at h1 this;omega
theorem VF{id:Nat}(G:P.follows .mixedOrders=true)(F:yT all=true){Q:DE->St->Prop}(h:RegI P all (Q .normal) 0 st):Triple P (.region id all.toArray true) Q st:=by
 intro X w0 β a w L
 refine wp_region_any G ?_
 have E:Mods X w0 st β a {w with drawn:=w.drawn+1}:=by
  have M:Below w.heap.size w {w with drawn:=w.drawn+1}:=⟨⟨rfl,rfl,rfl,Nat.le_refl _,λ_ _=>rfl⟩,λ_=>Nat.le_succ _⟩
  have:=L.put M (dst:=none) (s:=.junk) (v:=undef) (by simp) (by simp[Sym.lo]) (by simp[Sm])
  simpa[St.put,Act.put] using this
 have H:∀ j,j<all.length->¬lst (Array.replicate all.toArray.size false) j:=by
  intro j hj h;unfold lst at h;simp[Array.getD,hj] at h
 refine N8 (P:=P) (X:=X) (w0:=w0) F (K:=Q .normal) (λa w st' β O J=>⟨.normal,st',β,trivial,O,J⟩) h β a _ _ E ⟨by simp,?_⟩ (λj hj=>⟨λh=>absurd h (H j hj),λh=>by omega⟩) _ ?_
 .intro j y hj T
  exact absurd T (H j (List.getElem?_eq_some_iff.1 hj).1)
 .simp[left]
end
end Go.V

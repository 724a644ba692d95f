/- A program logic of my own over the kit: part V31. It needs no conditions. -/
import Derived.Test.YtknekjalbninmaaGreatV25
set_option linter.unusedVariables false
set_option linter.unusedSimpArgs false
set_option linter.unusedSectionVars false
namespace Go.V
variable [Dr] [Ov]
open Go.RowKit
section
variable {P:Program} {look look':Nat->Option Obj'} {ρ:Operand->Sym} {k:Sym->Prop}
theorem yb7(H:∀ id o,look id=some o->look' id=some o){s:Sym}{x:D}(h:zyp look s=some x):zyp look' s=some x:=by
 cases s <;> simp only[zyp] at h ⊢ <;> try exact h
 rename_i id
 cases G:look id with
 |none=>rw[G] at h;cases h
 |some o=>rw[G] at h;rw[H id o G];exact h
theorem zuj(H:∀ id o,look id=some o->look' id=some o):∀ {l:List Sym} {ds:List D},cellsD look l=some ds->cellsD look' l=some ds
 | [],ds,h=>h
 |s::r,ds,h=>by
  simp only[cellsD] at h ⊢;split at h
  .rename_i x xs G h2;rw[yb7 H G,zuj H h2];exact h
  .cases h
mutual
theorem ygp(H:∀ id o,look id=some o->look' id=some o):∀ {s:Sym} {r:D×Bool},lend look s=some r->lend look' s=some r
 |.d x,r,h=>by simpa[lend] using h
 |.nils,r,h=>by simpa[lend] using h
 |.bp id off,r,h=>by
  simp only[lend] at h ⊢;split at h
  .rename_i T cells ho
   rw[H id _ ho];simp only;split at h
   .rename_i ds hd;rw[zuj H hd];exact h
   .cases h
  .cases h
 |.ar id,r,h=>by
  simp only[lend] at h ⊢;split at h
  .rename_i T sz rows ho;rw[H id _ ho];exact h
  .cases h
 |.mp id,r,h=>by
  simp only[lend] at h ⊢;split at h
  .rename_i T rows ho;rw[H id _ ho];exact h
  .cases h
 |.agg l,r,h=>by
  simp only[lend] at h ⊢;split at h
  .rename_i ds b hd;rw[zli H hd];exact h
  .cases h
 |.fn f l,r,h=>by
  simp only[lend] at h ⊢;split at h
  .rename_i ds b hd;rw[zli H hd];exact h
  .cases h
 |.tup l,r,h=>by simp[lend] at h
 |.ap _ _ _ _,r,h=>by simp[lend] at h
 |.aS _ _ _ _,r,h=>by simp[lend] at h
 |.av _ _ _ _,r,h=>by simp[lend] at h
 |.yd _,r,h=>by simp[lend] at h
 |.junk,r,h=>by simp[lend] at h
theorem zli(H:∀ id o,look id=some o->look' id=some o):∀ {l:List Sym} {r:List D×Bool},zjm look l=some r->zjm look' l=some r
 | [],r,h=>by simpa[zjm] using h
 |s::t,r,h=>by
  simp only[zjm] at h ⊢;split at h
  .rename_i d b ds c G h2;rw[ygp H G,zli H h2];exact h
  .cases h
end
theorem z2f(H:∀ id o,look id=some o->look' id=some o){s:Sym}{rows:List (List D)}(h:zj8 look s=some rows):zj8 look' s=some rows:=by
 unfold zj8 at h ⊢
 split at h
 .rename_i id
  (try simp only)
  split at h
  .rename_i T r ho;rw[H id _ ho];exact h
  .cases h
 .exact h
 .cases h
theorem yb8(H:∀ id o,look id=some o->look' id=some o){ti:TI}{s:Sym}(h:zmn look ti s k):zmn look' ti s k:=by
 cases s <;> simp only[zmn] at h ⊢
 case d x=>cases x <;> simp only[zmn] at h ⊢ <;> exact h
 case bp id off=>
  cases G:look id with
  |none=>simp only[G] at h
  |some o=>simp only[G] at h;simp only[H id o G];exact h
 case ap id sz i off=>
  cases G:look id with
  |none=>simp only[G] at h
  |some o=>simp only[G] at h;simp only[H id o G];exact h
theorem zuk(H:∀ id o,look id=some o->look' id=some o){esz:Nat}{s s':Sym}(h:zcs look esz s s' k):zcs look' esz s s' k:=by
 unfold zcs at h ⊢
 split at h
 .exact h
 .rename_i id kd n
  cases G:look id with
  |none=>simp only[G] at h
  |some o=>simp only[G] at h;simp only[H id o G];exact h
 .exact h.elim
theorem ygq(H:∀ id o,look id=some o->look' id=some o){kd:TK}{s:Sym}(h:slen look kd s k):slen look' kd s k:=by
 unfold slen at h ⊢
 split at h
 .exact h
 .exact h
 .exact h
 .rename_i e id
  cases G:look id with
  |none=>simp only[G] at h
  |some o=>simp only[G] at h;simp only[H id o G];exact h
 .exact h
 .exact h
 .exact h.elim
theorem z6g(H:∀ id o,look id=some o->look' id=some o){kd:TK}{s:Sym}{lo hi:Option Sym}(h:zh4 P look kd s lo hi k):zh4 P look' kd s lo hi k:=by
 unfold zh4 at h ⊢
 split at h
 .exact h
 .rename_i e id
  cases G:look id with
  |none=>simp only[G] at h
  |some o=>simp only[G] at h;simp only[H id o G];exact h
 .rename_i e id _ _ _
  cases G:look id with
  |none=>simp only[G] at h
  |some o=>simp only[G] at h;simp only[H id o G];exact h
 .exact h
 .exact h.elim
theorem z2g(H:∀ id o,look id=some o->look' id=some o){kd:TK}{s a b c:Sym}(h:ziv P look kd s a b c k):ziv P look' kd s a b c k:=by
 unfold ziv at h ⊢
 split at h
 .rename_i e id _ _ _ _ _ _
  cases G:look id with
  |none=>simp only[G] at h
  |some o=>simp only[G] at h;simp only[H id o G];exact h
 .exact h.elim
theorem z2h(H:∀ id o,look id=some o->look' id=some o){kk:TK}{te:TI}{c:Bool}{m x:Sym}(h:zgq look kk te c m x k):zgq look' kk te c m x k:=by
 unfold zgq at h ⊢
 cases G:zj8 look m with
 |none=>simp only[G] at h
 |some rows=>simp only[G] at h;simp only[z2f H G];exact h
theorem yb9(G:∀ id o,look id=some o->look' id=some o){c:Sym}{args:List Sym}(h:zn0 P look c args k):zn0 P look' c args k:=by
 unfold zn0 at h ⊢
 cases F:zbm c with
 |none=>simp only[F] at h
 |some r=>
  obtain⟨f,caps⟩:=r;simp only[F] at h ⊢;unfold zqu at h ⊢;cases H:zjm look (args++caps) with
  |none=>simp only[H] at h
  |some r=>simp only[H] at h;simp only[zli G H];exact h
theorem ykb(H:∀ id o,look id=some o->look' id=some o){op:Op}(h:sop P look ρ op k):sop P look' ρ op k:=by
 unfold sop at h ⊢
 split at h
 .exact h
 .exact h
 .exact h
 .split at h
  .rename_i ht;(try simp only[ht]);exact yb8 H h
  .exact h.elim
 .exact h
 .exact h
 .split at h
  .rename_i ht
   split at h
   .rename_i ht2;(try simp only[ht,ht2]);exact zuk H h
   .exact h.elim
  .exact h.elim
 .exact h
 .split at h
  .rename_i ht;(try simp only[ht]);exact⟨h.1,z6g H h.2⟩
  .exact h.elim
 .split at h
  .rename_i ht;(try simp only[ht]);exact z2g H h
  .exact h.elim
 .exact h
 .exact h
 .exact h
 .exact h
 .split at h
  .rename_i ht
   split at h
   .rename_i G h2;(try simp only[ht,G,h2]);exact⟨h.1,z2h H h.2⟩
   .exact h.elim
  .exact h.elim
 .exact h
 .split at h
  .rename_i F E
   split at h
   .rename_i ht;(try simp only[F,E,ht]);exact ygq H h
   .exact h.elim
  .exact h.elim
 .exact h
 .exact h
 .exact yb9 H h
 .exact h.elim
theorem ygr(H:∀ id o,look id=some o->look' id=some o){op:Op}(h:sopB P look ρ op k):sopB P look' ρ op k:=by
 unfold sopB at h ⊢
 split at h
 .exact h
 .exact h
 .exact h
 .exact ykb H h
end
mutual
theorem zul{m id:Nat}(hid:m<=id):∀ {s:Sym},Sym.lo m s->za2 id s=s
 |.bp i o,h=>by simp only[Sym.lo] at h;simp only[za2];rw[if_neg (by omega)]
 |.ar i,h=>by simp only[Sym.lo] at h;simp only[za2];rw[if_neg (by omega)]
 |.ap i _ _ _,h=>by simp only[Sym.lo] at h;simp only[za2];rw[if_neg (by omega)]
 |.aS i _ _ _,h=>by simp only[Sym.lo] at h;simp only[za2];rw[if_neg (by omega)]
 |.av i _ _ _,h=>by simp only[Sym.lo] at h;simp only[za2];rw[if_neg (by omega)]
 |.yd i,h=>by simp only[Sym.lo] at h;simp only[za2];rw[if_neg (by omega)]
 |.mp i,h=>by simp only[Sym.lo] at h;simp only[za2];rw[if_neg (by omega)]
 |.tup l,h=>by simp only[Sym.lo] at h;simp only[za2];rw[zei hid h]
 |.agg l,h=>by simp only[Sym.lo] at h;simp only[za2];rw[zei hid h]
 |.fn f l,h=>by simp only[Sym.lo] at h;simp only[za2];rw[zei hid h]
 |.d _,_=>by simp only[za2]
 |.nils,_=>by simp only[za2]
 |.junk,_=>by simp only[za2]
theorem zei{m id:Nat}(hid:m<=id):∀ {l:List Sym},Sym.los m l->zby id l=l
 | [],_=>by simp only[zby]
 |s::r,h=>by simp only[Sym.los] at h;simp only[zby];rw[zul hid h.1,zei hid h.2]
end
theorem zvp{m id:Nat}(hid:m<=id){o:Obj'}(h:o.lo m):zb5 id o=o:=by
 cases o with
 |box T cells=>simp only[Obj'.lo] at h;simp only[zb5];rw[zei hid h]
 |arr T sz rows=>rfl
 |map T rows=>rfl
 |raw k cells=>simp only[Obj'.lo] at h;simp only[zb5];rw[zei hid h]
theorem zdr{id:Nat}{ob:Obj'}:∀ (l:List (Nat×Obj')) (i:Nat),zac (zbz id ob l) i=(zac l i).map (λo=>if i=id then ob else zb5 id o)
 | [],i=>rfl
 |(k,o)::r,i=>by
  simp only[zbz];by_cases H:k=i
  .subst H
   by_cases e:k=id
   .subst e;simp[zac]
   .simp[zac,e]
  .by_cases e:k=id
   .rw[if_pos e];simp only[zac];rw[if_neg H,if_neg H];exact zdr r i
   .rw[if_neg e];simp only[zac];rw[if_neg H,if_neg H];exact zdr r i
theorem zdx{α:Type}{id:Nat}{v:α}:∀ (l:List (Nat×α)) (i:Nat),zac (aset id v l) i=if i=id then some v else zac l i
 | [],i=>by
  simp only[aset,zac];by_cases e:id=i
  .subst e;simp
  .rw[if_neg e,if_neg (λh=>e h.symm)]
 |(k,u)::r,i=>by
  simp only[aset];by_cases e:k=id
  .rw[if_pos e];simp only[zac]
   by_cases h:k=i
   .subst h;subst e;simp
   .rw[if_neg h,if_neg h,if_neg (λe'=>h (by omega))]
  .rw[if_neg e];simp only[zac]
   by_cases h:k=i
   .rw[if_pos h,if_pos h,if_neg (by omega)]
   .rw[if_neg h,if_neg h];exact zdx r i
theorem zch(id:Nat):∀ (l:List (Nat×Sym)) (t:Nat),zac (zav id l) t=(zac l t).map (za2 id)
 | [],t=>rfl
 |(k,v)::r,t=>by simp only[zav,zac];split;rfl;exact zch id r t
end Go.V
namespace Go.V
variable [Dr] [Ov]
open Go.RowKit
inductive FK where
 |val (s:Sym)
 |mk (ob:Obj')
 |app (j:Nat) (src:Option Nat) (ob:Obj')
 |sto (j:Nat) (ob:Obj')
 |bst (id:Nat) (ob:Obj')
def FK.sym:FK->Sym
 |.val s=>s
 |_=>.junk
def FK.made:FK->Option Obj'
 |.mk ob=>some ob
 |.app _ _ ob=>some ob
 |_=>none
def ref:Obj'->Nat->Sym
 |.box _ _,id=>.bp id 0
 |.arr _ _ _,id=>.ar id
 |.map _ _,id=>.mp id
 |.raw _ _,id=>.bp id 0
def zq7(all:List Oper):Nat->Nat->Nat->Bool
 |0,_,_=>false
 |f+1,m,i=>match all[m]? with
  |some y=>bound y i ||(y.after.toList.any λe=>Region.binds .any e&&zq7 all f e.on i)
  |none=>false
structure Seg where
 all:List Oper
 lo:Nat
 hi:Nat
 ks:List FK
 st0:St
 own0:Nat->List (Nat×Obj')
namespace Seg
def kd(S:Seg)(i:Nat):Option FK:=if S.lo<=i/\i<S.hi then S.ks[i-S.lo]? else none
def co(S:Seg)(i t:Nat)(ob:Obj'):Prop:=∃ o k,S.all[i]?=some o/\S.kd i=some k/\o.dst=some t/\k.made=some ob
def U(S:Seg)(t:Nat):Prop:=∃ i ob,S.co i t ob
def user(S:Seg)(t m:Nat):Prop:=∃ o k,S.all[m]?=some o/\S.kd m=some k/\t∈tmpsOf S.all o
def sti(S:Seg)(i:Nat):St:=puts ((S.all.drop S.lo).take (i-S.lo)) ((S.ks.map FK.sym).take (i-S.lo)) {S.st0 with own:=S.own0 i}
def Dep(S:Seg)(i m:Nat):Prop:=∃ f,zq7 S.all f m i=true
def Live(S:Seg)(L:Nat->Prop)(t:Nat)(ob:Obj'):Prop:=
 (∃ i,S.co i t ob/\L i/\∀ m,S.user t m->¬L m)\/(∃ i ob0 m,S.co i t ob0/\L i/\L m/\S.user t m/\S.kd m=some (.sto t ob))
end Seg
def zjo:Obj'->Prop
 |.arr _ _ _=>True
 |_=>False
def zmw:Obj'->Prop
 |.box _ _=>True
 |_=>False
def Knows(S:Seg)(i:Nat)(o:Oper)(st:St):Prop:=st.n=S.st0.n/\∀ x∈o.op.operands,(S.sti i).val x≠.junk->st.val x=(S.sti i).val x
def yos(P:Program)(S:Seg)(i:Nat)(o:Oper):FK->Prop
 |.val s=>(∀ t∈tmpsOf S.all o,¬S.U t)/\DStep P S.all o (S.sti i) s/\Sym.lo S.st0.next s
 |.mk ob=>o.guard=none/\(∃ t,o.dst=some t)/\(∀ t∈tmpsOf S.all o,¬S.U t)/\ob.lo S.st0.next /\
   ∀ (st:St) (K:St->Prop),Knows S i o st->K ((st.new ob).put o.dst (ref ob st.next))->dop P o st K
 |.app j src ob=>o.guard=none/\(∃ t,o.dst=some t)/\(∀ t∈tmpsOf S.all o,S.U t->t=j\/src=some t)/\j∈tmpsOf S.all o/\(∀ k,src=some k->k≠j/\k∈tmpsOf S.all o)/\ob.lo S.st0.next/\zjo ob /\
   ∃ oj ok,(∃ c,S.co c j oj)/\zjo oj/\(∀ k,src=some k->(∃ c,S.co c k ok)/\zjo ok) /\
   ∀ (st:St) (K:St->Prop) (id:Nat),Knows S i o st->st.val (.tmp j) = .ar id->st.look id=some oj->(∀ k,src=some k->∃ id',id'≠id/\st.val (.tmp k) = .ar id'/\st.look id'=some ok) ->
    K ((st.renew id ob).put o.dst (.ar id))->dop P o st K
 |.sto j ob=>o.guard=none/\o.dst=none/\(∀ t∈tmpsOf S.all o,S.U t->t=j)/\j∈tmpsOf S.all o/\ob.lo S.st0.next/\zmw ob/\∃ oj,(∃ c,S.co c j oj)/\zmw oj /\
   ∀ (st:St) (K:St->Prop) (id:Nat),Knows S i o st->st.val (.tmp j) = .bp id 0->st.look id=some oj->K {st with own:=aset id ob st.own}->dop P o st K
 |.bst id ob=>o.guard=none/\o.dst=none/\(∀ t∈tmpsOf S.all o,¬S.U t)/\ob.lo S.st0.next/\∃ o0,zac S.st0.own id=some o0 /\
   ∀ (st:St) (K:St->Prop),Knows S i o st->st.look id=some o0->K {st with own:=aset id ob st.own}->dop P o st K
structure SegOk(P:Program)(S:Seg):Prop where
 ok:zb7 S.all=true
 len:S.lo<=S.hi/\S.hi<=S.all.length/\S.ks.length=S.hi-S.lo
 uniq:∀ t m m',S.U t->S.user t m->S.user t m'->m=m'
 after:∀ i t ob m,S.co i t ob->S.user t m->i<m
 bstu:∀ i j id ob ob',S.kd i=some (.bst id ob)->S.kd j=some (.bst id ob')->i=j
 own0:∀ i id o,zac (S.own0 i) id=some o->zac S.st0.own id=some o/\∀ m ob,S.kd m=some (.bst id ob)->S.Dep i m
 step:∀ i o k,S.all[i]?=some o->S.kd i=some k->dstB o.dst S.st0.n=true/\yos P S i o k
structure StLo(st:St):Prop where
 own:∀ id o,zac st.own id=some o->id<st.next/\o.lo st.next
 slots:∀ t s,zac st.slots t=some s->Sym.lo st.next s
def Hold(S:Seg)(st:St)(ν:Nat->Nat)(t:Nat)(ob:Obj'):Prop:=S.st0.next<=ν t/\ν t<st.next/\zac st.slots t=some (ref ob (ν t))/\zac st.own (ν t)=some ob
structure Desc(S:Seg)(L:Nat->Prop)(st:St)(ν:Nat->Nat):Prop where
 n:st.n=S.st0.n
 base:st.base=S.st0.base
 next:S.st0.next<=st.next
 moved:∀ id,id<S.st0.next->id∈st.moved->id∈S.st0.moved
 own:∀ id o,zac S.st0.own id=some o->(∀ i ob,S.kd i=some (.bst id ob)->¬L i)->zac st.own id=some o
 bst:∀ id i ob,S.kd i=some (.bst id ob)->L i->zac st.own id=some ob
 vals:∀ i o t s,S.all[i]?=some o->L i->S.kd i=some (.val s)->o.dst=some t->zac st.slots t=some s
 rest:∀ t s,zac S.st0.slots t=some s->(∀ i o k,S.all[i]?=some o->L i->S.kd i=some k->o.dst≠some t)->zac st.slots t=some s
 live:∀ t ob,S.Live L t ob->Hold S st ν t ob
 inj:∀ t t' ob ob',S.Live L t ob->S.Live L t' ob'->ν t=ν t'->t=t'
def lst(Lb:Array Bool)(i:Nat):Prop:=Lb.getD i true=true
theorem zd2{Lb:Array Bool}{i j:Nat}(hi:i<Lb.size):lst (Lb.setIfInBounds i true) j↔j=i\/lst Lb j:=by
 unfold lst
 by_cases e:j=i
 .subst e;simp[Array.getD,hi]
 .by_cases H:j<Lb.size
  .simp[Array.getD,H,Array.getElem_setIfInBounds,Ne.symm e,e]
  .simp[Array.getD,H,e]
theorem zev{Lb:Array Bool}{i:Nat}(h:Lb.getD i false=true):lst Lb i:=by
 unfold lst
 by_cases H:i<Lb.size
 .simp[Array.getD,H] at h ⊢;exact h
 .simp[Array.getD,H] at h
theorem Seg.zko{S:Seg}{i:Nat}{k:FK}(h:S.kd i=some k):S.lo<=i/\i<S.hi:=by
 unfold Seg.kd at h
 split at h
 .assumption
 .cases h
theorem Seg.z9g{S:Seg}(F:S.lo<=S.hi/\S.hi<=S.all.length/\S.ks.length=S.hi-S.lo){i t:Nat}{s:Sym}(hi:S.lo<=i/\i<=S.hi)(h:zac (S.sti i).slots t=some s):
  (∃ j o k,S.all[j]?=some o/\S.kd j=some k/\j<i/\k.sym=s/\o.dst=some t)\/((∀ j o,S.all[j]?=some o->S.lo<=j->j<i->o.dst≠some t)/\zac S.st0.slots t=some s):=by
 unfold Seg.sti at h
 have H:((S.all.drop S.lo).take (i-S.lo)).length=((S.ks.map FK.sym).take (i-S.lo)).length:=by simp;omega
 rcases zok (st:={S.st0 with own:=S.own0 i}) (t:=t) H with⟨j,o,s',E,h2,K,J⟩ | ⟨E,h2⟩
 .rw[J] at h;cases h
  have L:j<i-S.lo:=by
   rcases Nat.lt_or_ge j (i-S.lo) with h | h
   .exact h
   .rw[List.getElem?_take,if_neg (by omega)] at E;cases E
  rw[List.getElem?_take,if_pos L,List.getElem?_drop] at E;rw[List.getElem?_take,if_pos L,List.getElem?_map] at h2;cases M:S.ks[j]? with
  |none=>rw[M] at h2;cases h2
  |some k=>
   rw[M] at h2;simp at h2;refine .inl ⟨S.lo+j,o,k,E,?_,by omega,h2,K⟩
   unfold Seg.kd;rw[if_pos (by omega)]
   have:S.lo+j-S.lo=j:=by omega
   rw[this];exact M
 .rw[h2] at h
  refine .inr ⟨λj o L G hl2=>E (j-S.lo) o ?_,h⟩
  rw[List.getElem?_take,if_pos (by omega),List.getElem?_drop]
  have:S.lo+(j-S.lo)=j:=by omega
  rw[this];exact L
theorem yot{ob:Obj'}{id m:Nat}(h:id<m):Sym.lo m (ref ob id):=by cases ob <;> simpa[ref,Sym.lo] using h
theorem ygs{ob:Obj'}{id i:Nat}(h:i≠id):za2 id (ref ob i)=ref ob i:=by cases ob <;> simp[ref,za2,h]
section
variable {P:Program} {X:Nat->Prop} {w0:Base} {st:St} {β:Nat->Value} {a:Act} {w w':World} {S:Seg} {ν:Nat->Nat} {Lb:Array Bool} {i:Nat} {o:Oper} {k:FK}
structure Here(P:Program)(S:Seg)(Lb:Array Bool)(i:Nat)(o:Oper)(k:FK):Prop where
 sok:SegOk P S
 slo:StLo S.st0
 size:Lb.size=S.all.length
 down:∀ j y,S.all[j]?=some y->lst Lb j->∀ e∈y.after.toList,Region.binds .any e=true->Lb.getD e.on false=true
 at_:S.all[i]?=some o
 kind:S.kd i=some k
 not_:¬lst Lb i
 ready:∀ e∈o.after.toList,Region.binds .any e=true->Lb.getD e.on false=true
theorem Here.lt(h:Here P S Lb i o k):i<Lb.size:=by rw[h.size];exact(List.getElem?_eq_some_iff.1 h.at_).1
theorem Here.before(h:Here P S Lb i o k){j t:Nat}{y:Oper}(F:S.all[j]?=some y)(H:j<i)(E:y.dst=some t)(K:t∈tmpsOf S.all o):lst Lb j:=by
 obtain⟨e,J,L,G⟩:=zfw (((zcg h.sok.ok F h.at_ H).1 t E).1 K)
 have:=h.ready e J L
 rw[G] at this;exact zev this
theorem Here.later(h:Here P S Lb i o k){j t:Nat}{y:Oper}(F:S.all[j]?=some y)(H:i<j)(E:y.dst=some t)(K:t∈tmpsOf S.all o):¬lst Lb j:=by
 intro J
 obtain⟨e,L,M,G⟩:=zfw ((zcg h.sok.ok h.at_ F H).2 t E K)
 have:=h.down j y F J e L M
 rw[G] at this;exact h.not_ (zev this)
theorem Here.readers(h:Here P S Lb i o k){t m:Nat}{ob:Obj'}(F:S.co i t ob)(E:S.user t m):¬lst Lb m:=by
 intro K
 have H:=h.sok.after i t ob m F E
 obtain⟨o',k',J,h2,L,M⟩:=F
 rw[h.at_] at J;cases J
 obtain⟨y,k2,O,_,Q⟩:=E
 obtain⟨e,T,V,G⟩:=zfw (((zcg h.sok.ok h.at_ O H).1 t L).1 Q)
 have:=h.down m y O K e T V
 rw[G] at this;exact h.not_ (zev this)
theorem Here.dsts(h:Here P S Lb i o k){j t:Nat}{y:Oper}(G:S.all[j]?=some y)(H:j≠i)(F:o.dst=some t):y.dst≠some t:=by
 rcases Nat.lt_or_gt_of_ne H with E | E
 .exact λe=>((zcg h.sok.ok G h.at_ E).1 t e).2 F
 .exact((zcg h.sok.ok h.at_ G E).1 t F).2
theorem Here.opnd(h:Here P S Lb i o k)(H:Desc S (lst Lb) st ν){t:Nat}(G:t∈tmpsOf S.all o){s:Sym}(hs:zac (S.sti i).slots t=some s)(F:s≠.junk):zac st.slots t=some s:=by
 rcases S.z9g h.sok.len ⟨(S.zko h.kind).1,Nat.le_of_lt (S.zko h.kind).2⟩ hs with⟨j,y,k',E,h2,K,J,L⟩ | ⟨E,h2⟩
 .cases k' <;> simp only[FK.sym] at J <;> first | exact absurd J.symm F | skip
  subst J;exact H.vals j y t _ E (h.before E K L G) h2 L
 .refine H.rest t s h2 λj y k' F M O Q=>?_
  rcases Nat.lt_trichotomy j i with T | T | T
  .exact E j y F (S.zko O).1 T Q
  .subst T;exact h.not_ M
  .exact h.later F T Q G M
theorem Here.knows(h:Here P S Lb i o k)(G:Desc S (lst Lb) st ν):Knows S i o st:=by
 refine⟨G.n,λx F H=>?_⟩
 cases x with
 |tmp t=>
  simp only[St.val] at H ⊢;cases hs:zac (S.sti i).slots t with
  |none=>rw[hs] at H;simp at H
  |some s=>rw[hs] at H;simp at H;rw[h.opnd G (zcv F) hs H]
 |_=>rfl
theorem Here.ygt(h:Here P S Lb i o k){t:Nat}{ob:Obj'}(J:S.Live (lst (Lb.setIfInBounds i true)) t ob):
  S.co i t ob\/(S.Live (lst Lb) t ob/\¬S.user t i/\∀ ob',¬S.co i t ob')\/(S.user t i/\S.kd i=some (.sto t ob)/\∃ ob0,S.Live (lst Lb) t ob0):=by
 have hs:=λj=>zd2 (Lb:=Lb) (i:=i) (j:=j) h.lt
 rcases J with⟨c,L,h2,M⟩ | ⟨c,ob0,m,L,h2,M,O,Q⟩
 .rcases(hs c).1 h2 with rfl | G
  .exact .inl L
  .by_cases F:∃ ob',S.co i t ob'
   .obtain⟨ob',K⟩:=F
    exfalso
    obtain⟨y,k1,e1,e2,e3,e4⟩:=L;obtain⟨y',k2,g1,g2,g3,g4⟩:=K;rw[h.at_] at g1;cases g1;by_cases E:c=i
    .exact h.not_ (E▸G)
    .exact h.dsts e1 E g3 e3
   .exact .inr (.inl ⟨.inl ⟨c,L,G,λm T J=>M m T ((hs m).2 (.inr J))⟩,λT=>M i T ((hs i).2 (.inl rfl)),λob' V=>F ⟨ob',V⟩⟩)
 .rcases(hs m).1 M with rfl | M
  .refine .inr (.inr ⟨O,Q,?_⟩)
   have H:lst Lb c:=by
    rcases(hs c).1 h2 with e | h2
    .exact absurd (h.sok.after c t ob0 _ L O) (by omega)
    .exact h2
   exact⟨ob0,.inl ⟨c,L,H,λm' T J=>h.not_ (by rw[h.sok.uniq t _ _ ⟨c,ob0,L⟩ O T];exact J)⟩⟩
  .have H:lst Lb c:=by
    rcases(hs c).1 h2 with e | h2
    .exact absurd M (h.readers (by rw[<-e];exact L) O)
    .exact h2
   refine .inr (.inl ⟨.inr ⟨c,ob0,m,L,H,M,O,Q⟩,λT=>h.not_ (by rw[h.sok.uniq t _ _ ⟨c,ob0,L⟩ T O];exact M),λob' V=>?_⟩)
   exact absurd M (h.readers V O)
end
end Go.V
namespace Go.V
variable [Dr] [Ov]
open Go.RowKit
section
variable {P:Program} {X:Nat->Prop} {w0:Base} {st:St} {β:Nat->Value} {a:Act} {w w':World} {S:Seg} {ν:Nat->Nat} {Lb:Array Bool} {i:Nat} {o:Oper} {k:FK}
theorem zew(st:St)(dst:Option Nat)(s:Sym)(u:Nat):zac (st.put dst s).slots u=if dst=some u then some s else zac st.slots u:=by
 cases dst with
 |none=>simp[St.put]
 |some t=>simp only[St.put,zac,Option.some.injEq]
theorem zy3(st:St)(dst:Option Nat)(s:Sym):(st.put dst s).own=st.own/\(st.put dst s).next=st.next/\(st.put dst s).n=st.n/\(st.put dst s).base=st.base/\(st.put dst s).moved=st.moved:=by cases dst <;> exact⟨rfl,rfl,rfl,rfl,rfl⟩
theorem Seg.Live.co{L:Nat->Prop}{t:Nat}{ob:Obj'}(h:S.Live L t ob):∃ c ob0,S.co c t ob0/\L c:=by
 rcases h with⟨c,H,h2,_⟩ | ⟨c,ob0,m,H,h2,_⟩
 .exact⟨c,ob,H,h2⟩
 .exact⟨c,ob0,H,h2⟩
theorem Here.zex(h:Here P S Lb i o k){t:Nat}{ob:Obj'}(G:S.Live (lst Lb) t ob):o.dst≠some t:=by
 obtain⟨c,ob0,⟨y,k',F,h2,E,K⟩,J⟩:=G.co
 intro L
 by_cases H:c=i
 .subst H;exact h.not_ J
 .exact h.dsts F H L E
theorem Seg.Live.lo(H:SegOk P S){L:Nat->Prop}{t:Nat}{ob:Obj'}(h:S.Live L t ob):ob.lo S.st0.next:=by
 rcases h with⟨c,⟨y,k',G,h2,F,E⟩,_⟩ | ⟨c,ob0,m,_,_,_,⟨y,k',G,h2,F⟩,E⟩
 .have:=(H.step c y k' G h2).2
  cases k' <;> simp only[FK.made] at E <;> cases E
  .exact this.2.2.2.1
  .exact this.2.2.2.2.2.1
 .rw[E] at h2;cases h2
  exact(H.step m y _ G E).2.2.2.2.2.1
theorem Here.ygu(h:Here P S Lb i o k){t:Nat}{ob:Obj'}(H:S.co i t ob):o.dst=some t/\k.made=some ob:=by
 obtain⟨y,k',G,h2,F,E⟩:=H
 rw[h.at_] at G;cases G
 rw[h.kind] at h2;cases h2
 exact⟨F,E⟩
theorem Here.ykc(h:Here P S Lb i o k){t:Nat}(H:t∈tmpsOf S.all o):S.user t i:=⟨o,k,h.at_,h.kind,H⟩
theorem Here.holds(h:Here P S Lb i o k){j:Nat}{oj:Obj'}(G:j∈tmpsOf S.all o)(F:∃ c,S.co c j oj):S.Live (lst Lb) j oj:=by
 obtain⟨c,F⟩:=F
 refine .inl ⟨c,F,?_,λm E K=>h.not_ (by rw[h.sok.uniq j _ _ ⟨c,oj,F⟩ (h.ykc G) E];exact K)⟩
 have H:=h.sok.after c j oj i F (h.ykc G)
 obtain⟨y,k',J,h2,L,M⟩:=F
 exact h.before J H L G
theorem Desc.val{s:Sym}(h:Here P S Lb i o (.val s))(K:Desc S (lst Lb) st ν)(J:∀ t∈tmpsOf S.all o,¬S.U t):Desc S (lst (Lb.setIfInBounds i true)) (st.put o.dst s) ν:=by
 have hs:=λj=>zd2 (Lb:=Lb) (i:=i) (j:=j) h.lt
 obtain⟨e1,e2,e3,e4,e5⟩:=zy3 st o.dst s
 have H:∀ t ob,S.Live (lst (Lb.setIfInBounds i true)) t ob->S.Live (lst Lb) t ob:=by
  intro t ob L;rcases h.ygt L with M | ⟨L,_⟩ | ⟨_,O,_⟩
  .have:=(h.ygu M).2;simp[FK.made] at this
  .exact L
  .rw[h.kind] at O;cases O
 refine⟨e3.trans K.n,e4.trans K.base,by rw[e2];exact K.next,by rw[e5];exact K.moved,?_,?_,?_,?_,?_,?_⟩
 .intro id o' Q h2;rw[e1];exact K.own id o' Q λj ob O L=>h2 j ob O ((hs j).2 (.inr L))
 .intro id j ob O L
  rw[e1];rcases(hs j).1 L with rfl | G
  .rw[h.kind] at O;cases O
  .exact K.bst id j ob O G
 .intro j y t s' T L O V
  rw[zew];rcases(hs j).1 L with rfl | G
  .rw[h.at_] at T;cases T;rw[h.kind] at O;cases O
   rw[if_pos V]
  .rw[if_neg]
   .exact K.vals j y t s' T G O V
   .intro E
    exact h.dsts T (λe=>h.not_ (e▸G)) E V
 .intro t s' Q h2
  rw[zew,if_neg (λV=>h2 i o _ h.at_ ((hs i).2 (.inl rfl)) h.kind V)]
  exact K.rest t s' Q λj y k' T L O=>h2 j y k' T ((hs j).2 (.inr L)) O
 .intro t ob L
  have F:=H t ob L;obtain⟨q1,q2,q3,q4⟩:=K.live t ob F;exact⟨q1,by rw[e2];exact q2,by rw[zew,if_neg (h.zex F)];exact q3,by rw[e1];exact q4⟩
 .exact λt t' ob ob' Q h2=>K.inj t t' ob ob' (H t ob Q) (H t' ob' h2)
theorem Desc.mk'{ob:Obj'}(h:Here P S Lb i o (.mk ob))(O:Desc S (lst Lb) st ν):Desc S (lst (Lb.setIfInBounds i true)) ((st.new ob).put o.dst (ref ob st.next)) (λu=>if o.dst=some u then st.next else ν u):=by
 have hs:=λj=>zd2 (Lb:=Lb) (i:=i) (j:=j) h.lt
 obtain⟨e1,e2,e3,e4,e5⟩:=zy3 (st.new ob) o.dst (ref ob st.next)
 have H:∀ t ob',S.Live (lst (Lb.setIfInBounds i true)) t ob'->(o.dst=some t/\ob'=ob)\/S.Live (lst Lb) t ob':=by
  intro t ob' Q;rcases h.ygt Q with T | ⟨Q,_⟩ | ⟨_,V,_⟩
  .have:=h.ygu T;simp[FK.made] at this;exact .inl ⟨this.1,this.2.symm⟩
  .exact .inr Q
  .rw[h.kind] at V;cases V
 have F:∀ id o',id≠st.next->zac st.own id=some o'->zac ((st.new ob).put o.dst (ref ob st.next)).own id=some o':=by
  intro id o' L X;rw[e1];simp only[St.new,zac];rw[if_neg (Ne.symm L)];exact X
 refine⟨e3.trans O.n,e4.trans O.base,by rw[e2];exact Nat.le_succ_of_le O.next,by rw[e5];exact O.moved,?_,?_,?_,?_,?_,?_⟩
 .intro id o' Y h2
  exact F id o' (by have:=(h.slo.own id o' Y).1;have:=O.next;omega) (O.own id o' Y λj ob V Q=>h2 j ob V ((hs j).2 (.inr Q)))
 .intro id j ob' V Q
  rcases(hs j).1 Q with rfl | J
  .rw[h.kind] at V;cases V
  .have Z:=(S.zko V)
   obtain⟨y,A⟩:∃ y,S.all[j]?=some y:=⟨_,List.getElem?_eq_getElem (by have:=h.sok.len;omega)⟩
   obtain⟨o0,M,_⟩:=((h.sok.step j y _ A V).2).2.2.2.2;exact F id ob' (by have:=(h.slo.own id o0 M).1;have:=O.next;omega) (O.bst id j ob' V J)
 .intro j y t s' B Q V C
  rw[zew];rcases(hs j).1 Q with rfl | J
  .rw[h.kind] at V;cases V
  .rw[if_neg]
   .exact O.vals j y t s' B J V C
   .intro K
    exact h.dsts B (λe=>h.not_ (e▸J)) K C
 .intro t s' Y h2
  rw[zew,if_neg (λC=>h2 i o _ h.at_ ((hs i).2 (.inl rfl)) h.kind C)]
  exact O.rest t s' Y λj y k' B Q V=>h2 j y k' B ((hs j).2 (.inr Q)) V
 .intro t ob' Q
  rcases H t ob' Q with⟨C,rfl⟩ | E
  .refine⟨by simp only[if_pos C];exact O.next,by simp only[if_pos C];rw[e2];exact Nat.lt_succ_self _,?_,?_⟩
   .rw[zew,if_pos C];simp only[if_pos C]
   .simp only[if_pos C];rw[e1];simp[St.new,zac]
  .have G:=h.zex E
   obtain⟨q1,q2,q3,q4⟩:=O.live t ob' E;refine⟨by simp only[if_neg G];exact q1,by simp only[if_neg G];rw[e2];exact Nat.lt_succ_of_lt q2,?_,?_⟩
   .rw[zew,if_neg G];simp only[if_neg G];exact q3
   .simp only[if_neg G];exact F _ _ (by omega) q4
 .intro t t' o1 o2 Y h2 he
  rcases H t o1 Y with⟨C,rfl⟩ | Q <;> rcases H t' o2 h2 with⟨K,rfl⟩ | E
  .rw[C] at K;cases K;rfl
  .have G:=h.zex E
   simp only[if_pos C,if_neg G] at he;have:=(O.live t' o2 E).2.1;omega
  .have G:=h.zex Q
   simp only[if_pos K,if_neg G] at he;have:=(O.live t o1 Q).2.1;omega
  .simp only[if_neg (h.zex Q),if_neg (h.zex E)] at he
   exact O.inj t t' o1 o2 Q E he
theorem Desc.app{j:Nat}{src:Option Nat}{ob oj:Obj'}(h:Here P S Lb i o (.app j src ob))(A:Desc S (lst Lb) st ν)(B:j∈tmpsOf S.all o)(C:∃ c,S.co c j oj)(Y:zjo ob):
  Desc S (lst (Lb.setIfInBounds i true)) ((st.renew (ν j) ob).put o.dst (.ar (ν j))) (λu=>if o.dst=some u then ν j else ν u):=by
 have hs:=λj=>zd2 (Lb:=Lb) (i:=i) (j:=j) h.lt
 have O:=h.holds B C
 obtain⟨p1,p2,p3,p4⟩:=A.live j oj O
 obtain⟨e1,e2,e3,e4,e5⟩:=zy3 (st.renew (ν j) ob) o.dst (.ar (ν j))
 have H:∀ t ob',S.Live (lst (Lb.setIfInBounds i true)) t ob'->(o.dst=some t/\ob'=ob)\/(S.Live (lst Lb) t ob'/\t≠j):=by
  intro t ob' I;rcases h.ygt I with C | ⟨I,N,_⟩ | ⟨_,W,_⟩
  .have:=h.ygu C;simp[FK.made] at this;exact .inl ⟨this.1,this.2.symm⟩
  .exact .inr ⟨I,λe=>N (e▸h.ykc B)⟩
  .rw[h.kind] at W;cases W
 have E:∀ id o',id≠ν j->o'.lo S.st0.next->zac st.own id=some o'->zac ((st.renew (ν j) ob).put o.dst (.ar (ν j))).own id=some o':=by
  intro id o' J K ho;rw[e1];simp only[St.renew];rw[zdr,ho];simp only[Option.map_some];rw[if_neg J,zvp p1 K]
 have F:∀ t s,o.dst≠some t->Sym.lo S.st0.next s->zac st.slots t=some s->zac ((st.renew (ν j) ob).put o.dst (.ar (ν j))).slots t=some s:=by
  intro t s hd K hs;rw[zew,if_neg hd];simp only[St.renew];rw[zch,hs];simp only[Option.map_some];rw[zul p1 K]
 refine⟨e3.trans A.n,e4.trans A.base,by rw[e2];exact A.next,?_,?_,?_,?_,?_,?_,?_⟩
 .intro id hid hm
  rw[e5] at hm;simp only[St.renew] at hm;rcases List.mem_cons.1 hm with e | hm
  .omega
  .exact A.moved id hid hm
 .intro id o' h1 h2
  have K:=h.slo.own id o' h1;exact E id o' (by omega) K.2 (A.own id o' h1 λj ob W I=>h2 j ob W ((hs j).2 (.inr I)))
 .intro id j' ob' W I
  rcases(hs j').1 I with rfl | Q
  .rw[h.kind] at W;cases W
  .have hb:=(S.zko W)
   obtain⟨y,hy⟩:∃ y,S.all[j']?=some y:=⟨_,List.getElem?_eq_getElem (by have:=h.sok.len;omega)⟩
   obtain⟨_,_,_,T,o0,Z,_⟩:=(h.sok.step j' y _ hy W).2;exact E id ob' (by have:=(h.slo.own id o0 Z).1;omega) T (A.bst id j' ob' W Q)
 .intro j' y t s' V I W hd
  rcases(hs j').1 I with rfl | Q
  .rw[h.kind] at W;cases W
  .have K:=((h.sok.step j' y _ V W).2).2.2
   exact F t s' (λL=>h.dsts V (λe=>h.not_ (e▸Q)) L hd) K (A.vals j' y t s' V Q W hd)
 .intro t s' h1 h2
  exact F t s' (λhd=>h2 i o _ h.at_ ((hs i).2 (.inl rfl)) h.kind hd) (h.slo.slots t s' h1) (A.rest t s' h1 λj y k' B I W=>h2 j y k' B ((hs j).2 (.inr I)) W)
 .intro t ob' I
  rcases H t ob' I with⟨hd,rfl⟩ | ⟨G,J⟩
  .refine⟨by simp only[if_pos hd];exact p1,by simp only[if_pos hd];rw[e2];exact p2,?_,?_⟩
   .rw[zew,if_pos hd];simp only[if_pos hd]
    cases ob' <;> simp only[zjo] at Y <;> rfl
   .simp only[if_pos hd];rw[e1];simp only[St.renew];rw[zdr,p4];simp
  .have M:=h.zex G
   obtain⟨q1,q2,q3,q4⟩:=A.live t ob' G;have hνne:ν t≠ν j:=λe=>J (A.inj t j ob' oj G O e)
   refine⟨by simp only[if_neg M];exact q1,by simp only[if_neg M];rw[e2];exact q2,?_,?_⟩
   .rw[zew,if_neg M];simp only[if_neg M,St.renew];rw[zch,q3];simp only[Option.map_some];rw[ygs hνne]
   .simp only[if_neg M];exact E _ _ hνne (G.lo h.sok) q4
 .intro t t' o1 o2 h1 h2 he
  rcases H t o1 h1 with⟨hd,rfl⟩ | ⟨I,J⟩ <;> rcases H t' o2 h2 with⟨L,rfl⟩ | ⟨G,X⟩
  .rw[hd] at L;cases L;rfl
  .simp only[if_pos hd,if_neg (h.zex G)] at he
   exact absurd (A.inj t' j o2 oj G O he.symm) X
  .simp only[if_pos L,if_neg (h.zex I)] at he
   exact absurd (A.inj t j o1 oj I O he) J
  .simp only[if_neg (h.zex I),if_neg (h.zex G)] at he
   exact A.inj t t' o1 o2 I G he
theorem Desc.sto{j:Nat}{ob oj:Obj'}(h:Here P S Lb i o (.sto j ob))(X:Desc S (lst Lb) st ν)(T:o.dst=none)(Y:j∈tmpsOf S.all o)(Z:∃ c,S.co c j oj)(A:zmw ob)(L:zmw oj):
  Desc S (lst (Lb.setIfInBounds i true)) {st with own:=aset (ν j) ob st.own} ν:=by
 have hs:=λj=>zd2 (Lb:=Lb) (i:=i) (j:=j) h.lt
 have F:=h.holds Y Z
 obtain⟨p1,p2,p3,p4⟩:=X.live j oj F
 have H:∀ t ob',S.Live (lst (Lb.setIfInBounds i true)) t ob'->(t=j/\ob'=ob)\/(S.Live (lst Lb) t ob'/\t≠j):=by
  intro t ob' B;rcases h.ygt B with Z | ⟨B,C,_⟩ | ⟨_,I,_⟩
  .have:=h.ygu Z;simp[FK.made] at this
  .exact .inr ⟨B,λe=>C (e▸h.ykc Y)⟩
  .rw[h.kind] at I;cases I;exact .inl ⟨rfl,rfl⟩
 have G:∀ id o',id≠ν j->zac st.own id=some o'->zac (aset (ν j) ob st.own) id=some o':=by
  intro id o' E N;rw[zdx,if_neg E];exact N
 refine⟨X.n,X.base,X.next,X.moved,?_,?_,?_,?_,?_,?_⟩
 .intro id o' W h2
  have V:=h.slo.own id o' W;exact G id o' (by omega) (X.own id o' W λj ob I B=>h2 j ob I ((hs j).2 (.inr B)))
 .intro id j' ob' I B
  rcases(hs j').1 B with rfl | K
  .rw[h.kind] at I;cases I
  .have A:=(S.zko I)
   obtain⟨y,hy⟩:∃ y,S.all[j']?=some y:=⟨_,List.getElem?_eq_getElem (by have:=h.sok.len;omega)⟩
   obtain⟨_,_,_,M,o0,O,_⟩:=(h.sok.step j' y _ hy I).2;exact G id ob' (by have:=(h.slo.own id o0 O).1;omega) (X.bst id j' ob' I K)
 .intro j' y t s' Q B I hd
  rcases(hs j').1 B with rfl | K
  .rw[h.kind] at I;cases I
  .exact X.vals j' y t s' Q K I hd
 .intro t s' W h2
  exact X.rest t s' W λj y k' Y B I=>h2 j y k' Y ((hs j).2 (.inr B)) I
 .intro t ob' B
  rcases H t ob' B with⟨rfl,rfl⟩ | ⟨J,E⟩
  .refine⟨p1,p2,?_,by show zac (aset _ _ _) _=_;rw[zdx,if_pos rfl]⟩
   show zac st.slots _=_
   rw[p3];cases oj <;> simp only[zmw] at L
   cases ob' <;> simp only[zmw] at A
   rfl
  .obtain⟨q1,q2,q3,q4⟩:=X.live t ob' J
   have hνne:ν t≠ν j:=λe=>E (X.inj t j ob' oj J F e)
   exact⟨q1,q2,q3,G _ _ hνne q4⟩
 .intro t t' o1 o2 W h2 he
  have e1:∃ o,S.Live (lst Lb) t o:=by
   rcases H t o1 W with⟨rfl,_⟩ | ⟨B,_⟩
   .exact⟨oj,F⟩
   .exact⟨o1,B⟩
  have e2:∃ o,S.Live (lst Lb) t' o:=by
   rcases H t' o2 h2 with⟨rfl,_⟩ | ⟨B,_⟩
   .exact⟨oj,F⟩
   .exact⟨o2,B⟩
  obtain⟨_,e1⟩:=e1;obtain⟨_,e2⟩:=e2;exact X.inj t t' _ _ e1 e2 he
theorem Desc.bst'{id:Nat}{ob o0:Obj'}(h:Here P S Lb i o (.bst id ob))(J:Desc S (lst Lb) st ν)(K:o.dst=none)(F:zac S.st0.own id=some o0):
  Desc S (lst (Lb.setIfInBounds i true)) {st with own:=aset id ob st.own} ν:=by
 have hs:=λj=>zd2 (Lb:=Lb) (i:=i) (j:=j) h.lt
 have hid:=(h.slo.own id o0 F).1
 have H:∀ t ob',S.Live (lst (Lb.setIfInBounds i true)) t ob'->S.Live (lst Lb) t ob':=by
  intro t ob' L;rcases h.ygt L with M | ⟨L,O,_⟩ | ⟨_,Q,_⟩
  .have:=h.ygu M;simp[FK.made] at this
  .exact L
  .rw[h.kind] at Q;cases Q
 refine⟨J.n,J.base,J.next,J.moved,?_,?_,?_,?_,?_,?_⟩
 .intro id' o' T h2
  show zac (aset id ob st.own) id'=some o'
  rw[zdx,if_neg (λe=>h2 i ob (by rw[e];exact h.kind) ((hs i).2 (.inl rfl)))]
  exact J.own id' o' T λj ob Q L=>h2 j ob Q ((hs j).2 (.inr L))
 .intro id' j' ob' Q L
  show zac (aset id ob st.own) id'=some ob'
  rcases(hs j').1 L with rfl | G
  .rw[h.kind] at Q;cases Q;rw[zdx,if_pos rfl]
  .rw[zdx,if_neg (λe=>by subst e;exact h.not_ (by rw[h.sok.bstu i j' _ ob ob' h.kind Q];exact G))]
   exact J.bst id' j' ob' Q G
 .intro j' y t s' E L Q hd
  rcases(hs j').1 L with rfl | G
  .rw[h.kind] at Q;cases Q
  .exact J.vals j' y t s' E G Q hd
 .intro t s' T h2
  exact J.rest t s' T λj y k' V L Q=>h2 j y k' V ((hs j).2 (.inr L)) Q
 .intro t ob' L
  obtain⟨q1,q2,q3,q4⟩:=J.live t ob' (H t ob' L);exact⟨q1,q2,q3,by show zac (aset id ob st.own) _=_;rw[zdx,if_neg (by omega)];exact q4⟩
 .exact λt t' o1 o2 T h2 he=>J.inj t t' o1 o2 (H t o1 T) (H t' o2 h2) he
theorem zum(G:Mods X w0 st β a w){t:Nat}{b:Bool}(h:zac st.slots t=some (.d (.bool b))):a.tmps[t]?=some (.bool b):=by
 obtain⟨_,hs⟩:=G.slots t _ h
 simp only[Sm,R] at hs
 by_cases H:t<a.tmps.size
 .rw[Array.getElem?_eq_getElem H]
  simp[H] at hs;rw[hs]
 .rw[show a.tmps.getD t undef=undef by simp[H]] at hs;simp[undef] at hs
theorem zha{ops:Array Oper}{tmps:Array Value}{j t:Nat}{b:Bool}(h:(ops[j]?).bind (·.dst)=some t)(H:tmps[t]?=some (.bool b)):yielded ops tmps j=some b:=by
 unfold yielded
 rw[h]
 simp[H]
theorem ym6{b c:Bool}(h:¬b=c):b = !c:=by cases b <;> cases c <;> simp_all
theorem zp0{all:List Oper}(H:∀ j y,all[j]?=some y->lst Lb j->∀ e∈y.after.toList,Region.binds .any e=true->Lb.getD e.on false=true):∀ (f:Nat) {m i:Nat},lst Lb m->zq7 all f m i=true->lst Lb i
 |0,m,i,_,h=>by cases h
 |f+1,m,i,G,h=>by
  simp only[zq7] at h;split at h
  .rename_i y F
   rw[Bool.or_eq_true] at h;rcases h with h | h
   .unfold bound at h
    obtain⟨e,E,K⟩:=List.any_eq_true.1 h;rw[Bool.and_eq_true,beq_iff_eq] at K;have:=H m y F G e E K.1
    rw[K.2] at this;exact zev this
   .obtain⟨e,E,K⟩:=List.any_eq_true.1 h
    rw[Bool.and_eq_true] at K;exact zp0 H f (zev (H m y F G e E K.1)) K.2
  .cases h
theorem ykd(h:Here P S Lb i o k)(hm:Mods X w0 st β a w)(hD:Desc S (lst Lb) st ν){N:Act->World->Prop}{Q:Exit->Act->World->Prop}
  (hN:∀ a' w' st' β' ν',Mods X w0 st' β' a' w'->Desc S (lst (Lb.setIfInBounds i true)) st' ν'->N a' w'):wpOp P S.all.toArray Q i N a w:=by
 obtain⟨H4,H⟩:=h.sok.step i o k h.at_ h.kind
 have H5:S.all.toArray[i]?=some o:=by simpa using h.at_
 unfold wpOp
 rw[H5]
 simp only
 have W:∀ t,o.dst=some t->t<st.n:=by rw[hD.n];exact zbq H4
 cases k with
 |mk ob=>
  obtain⟨hg,_,_,_,G⟩:=H;simp only[Region.wanted,hg,if_true];exact .inl (zc4 hm (K:=λst'=>st'=(st.new ob).put o.dst (ref ob st.next)) (G st _ (h.knows hD) rfl) N Q λa' w' st' β' e F=>by subst e;exact hN _ _ _ _ _ F (hD.mk' h))
 |app j src ob=>
  obtain⟨hg,_,hU,hj,O,_,H6,oj,ok,J,T,H7,G⟩:=H;simp only[Region.wanted,hg,if_true];obtain⟨p1,p2,p3,p4⟩:=hD.live j oj (h.holds hj J);refine .inl (zc4 hm (K:=λst'=>st'=(st.renew (ν j) ob).put o.dst (.ar (ν j))) (G st _ (ν j) (h.knows hD) ?_ p4 ?_ rfl) N Q λa' w' st' β' e F=>by subst e;exact hN _ _ _ _ _ F (hD.app h hj J H6))
  .simp only[St.val,p3,Option.getD_some]
   cases oj <;> simp only[zjo] at T;rfl
  .intro k hk
   obtain⟨H8,H9⟩:=O k hk;obtain⟨Ha,V⟩:=H7 k hk;have H0:=h.holds H9 Ha;obtain⟨q1,q2,q3,q4⟩:=hD.live k ok H0;refine⟨ν k,λe=>H8 (hD.inj k j ok oj H0 (h.holds hj J) e),?_,q4⟩
   simp only[St.val,q3,Option.getD_some];cases ok <;> simp only[zjo] at V;rfl
 |sto j ob=>
  obtain⟨hg,Y,hU,hj,_,hb,oj,J,H1,G⟩:=H;simp only[Region.wanted,hg,if_true];obtain⟨p1,p2,p3,p4⟩:=hD.live j oj (h.holds hj J);refine .inl (zc4 hm (K:=λst'=>st' = {st with own:=aset (ν j) ob st.own}) (G st _ (ν j) (h.knows hD) ?_ p4 rfl) N Q λa' w' st' β' e F=>by subst e;exact hN _ _ _ _ _ F (hD.sto h Y hj J hb H1))
  simp only[St.val,p3,Option.getD_some];cases oj <;> simp only[zmw] at H1;rfl
 |bst id ob=>
  obtain⟨hg,Y,hU,_,o0,H2,G⟩:=H;simp only[Region.wanted,hg,if_true];have Z:st.look id=some o0:=hD.own id o0 H2 λj ob' hk hl=>h.not_ (by rw[h.sok.bstu i j id ob ob' h.kind hk];exact hl)
  exact .inl (zc4 hm (K:=λst'=>st' = {st with own:=aset id ob st.own}) (G st _ (h.knows hD) Z rfl) N Q λa' w' st' β' e F=>by subst e;exact hN _ _ _ _ _ F (hD.bst' h Y H2))
 |val s=>
  obtain⟨hU,H,A⟩:=H;let st':St:={st with slots:=seen S.all o (S.sti i)}
  have F:Mods X w0 st' β a w:=by
   refine⟨hm.outer,hm.still,hm.one,hm.defers,hm.size,hm.below,hm.keys,hm.own,hm.apart,?_⟩
   intro t s' ht;obtain⟨q1,q2⟩:=zfv ht;by_cases hj:s' = .junk
   .subst hj;exact⟨by simp[Sym.lo],by simp[Sm]⟩
   .exact hm.slots t s' (h.opnd hD q1 q2 hj)
  have B:∀ x∈o.op.operands,(S.sti i).val x=st'.val x:=by
   intro x Hb;cases x with
   |tmp t=>
    simp only[St.val];have C:t∈tmpsOf S.all o:=zcv Hb
    cases hl:zac (S.sti i).slots t with
    |some s'=>rw[show zac st'.slots t=some s' from zol C hl]
    |none=>
     cases I:zac st'.slots t with
     |none=>rfl
     |some s'=>have:=(zfv I).2;rw[hl] at this;cases this
   |_=>rfl
  have L:∀ id ob,(S.sti i).look id=some ob->st'.look id=some ob:=by
   intro id ob hl;have I:zac (S.own0 i) id=some ob:=by
    have e:(S.sti i).own=S.own0 i:=(zg9 _ _ _).1
    simp only[St.look,e] at hl;exact hl
   obtain⟨h1,h2⟩:=h.sok.own0 i id ob I;exact hD.own id ob h1 λj ob' hk hl=>by
    obtain⟨f,hf⟩:=h2 j ob' hk;exact h.not_ (zp0 h.down f hl hf)
  have M:(opD (S.sti i).val o.op=true/\sopB P (S.sti i).look (S.sti i).val o.op (λs'=>s'=s))->o.wp P a w N Q:=by
   intro⟨h1,h2⟩;have h3:=ygr L (zuh B h2);refine zfb F o h3 N Q λs' v w' e hl hb Hc=>?_
   subst e;exact hN _ _ _ _ _ (hm.put hb W (Sym.ze9 hD.next A) Hc) (hD.val h hU)
  have E:s = .d (.val undef)->N (a.put o.dst undef) w:=by
   intro e;subst e;exact hN _ _ _ _ _ (hm.za1 W (by simp[Sym.lo]) (by simp[Sm,R])) (hD.val h hU)
  unfold DStep zmu at H;split at H
  .rename_i hg
   simp only[Region.wanted,hg,if_true];exact .inl (M H)
  .rename_i j want hg
   split at H
   .rename_i t ht
    have H3:t∈tmpsOf S.all o:=zmv hg ht
    split at H
    .rename_i b hb
     have hy:=zha (zea ht) (zum hm (h.opnd hD H3 hb (by simp)))
     simp only[Region.wanted,hg,hy];by_cases e:b=want
     .subst e
      simp only[beq_self_eq_true,if_true];exact .inl (M (H.1 rfl))
     .have e':b = !want:=ym6 e
      have:(some b==some want)=false:=by simp[e]
      simp only[this,Bool.false_eq_true,if_false];exact E (H.2 e').symm
    .rename_i v hb
     obtain⟨rfl,hj⟩:=H;obtain⟨_,hv⟩:=hm.slots t _ (h.opnd hD H3 hb (by simp))
     simp only[Sm,R] at hv;have hy:yielded S.all.toArray a.tmps j=none:=zdw (zea ht) hv
     simp only[Region.wanted,hg,hy];have:((none:Option Bool)==some want)=false:=rfl
     simp only[this,Bool.false_eq_true,if_false];exact E hj.symm
    .exact H.elim
   .exact H.elim
def numF:Nat->List (Nat×Obj')->List (Nat×Obj')
 |_,[]=>[]
 |n,(_,ob)::r=>(n,ob)::numF (n+1) r
def refF:Nat->List (Nat×Obj')->List (Nat×Sym)
 |_,[]=>[]
 |n,(t,ob)::r=>(t,ref ob n)::refF (n+1) r
structure SegEnd(S:Seg)(fins own1:List (Nat×Obj')):Prop where
 each:∀ t ob,(t,ob)∈fins->∃ c ob0,S.co c t ob0/\((ob=ob0/\∀ m,¬S.user t m)\/∃ m,S.user t m/\S.kd m=some (.sto t ob))
 nodup:(fins.map (·.1)).Nodup
 keys:own1.map (·.1)=S.st0.own.map (·.1)
 own1:(S.st0.own.map (·.1)).Nodup->∀ id o,(id,o)∈own1->(∃ i,S.kd i=some (.bst id o))\/(zac S.st0.own id=some o/\∀ i ob,S.kd i≠some (.bst id ob))
def Seg.fin(S:Seg)(fins own1:List (Nat×Obj')):St:=
 {S.st0 with next:=S.st0.next+fins.length,slots:=refF S.st0.next fins++(S.sti S.hi).slots,own:=numF S.st0.next fins++own1}
theorem z9h:∀ {n:Nat} {l:List (Nat×Obj')} {id:Nat} {ob:Obj'},(id,ob)∈numF n l->∃ j t,l[j]?=some (t,ob)/\id=n+j
 |n,(t,o)::r,id,ob,h=>by
  simp only[numF] at h;rcases List.mem_cons.1 h with e | h
  .cases e;exact⟨0,t,by simp,by omega⟩
  .obtain⟨j,t',H,h2⟩:=z9h h;exact⟨j+1,t',by simpa using H,by omega⟩
theorem zun:∀ (n:Nat) (l:List (Nat×Obj')),(numF n l).map (·.1)=List.range' n l.length
 |n,[]=>rfl
 |n,(t,o)::r=>by simp only[numF,List.map_cons,List.length_cons,List.range'_succ,zun (n+1) r]
theorem z2i:∀ {n:Nat} {l:List (Nat×Obj')} {sl:List (Nat×Sym)} {t:Nat} {s:Sym},zac (refF n l++sl) t=some s->(∃ j ob,l[j]?=some (t,ob)/\s=ref ob (n+j))\/zac sl t=some s
 |n,[],sl,t,s,h=>.inr (by simpa[refF] using h)
 |n,(t',ob)::r,sl,t,s,h=>by
  simp only[refF,List.cons_append,zac] at h;split at h
  .rename_i e;subst e;cases h;exact .inl ⟨0,ob,by simp,by simp⟩
  .rcases z2i h with⟨j,ob',H,h2⟩ | h
   .exact .inl ⟨j+1,ob',by simpa using H,by rw[h2];congr 1;omega⟩
   .exact .inr h
theorem yov{E E':Nat->Prop}{β':Nat->Value}{ob:Obj'}{i j:Nat}{v:Value}(h:Sm w E β (ref ob i) v)(e:β' j=β i):Sm w E' β' (ref ob j) v:=by
 cases ob <;> simp only[ref,Sm] at h ⊢ <;> rw[e] <;> exact h
theorem zdi.tO{N:Nat->Prop}{E E':Nat->Prop}{β':Nat->Value}{m i j:Nat}{ob:Obj'}(hβ:∀ id,id<m->β' id=β id)(H:Over w E w E')(e:β' j=β i)(G:ob.lo m)(h:zdi w N E β i ob):zdi w N E' β' j ob:=by
 cases ob with
 |box T cells=>
  obtain⟨b,vs,F,h2,K,J,L⟩:=h;exact⟨b,vs,by rw[e];exact F,h2,K,Sms.over hβ H G J,L⟩
 |arr T sz rows=>
  obtain⟨xs,F,h2,K⟩:=h;exact⟨xs,by rw[e];exact F,zah.over H _ _ h2,K⟩
 |map T rows=>
  obtain⟨r,es,clock,F,h2,K,J⟩:=h;exact⟨r,es,clock,by rw[e];exact F,h2,K,zdb.over H _ _ J⟩
 |raw k cells=>
  obtain⟨b,fn,D,vs,F,h2,K,J⟩:=h;exact⟨b,fn,D,vs,by rw[e];exact F,h2,K,Sms.over hβ H G J⟩
theorem ym7(M:SegOk P S)(J:StLo S.st0)(C:(S.st0.own.map (·.1)).Nodup)(I:S.st0.base<=S.st0.next){L:Nat->Prop}(hm:Mods X w0 st β a w)(hD:Desc S L st ν)(V:∀ j,S.lo<=j->j<S.hi->L j){fins own1:List (Nat×Obj')}(he:SegEnd S fins own1):
  ∃ β',Mods X w0 (S.fin fins own1) β' a w:=by
 have Q:∀ {j k},S.kd j=some k->L j:=λh=>V _ (S.zko h).1 (S.zko h).2
 have G:∀ t ob,(t,ob)∈fins->S.Live L t ob:=by
  intro t ob H;obtain⟨c,ob0,hc,h⟩:=he.each t ob H;have N:L c:=by obtain⟨y,k',_,h2,_⟩:=hc;exact Q h2
  rcases h with⟨rfl,hu⟩ | ⟨m,hu,hk⟩
  .exact .inl ⟨c,hc,N,λm H0=>absurd H0 (hu m)⟩
  .exact .inr ⟨c,ob0,m,hc,N,Q hk,hu,hk⟩
 let β':Nat->Value:=λid=>if S.st0.next<=id then (match fins[id-S.st0.next]? with | some (t,_)=>β (ν t) | none=>β id) else β id
 have E:∀ id,id<S.st0.next->β' id=β id:=λid h=>if_neg (by omega)
 have O:∀ j t ob,fins[j]?=some (t,ob)->β' (S.st0.next+j)=β (ν t):=by
  intro j t ob h;show(if _ then _ else _)=_
  rw[if_pos (by omega)]
  have:S.st0.next+j-S.st0.next=j:=by omega
  rw[this,h]
 have T:∀ j t ob,fins[j]?=some (t,ob)->Hold S st ν t ob:=λj t ob h=>hD.live t ob (G t ob (List.mem_of_getElem? h))
 have K:∀ id o',(id,o')∈own1->id<S.st0.next/\o'.lo S.st0.next/\(id,o')∈st.own:=by
  intro id o' H;rcases he.own1 C id o' H with⟨i,hk⟩ | ⟨h1,h2⟩
  .have hb:=(S.zko hk)
   obtain⟨y,hy⟩:∃ y,S.all[i]?=some y:=⟨_,List.getElem?_eq_getElem (by have:=M.len;omega)⟩
   obtain⟨_,_,_,Y,o0,H1,_⟩:=(M.step i y _ hy hk).2;exact⟨(J.own id o0 H1).1,Y,za0 (hD.bst id i o' hk (Q hk))⟩
  .obtain⟨q1,q2⟩:=J.own id o' h1
   exact⟨q1,q2,za0 (hD.own id o' h1 λj ob hk _=>h2 j ob hk)⟩
 -- each own thing of the end is one of those that are there
 have F:∀ id o',(id,o')∈(S.fin fins own1).own->∃ id0,(id0,o')∈st.own/\β' id=β id0/\o'.lo S.st0.next/\((id0=id/\id<S.st0.next)\/∃ j t,fins[j]?=some (t,o')/\id=S.st0.next+j/\id0=ν t):=by
  intro id o' H;rcases List.mem_append.1 H with h | h
  .obtain⟨j,t,hj,rfl⟩:=z9h h
   obtain⟨q1,q2,q3,q4⟩:=T j t o' hj;exact⟨ν t,za0 q4,O j t o' hj,(G t o' (List.mem_of_getElem? hj)).lo M,.inr ⟨j,t,hj,rfl,rfl⟩⟩
  .obtain⟨q1,q2,q3⟩:=K id o' h
   exact⟨id,q3,E id q1,q2,.inl ⟨rfl,q1⟩⟩
 have W:Over w (Ex X β st.own) w (Ex X β' (S.fin fins own1).own):=by
  refine Over.less λb hb=>hb.elim .inl λ⟨id,o',H,Z⟩=>?_
  obtain⟨id0,h1,h2,_⟩:=F id o' H;exact .inr ⟨id0,o',h1,by rw[<-h2];exact Z⟩
 refine⟨β',hm.outer,⟨Nat.le_trans I (Nat.le_add_right _ _),?_⟩,?_,hm.defers,hm.size.trans hD.n,hm.below,?_,?_,?_,?_⟩
 .intro id h1 h2
  have hid:id<S.st0.next:=Nat.lt_of_lt_of_le h1 I
  rw[E id hid];exact hm.still.2 id (by rw[hD.base];exact h1) (λh=>h2 (hD.moved id hid h))
 .intro id
  show((if _ then _ else _:Value)).oneCell'=true
  split
  .split
   .exact hm.one _
   .exact hm.one _
  .exact hm.one _
 .show((numF S.st0.next fins++own1).map (·.1)).Nodup
  rw[List.map_append,List.nodup_append];refine⟨by rw[zun];exact List.nodup_range',by rw[he.keys];exact C,?_⟩
  intro p hp q hq e;subst e;rw[zun] at hp;obtain⟨⟨id,o'⟩,H,e⟩:=List.mem_map.1 hq;have:=(K id o' H).1
  have:=(List.mem_range'.1 hp)
  simp at e;omega
 .intro id o' H
  obtain⟨id0,h1,h2,h3,h4⟩:=F id o' H;obtain⟨q1,q2,q3⟩:=hm.own id0 o' h1;refine⟨?_,Obj'.ze9 (Nat.le_add_right _ _) h3,q3.tO E W h2 h3⟩
  show id<S.st0.next+fins.length
  rcases h4 with⟨_,h⟩ | ⟨j,t,hj,rfl,_⟩
  .omega
  .have:=(List.getElem?_eq_some_iff.1 hj).1;omega
 .intro id o1 id' o2 b h1 h2 e1 e2
  obtain⟨i1,p1,p2,_,p4⟩:=F id o1 h1;obtain⟨i2,q1,q2,_,q4⟩:=F id' o2 h2;have heq:=hm.apart i1 o1 i2 o2 b p1 q1 (by rw[<-p2];exact e1) (by rw[<-q2];exact e2)
  rcases p4 with⟨rfl,H4⟩ | ⟨j,t,hj,rfl,rfl⟩ <;> rcases q4 with⟨rfl,H2⟩ | ⟨j',t',A,rfl,rfl⟩
  .exact heq
  .have:=(T j' t' o2 A).1;omega
  .have:=(T j t o1 hj).1;omega
  .have ht:=hD.inj t t' o1 o2 (G _ _ (List.mem_of_getElem? hj)) (G _ _ (List.mem_of_getElem? A)) heq
   subst ht;have hn:=he.nodup;have h1:(fins.map (·.1))[j]?=some t:=by simp[hj]
   have h2:(fins.map (·.1))[j']?=some t:=by simp[A]
   have H3:=(List.getElem?_eq_some_iff.1 h1);have B:=(List.getElem?_eq_some_iff.1 h2);have:j=j':=(List.getElem_inj hn).1 (H3.2.trans B.2.symm)
   rw[this]
 .intro t s ht
  rcases z2i ht with⟨j,ob,hj,rfl⟩ | ht
  .obtain⟨q1,q2,q3,q4⟩:=T j t ob hj
   refine⟨yot ?_,yov (hm.slots t _ q3).2 (O j t ob hj)⟩
   show S.st0.next+j<S.st0.next+fins.length
   have:=(List.getElem?_eq_some_iff.1 hj).1;omega
  .have fin:Sym.lo S.st0.next s->zac st.slots t=some s->Sym.lo (S.fin fins own1).next s/\Sm w (Ex X β' (S.fin fins own1).own) β' s (a.tmps.getD t undef):=
    λh1 h2=>⟨Sym.ze9 (Nat.le_add_right _ _) h1,Sm.over E W h1 (hm.slots t s h2).2⟩
   rcases S.z9g M.len ⟨M.len.1,Nat.le_refl _⟩ ht with⟨j,y,k',h1,h2,h3,h4,h5⟩ | ⟨h1,h2⟩
   .cases k' with
    |val s'=>
     simp only[FK.sym] at h4;subst h4;exact fin (M.step j y _ h1 h2).2.2.2 (hD.vals j y t _ h1 (Q h2) h2 h5)
    |_=>simp only[FK.sym] at h4;subst h4;exact⟨by simp[Sym.lo],by simp[Sm]⟩
   .exact fin (J.slots t s h2) (hD.rest t s h2 λj y k' hj hl hk=>h1 j y hj (S.zko hk).1 (S.zko hk).2)
end
end Go.V
namespace Go.V
variable [Dr] [Ov]
open Go.RowKit
def sinks(all:List Oper)(b:Nat):List Nat:=(List.range b).filter λi=>!((all.take b).any λz=>bound z i)
def cutB(all:List Oper)(b:Nat):Bool:=
 (all.drop b).all λy=>(y.after.toList.any λe=>Region.binds .any e&&Nat.ble b e.on) || (sinks all b).all λi=>bound y i
def yow(P:Program)(all:List Oper)(pos:Nat)(st:St)(K:St->Prop):Prop:=
 ∀ (X:Nat->Prop) (w0:Base) (β:Nat->Value) (a:Act) (w:World),Mods X w0 st β a w->∀ (N:Act->World->Prop) (Q:Exit->Act->World->Prop),
  (∀ a' w' st' β',K st'->Mods X w0 st' β' a' w'->N a' w')->wpOp P all.toArray Q pos N a w
inductive RegI (P:Program) (all:List Oper) (K:St->Prop):Nat->St->Prop
 |done {st:St}:K st->RegI P all K all.length st
 |tot {pos:Nat} {st:St} (K1:St->Prop):pos<all.length->(cutB all (pos+1)=true\/pos+1=all.length)->yow P all pos st K1->(∀ st',K1 st'->RegI P all K (pos+1) st')->RegI P all K pos st
 |seg {pos hi:Nat} {st:St} (ks:List FK) (own0:Nat->List (Nat×Obj')) (fins own1:List (Nat×Obj')):SegOk P ⟨all,pos,hi,ks,st,own0⟩->SegEnd ⟨all,pos,hi,ks,st,own0⟩ fins own1->(cutB all hi=true\/hi=all.length) ->
   RegI P all K hi (Seg.fin ⟨all,pos,hi,ks,st,own0⟩ fins own1)->RegI P all K pos st
section
variable {P:Program} {X:Nat->Prop} {w0:Base} {st:St} {β:Nat->Value} {a:Act} {w w':World} {all:List Oper} {Lb:Array Bool}
theorem z6h(E:zb7 all=true){b:Nat}(Y:cutB all b=true)(O:Lb.size=all.length)(G:∀ j y,all[j]?=some y->lst Lb j->∀ e∈y.after.toList,Region.binds .any e=true->Lb.getD e.on false=true)
  (L:∀ j,b<=j->j<all.length->¬lst Lb j) {j:Nat} {y:Oper} (Z:all[j]?=some y) (Q:b<=j) (H:∀ e∈y.after.toList,Region.binds .any e=true->Lb.getD e.on false=true):∀ i,i<b->lst Lb i:=by
 have T:=(List.getElem?_eq_some_iff.1 Z).1
 -- y waits for each sink
 have hs:∀ i∈sinks all b,lst Lb i:=by
  have A:y∈all.drop b:=by
   refine List.mem_of_getElem? (i:=j-b) ?_
   rw[List.getElem?_drop];have:b+(j-b)=j:=by omega
   rw[this];exact Z
  have:=(List.all_eq_true.1 Y) y A
  rw[Bool.or_eq_true] at this;rcases this with h | h
  .obtain⟨e,B,h2⟩:=List.any_eq_true.1 h
   rw[Bool.and_eq_true] at h2;have C:=H e B h2.1;have F:b<=e.on:=Nat.ble_eq▸h2.2
   have V:e.on<j:=(zkn E Z).1 e B h2.1
   exact absurd (zev C) (L e.on F (by omega))
  .intro i hi
   obtain⟨e,B,I,F⟩:=zfw ((List.all_eq_true.1 h) i hi);have:=H e B I
   rw[F] at this;exact zev this
 -- the greatest one that is not done
 have key:∀ n i,i<b->b-i<=n->lst Lb i:=by
  intro n;induction n with
  |zero=>intro i hi h;omega
  |succ n ih=>
   intro i hi h;by_cases K:i∈sinks all b
   .exact hs i K
   .have:((all.take b).any λz=>bound z i)=true:=by
     cases N:((all.take b).any λz=>bound z i) with
     |true=>rfl
     |false=>exact absurd (List.mem_filter.2 ⟨List.mem_range.2 hi,by rw[N];rfl⟩) K
    obtain⟨z,P,M⟩:=List.any_eq_true.1 this;obtain⟨m,S⟩:=List.mem_iff_getElem?.1 P;have J:m<b:=by
     rcases Nat.lt_or_ge m b with h | h
     .exact h
     .rw[List.getElem?_take,if_neg (by omega)] at S;cases S
    rw[List.getElem?_take,if_pos J] at S;obtain⟨e,B,I,F⟩:=zfw M;have X:i<m:=by have:=(zkn E S).1 e B I;omega
    have:=G m z S (ih m J (by omega)) e B I
    rw[F] at this;exact zev this
 exact λi hi=>key (b-i) i hi (Nat.le_refl _)
structure Stands(all:List Oper)(Lb:Array Bool):Prop where
 size:Lb.size=all.length
 down:∀ j y,all[j]?=some y->lst Lb j->∀ e∈y.after.toList,Region.binds .any e=true->Lb.getD e.on false=true
theorem Stands.set(h:Stands all Lb){i:Nat}{o:Oper}(hi:all[i]?=some o)(H:∀ e∈o.after.toList,Region.binds .any e=true->Lb.getD e.on false=true):Stands all (Lb.setIfInBounds i true):=by
 have G:i<Lb.size:=by rw[h.size];exact(List.getElem?_eq_some_iff.1 hi).1
 have F:∀ j,Lb.getD j false=true->(Lb.setIfInBounds i true).getD j false=true:=by
  intro j K;by_cases E:j<Lb.size
  .simp[Array.getD,E,Array.getElem_setIfInBounds] at K ⊢;right;exact K
  .simp[Array.getD,E] at K
 refine⟨by simp[h.size],λj y K J e L M=>?_⟩
 rcases(zd2 G).1 J with rfl | J
 .rw[hi] at K;cases K;exact F _ (H e L M)
 .exact F _ (h.down j y K J e L M)
theorem zr9(h:Stands all Lb){i:Nat}(hi:i∈Region.ready .any all.toArray Lb):∃ o,all[i]?=some o/\i<all.length/\¬lst Lb i/\∀ e∈o.after.toList,Region.binds .any e=true->Lb.getD e.on false=true:=by
 unfold Region.ready at hi
 obtain⟨G,hi⟩:=List.mem_filter.1 hi
 simp only[Bool.and_eq_true,Bool.not_eq_true'] at hi
 obtain⟨H,hi⟩:=hi
 cases F:all.toArray[i]? with
 |none=>rw[F] at hi;simp at hi
 |some o=>
  rw[F] at hi;simp only[Option.map_some,Option.getD_some] at hi;refine⟨o,by simpa using F,by simpa using G,(λE=>by unfold lst at E;rw[H] at E;cases E),λe K hb=>?_⟩
  rw[Array.all_eq_true'] at hi;have:=hi e (by simpa using K)
  simp only[hb,Bool.not_true,Bool.false_or] at this;exact this
def left(Lb:Array Bool):Nat:=(Lb.toList.filter (!·)).length
theorem zsa{i:Nat}(hi:i<Lb.size)(H:¬lst Lb i):left (Lb.setIfInBounds i true)+1=left Lb:=by
 have G:Lb.toList[i]?=some false:=by
  have:Lb[i]=false:=by
   cases h:Lb[i] with
   |false=>rfl
   |true=>exact absurd (by unfold lst;simp[Array.getD,hi,h]) H
  simp[hi,this]
 unfold left
 rw[Array.toList_setIfInBounds]
 generalize Lb.toList=l at G
 clear hi H
 induction l generalizing i with
 |nil=>simp at G
 |cons x r ih=>
  cases i with
  |zero=>simp at G;subst G;simp
  |succ i=>
   have:=ih (i:=i) (by simpa using G)
   simp only[List.set_cons_succ,List.filter_cons];cases x <;> simp <;> omega
theorem zy4{i:Nat}(hi:i<Lb.size)(H:¬lst Lb i):0<left Lb:=by have:=zsa hi H;omega
theorem ygv(O:zb7 all=true){S:Seg}(G:S.all=all)(hS:SegOk P S)(J:StLo S.st0)(L:cutB all S.hi=true\/S.hi=all.length){Q:Exit->Act->World->Prop}
  (M:∀ st' β' ν a' w' Lb',Mods X w0 st' β' a' w'->Desc S (lst Lb') st' ν->Stands all Lb'->(∀ j,j<all.length->(lst Lb' j↔j<S.hi))->∀ fuel,left Lb'<=fuel->wpAny P .any all.toArray Q fuel Lb' a' w') :
  ∀ (fuel:Nat) (Lb:Array Bool) (st:St) (β ν:Nat->_) (a:Act) (w:World),Mods X w0 st β a w->Desc S (lst Lb) st ν->Stands all Lb->(∀ j,j<S.lo->lst Lb j)->(∀ j,S.hi<=j->j<all.length->¬lst Lb j)->left Lb<=fuel ->
   wpAny P .any all.toArray Q fuel Lb a w
 |fuel,Lb,st,β,ν,a,w,hm,hD,F,T,V,hf=>by
  by_cases hd:∀ j,S.lo<=j->j<S.hi->lst Lb j
  .refine M st β ν a w Lb hm hD F (λj hj=>⟨λhl=>?_,λh=>?_⟩) fuel hf
   .rcases Nat.lt_or_ge j S.hi with h | h
    .exact h
    .exact absurd hl (V j h hj)
   .rcases Nat.lt_or_ge j S.lo with h' | h'
    .exact T j h'
    .exact hd j h' h
  .have hx:∃ j,S.lo<=j/\j<S.hi/\¬lst Lb j:=by
    refine Classical.byContradiction λhn=>hd λj h1 h2=>Classical.byContradiction λh3=>hn ⟨j,h1,h2,h3⟩
   obtain⟨j,H0,Z,Y⟩:=hx;have H1:S.hi<=all.length:=by rw[<-G];exact hS.len.2.1
   cases fuel with
   |zero=>have:=zy4 (Lb:=Lb) (by rw[F.size];omega) Y;omega
   |succ fuel=>
    refine⟨λhr=>absurd (zfi O F.size hr j (by omega)) Y,λi hi=>?_⟩
    obtain⟨o,ho,A,E,H⟩:=zr9 F hi;have B:S.lo<=i:=Nat.le_of_not_lt λh=>E (T i h)
    have C:i<S.hi:=by
     rcases Nat.lt_or_ge i S.hi with h | h
     .exact h
     .rcases L with hc | hc
      .exact absurd (z6h O hc F.size F.down V ho h H j Z) Y
      .omega
    have hk:∃ k,S.kd i=some k:=by
     unfold Seg.kd;rw[if_pos ⟨B,C⟩];exact⟨_,List.getElem?_eq_getElem (by have:=hS.len.2.2;omega)⟩
    obtain⟨k,hk⟩:=hk;have K:i<Lb.size:=by rw[F.size];exact A
    have here:Here P S Lb i o k:=⟨hS,J,by rw[G];exact F.size,by rw[G];exact F.down,by rw[G];exact ho,hk,E,H⟩
    have:=ykd (P:=P) here hm hD (N:=wpAny P .any all.toArray Q fuel (Lb.setIfInBounds i true)) (Q:=Q) λa' w' st' β' ν' I W=>
     ygv O G hS J L M fuel (Lb.setIfInBounds i true) st' β' ν' a' w' I W (F.set ho H) (λj h=>(zd2 K).2 (.inr (T j h)))
      (λj h1 h2 hl=>by
       rcases(zd2 K).1 hl with e | hl
       .omega
       .exact V j h1 h2 hl) (by have:=zsa K E;omega)
    rw[G] at this;exact this
theorem StLo.of(H:Mods X w0 st β a w):StLo st:=⟨λid o h=>⟨(H.obj h).1,(H.obj h).2.1⟩,λt s h=>(H.slots t s h).1⟩
theorem zq8(V:zb7 all=true){Q:Exit->Act->World->Prop}{K:St->Prop}(hQ:∀ a w st β,K st->Mods X w0 st β a w->Q .normal a w){pos:Nat}{st:St}(h:RegI P all K pos st):
  ∀ (β:Nat->Value) (a:Act) (w:World) (Lb:Array Bool),Mods X w0 st β a w->Stands all Lb->(∀ j,j<all.length->(lst Lb j↔j<pos))->∀ fuel,left Lb<=fuel->wpAny P .any all.toArray Q fuel Lb a w:=by
 induction h with
 | @done st hk=>
  intro β a w Lb hm H hL fuel hf;have E:Region.ready .any all.toArray Lb=[]:=by
   cases hr:Region.ready .any all.toArray Lb with
   |nil=>rfl
   |cons i r=>
    obtain⟨o,ho,L,F,_⟩:=zr9 H (by rw[hr];simp:i∈Region.ready .any all.toArray Lb)
    exact absurd ((hL i L).2 L) F
  cases fuel with
  |zero=>exact⟨E,hQ a w st β hk hm⟩
  |succ fuel=>exact⟨λ_=>hQ a w st β hk hm,λi hi=>by rw[E] at hi;cases hi⟩
 | @tot pos st K1 M J Y _ ih=>
  intro β a w Lb hm H hL fuel hf;have Z:¬lst Lb pos:=λhl=>by have:=(hL pos M).1 hl;omega
  cases fuel with
  |zero=>have:=zy4 (Lb:=Lb) (by rw[H.size];omega) Z;omega
  |succ fuel=>
   refine⟨λhr=>absurd (zfi V H.size hr pos M) Z,λi hi=>?_⟩
   obtain⟨o,ho,L,F,G⟩:=zr9 H hi;have H3:pos<=i:=Nat.le_of_not_lt λh=>F ((hL i L).2 h)
   have H0:i=pos:=by
    rcases Nat.lt_or_ge pos i with h | h
    .rcases J with hc | hc
     .exact absurd (z6h V hc H.size H.down (λj h1 h2 hl=>by have:=(hL j h2).1 hl;omega) ho h G pos (Nat.lt_succ_self _)) Z
     .omega
    .omega
   subst H0;have O:i<Lb.size:=by rw[H.size];exact L
   refine Y X w0 β a w hm _ Q λa' w' st' β' hk A=>?_
   refine ih st' hk β' a' w' (Lb.setIfInBounds i true) A (H.set ho G) (λj hj=>?_) fuel (by have:=zsa O F;omega)
   rw[zd2 O,hL j hj];omega
 | @seg pos hi st ks own0 fins own1 hS hE J _ ih=>
  intro β a w Lb hm H hL fuel hf;have T:StLo st:=.of hm
  refine ygv (P:=P) (X:=X) (w0:=w0) (S:=⟨all,pos,hi,ks,st,own0⟩) V rfl hS T J ?_ fuel Lb st β (λ_=>0) a w hm ?_ H ?_ ?_ hf
  .intro st' β' ν a' w' Lb' A hD B N fuel' hf'
   obtain⟨β2,H1⟩:=ym7 (S:=⟨all,pos,hi,ks,st,own0⟩) hS T hm.keys hm.still.1 A hD (λj h1 h2=>(N j (by have:=hS.len.2.1;exact Nat.lt_of_lt_of_le h2 this)).2 h2) hE
   exact ih β2 a' w' Lb' H1 B N fuel' hf'
  .have C:∀ {j k},Seg.kd ⟨all,pos,hi,ks,st,own0⟩ j=some k->¬lst Lb j:=by
    intro j k hk hl;have hb:=Seg.zko hk;have I:=hS.len.2.1;have:=(hL j (Nat.lt_of_lt_of_le hb.2 I)).1 hl
    simp at hb;omega
   have W:∀ t ob,¬Seg.Live ⟨all,pos,hi,ks,st,own0⟩ (lst Lb) t ob:=by
    intro t ob hl;obtain⟨c,ob0,⟨y,k',_,h2,_⟩,H2⟩:=hl.co;exact C h2 H2
   exact⟨rfl,rfl,Nat.le_refl _,λ_ _ h=>h,λ_ _ h _=>h,λ_ _ _ hk hl=>absurd hl (C hk),λ_ _ _ _ _ hl hk _=>absurd hl (C hk),λ_ _ h _=>h,λt ob hl=>absurd hl (W t ob),λt _ ob _ hl=>absurd hl (W t ob)⟩
  .intro j hj
   have:j<all.length:=by have:=hS.len;simp at this hj;omega
   exact(hL j this).2 hj
  .intro j h1 h2 hl
   have:=(hL j h2).1 hl
   have:=hS.len
   simp at h1 this;omega
theorem zej{id:Nat}(G:P.follows .mixedOrders=true)(F:zb7 all=true){Q:DE->St->Prop}(h:RegI P all (Q .normal) 0 st):Triple P (.region id all.toArray true) Q st:=by
 intro X w0 β a w L
 refine wp_region_any G ?_
 have E:Mods X w0 st β a {w with drawn:=w.drawn+1}:=by
  have M:Below w.heap.size w {w with drawn:=w.drawn+1}:=⟨⟨rfl,rfl,rfl,Nat.le_refl _,λ_ _=>rfl⟩,λ_=>Nat.le_succ _⟩
  have:=L.put M (dst:=none) (s:=.junk) (v:=undef) (by simp) (by simp[Sym.lo]) (by simp[Sm])
  simpa[St.put,Act.put] using this
 have H:∀ j,j<all.length->¬lst (Array.replicate all.toArray.size false) j:=by
  intro j O h;unfold lst at h;simp[Array.getD,O] at h
 refine zq8 (P:=P) (X:=X) (w0:=w0) F (K:=Q .normal) (λa w st' β T J=>⟨.normal,st',β,trivial,T,J⟩) h β a _ _ E ⟨by simp,?_⟩ (λj O=>⟨λh=>absurd h (H j O),λh=>by omega⟩) _ ?_
 .intro j y O V
  exact absurd V (H j (List.getElem?_eq_some_iff.1 O).1)
 .simp[left]
end
end Go.V

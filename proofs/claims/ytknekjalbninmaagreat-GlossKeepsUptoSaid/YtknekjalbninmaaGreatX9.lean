/- A program logic of my own over the kit: part X9. It needs no conditions. -/
import Derived.Test.YtknekjalbninmaaGreatX14
set_option linter.unusedVariables false
set_option linter.unusedSimpArgs false
set_option linter.unusedSectionVars false
namespace Go.V
variable [Dr] [Ov]
open Go.RowKit
def NH:Op->Bool
 |.box _ _ |.alloc _ |.buildSlice _ _ _ |.store _ _ _ |.makeSlice _ _ _ |.makeMap _ _ |.mapUpdate _ _ _ _=>true
 |.call {callee:=.builtin .append,.. }=>true
 |.call {callee:=.builtin .copy,.. }=>true
 |.call {callee:=.value _,.. }=>true
 |.assign (.const (.slice none 0 0))=>true
 |_=>false
def isMk:Op->Bool
 |.call {callee:=.value _,.. }=>false
 |op=>NH op
def zik(all:List Oper)(o:Oper):Bool:=all.any λz=>isMk z.op&&(match z.dst with
 |some t=>(tmpsOf all o).any (Nat.beq t)
 |none=>false)
def W0(all:List Oper)(i:Nat)(o:Oper):Bool:=(NH o.op || zik all o)&&(Nat.beq i 0 || qC all i)&&(Nat.beq (i+1) all.length || qC all (i+1))
def Fb(Γ:XG)(n0:Nat)(ρ:Operand->Sym)(ty:Nat):Op->Option Obj'
 |.box T x=>match yP (ρ x) with
  |some l=>zu (uz n0 l) (some (.box T l))
  |none=>none
 |.alloc T=>match Γ.ti T with
  |some ti=>zu (ti.zero.all (·.oneCell')) (some (.box T (ti.zero.map ofConst)))
  |none=>none
 |.assign (.const (.slice none 0 0))=>match Γ.ti ty with
  |some ⟨.slice e,_,_,_,_⟩=>match Γ.ti e with
   |some te=>some (.arr e te.size [])
   |none=>none
  |_=>none
 |.buildSlice t n parts=>match Γ.ti t with
  |some ⟨.slice e,_,_,_,_⟩=>match Γ.ti e with
   |some te=>match inOrder 0 parts.toList with
    |some l=>match ve (l.map ρ),rowsOf te.size (l.map ρ) with
     | [],some rows=>zu (Nat.beq l.length n&&Nat.blt 0 te.size&&Nat.ble (n*te.size) 16777216) (some (.arr e te.size rows))
     |_,_=>none
    |none=>none
   |none=>none
  |_=>none
 |.makeMap t none=>some (.map t [])
 |_=>none
def W4(Γ:XG)(call:Caller)(look:Nat->Option Obj')(ρ:Operand->Sym)(op:Op):Option Sym:=
 match op with
 |.call {callee:=.value f,args:=args,argTypes:=_}=>match yB (ρ f) with
  |some (g,caps)=>match qn look (args.toList.map ρ++caps) with
   |some (ds,lent)=>match call g (ds.map .d) [] 0 with
    |some r=>match lend (vm r.own) r.s with
     |some (d,_)=>zu (!lent ||d.scalar) (some (.d d))
     |none=>none
    |none=>none
   |none=>none
  |none=>none
 |op=>zu (kq ρ op) (YN Γ look ρ op)
def Fe(Γ:XG)(call:Caller)(all:List Oper)(xt:XS)(o:Oper):Option Sym:=
 match o.guard with
 |none=>W4 Γ call xt.look xt.val o.op
 |some (j,want)=>match (all[j]?).bind (·.dst) with
  |some t=>match xt.get t with
   |some (.d (.bool b))=>match b==want with
    |true=>W4 Γ call xt.look xt.val o.op
    |false=>some (.d (.val undef))
   |some (.d (.val (.tuple ⟨[]⟩)))=>some (.d (.val undef))
   |_=>none
  |none=>none
structure XF where
 xt:XS
 rks:List FK
 hs:List (Nat×Obj')
 ow:List (Nat×Obj')
def hdrop(j:Nat)(l:List (Nat×Obj')):List (Nat×Obj'):=l.filter λx=>!Nat.beq x.1 j
def XF.push(F:XF)(k:FK)(dst:Option Nat)(hs:List (Nat×Obj'))(ow:List (Nat×Obj')):XF:=⟨F.xt.put dst k.sym,k::F.rks,hs,ow⟩
def Ff(F:XF)(x:Operand):Option (Option Nat×List (List D)):=
 match x with
 |.tmp k=>match vm F.hs k with
  |some (.arr _ _ rows)=>some (some k,rows)
  |some _=>none
  |none=>match F.xt.val (.tmp k) with
   |.d (.sl l)=>some (none,l)
   |.nils=>some (none,[])
   |_=>none
 |x=>match F.xt.val x with
  |.d (.sl l)=>some (none,l)
  |.nils=>some (none,[])
  |_=>none
def Fg(Γ:XG)(n0:Nat)(F:XF)(o:Oper)(j:Nat)(x:Operand)(t t' d:Nat):Option XF:=
 match vm F.hs j,Γ.ti t with
 |some (.arr T sz rows),some ⟨.slice e,_,_,_,_⟩=>match Γ.ti e,Ff F x with
  |some te,some (src,l)=>zu (Nat.beq t' t&&Nat.blt 0 te.size&&Nat.beq te.zero.length te.size&&te.zero.all (·.oneCell')&&Nat.beq T e&&Nat.beq sz te.size&&l.all (λr=>Nat.beq r.length te.size)&&Nat.ble ((rows.length+l.length)*te.bytes) 140737488355328&&Nat.ble (rows.length+l.length) maxLen&&(match src with |some k=>!Nat.beq k j |none=>true))
    (some (F.push (.app j src (.arr e te.size (rows++l))) o.dst ((d,.arr e te.size (rows++l))::hdrop j (match src with | some k=>hdrop k F.hs | none=>F.hs)) F.ow))
  |_,_=>none
 |_,_=>none
def Fh(Γ:XG)(n0:Nat)(bs:List Nat)(s0:XS)(F:XF)(o:Oper)(t j:Nat)(x:Operand):Option XF:=
 match Γ.ti t,yP (F.xt.val x) with
 |some ti,some l=>zu (Nat.beq l.length ti.size&&uz n0 l) (match vm F.hs j with
  |some (.box T cells)=>zu (Nat.ble l.length cells.length) (some (F.push (.qc j (.box T (splice cells 0 l))) none ((j,.box T (splice cells 0 l))::hdrop j F.hs) F.ow))
  |some _=>none
  |none=>match F.xt.val (.tmp j) with
   |.bp id off=>match s0.look id with
    |some (.box T cells)=>zu (Nat.ble (off+l.length) cells.length&&bs.any (Nat.beq id)&&uz n0 cells) (some (F.push (.bst id (.box T (splice cells off l))) none F.hs (YM id (.box T (splice cells off l)) F.ow)))
    |_=>none
   |_=>none)
 |_,_=>none
def Fj(Γ:XG)(call:Caller)(all:List Oper)(bs:List Nat)(s0:XS)(F:XF)(o:Oper):Option XF:=
 zu (qS o.dst s0.n) <|
 match o.op,o.guard,o.dst with
 |.call {callee:=.builtin .append,args:=xs',argTypes:=ts},none,some d=>match xs'.toList,ts.toList with
  | [.tmp j,x],[t,t']=>Fg Γ s0.next F o j x t t' d
  |_,_=>none
 |.store t (.tmp j) x,none,none=>Fh Γ s0.next bs s0 F o t j x
 |op,g,d=>match g,d,Fb Γ s0.next F.xt.val o.type op with
  |none,some d,some ob=>some (F.push (.mk ob) (some d) ((d,ob)::F.hs) F.ow)
  |_,_,_=>match Fe Γ call all F.xt o with
   |some s=>zu (vY s0.next s) (some (F.push (.val s) o.dst F.hs F.ow))
   |none=>none
def readers(all:List Oper)(t:Nat):Nat->List Oper->List Nat
 |_,[]=>[]
 |i,o::r=>match (tmpsOf all o).any (Nat.beq t) with
  |true=>i::readers all t (i+1) r
  |false=>readers all t (i+1) r
def takes(t:Nat):FK->Bool
 |.app j src _=>Nat.beq j t ||(match src with |some k=>Nat.beq k t |none=>false)
 |.qc j _=>Nat.beq j t
 |_=>false
def YR(all seg:List Oper)(ks:List FK):Nat->List Oper->List FK->Bool
 |i,o::r,k::kr=>(match k.made,o.dst with
   |some _,some t=>(match readers all t 0 seg with
    | []=>true
    | [m]=>Nat.blt i m&&(match ks[m]? with |some k=>takes t k |none=>false)
    |_=>false)
   |_,_=>true)&&YR all seg ks (i+1) r kr
 |_,_,_=>true
def jy:List FK->List Nat
 | []=>[]
 |.bst id _::r=>id::jy r
 |_::r=>jy r
def YS(xt:XS):Nat->List (Nat×Obj')->Tr
 |_,[]=>xt.slots
 |n,(t,ob)::r=>(YS xt (n+1) r).put dep t (ref ob n)
def W5(all seg:List Oper)(bs:List Nat)(s0:XS)(F:XF):Option XS:=
 let ks:=F.rks.reverse
 zu (YR all seg ks 0 seg ks&&nodupB (jy ks))
  (some {s0 with next:=s0.next+F.hs.length,slots:=YS F.xt s0.next F.hs,own:=vk s0.next F.hs++F.ow})
def QS(all:List Oper)(s0:XS):Nat->List Oper->List Nat
 |_,[]=>[]
 |i,o::r=>match W0 all i o with
  |true=>[]
  |false=>match o.op with
   |.store _ (.tmp j) _=>match s0.get j with
    |some (.bp id _)=>qR id (QS all s0 (i+1) r)
    |_=>QS all s0 (i+1) r
   |_=>QS all s0 (i+1) r
def qG(s0:XS)(bs:List Nat):XF:=⟨{s0 with own:=(match bs with | []=>s0.own | _=>s0.own.filter λx=>!bs.any (Nat.beq x.1))},[],[],s0.own⟩
def QT(Γ:XG)(call:Caller)(all:List Oper)(bs:List Nat)(s0:XS):Nat->List Oper->XF->Option (XF×Nat)
 |i,[],F=>some (F,i)
 |i,o::r,F=>match W0 all i o with
  |true=>some (F,i)
  |false=>match Fj Γ call all bs s0 F o with
   |some F'=>QT Γ call all bs s0 (i+1) r F'
   |none=>none
def YT(Γ:XG)(call:Caller)(all:List Oper):Nat->Nat->XS->Option XS
 |0,_,_=>none
 |fuel+1,pos,xs=>match Nat.beq pos all.length with
  |true=>some xs
  |false=>match all[pos]? with
   |none=>none
   |some o=>match W0 all pos o with
    |true=>match jQ Γ call (λ_ _=>none) all [o] xs with
     |some xs'=>YT Γ call all fuel (pos+1) xs'
     |none=>none
    |false=>
     let bs:=QS all xs pos (all.drop pos)
     match QT Γ call all bs xs pos (all.drop pos) (qG xs bs) with
     |some (F,hi)=>match W5 all ((all.drop pos).take (hi-pos)) bs xs F with
      |some xs'=>zu (Nat.beq hi all.length ||qC all hi) (YT Γ call all fuel hi xs')
      |none=>none
     |none=>none
def W6(Γ:XG)(call:Caller)(all:List Oper)(xs:XS):Option XS:=
 zu (yv all) (YT Γ call all 200 0 xs)
end Go.V
namespace Go.V
variable [Dr] [Ov]
open Go.RowKit
theorem za1{P:Program}{f:Nat}{ds:List D}{s:Sym}{r:D}{nx:Nat}{own:List (Nat×Obj')}{mv:List Nat}{b:Bool}(h:zA P f (ds.map .d) [] 0 s nx own mv)(F:lend (za own) s=some (r,b)):zj P f ds r:=by
 refine⟨h.1,λw E vs K J=>?_⟩
 have L:Mods E (.of w) (zR [] 0 0 []) (λ_=>.pointer none) xx w:=
  ⟨⟨λb M hmay=>hmay.elim (λh=>by have:w.heap.size<=b:=h;have:=K.1 b M;omega) (λh=>h),K.2.over (Over.less λb h=>h.elim id False.elim)⟩,⟨Nat.le_refl _,λ_ _ _=>rfl⟩,λ_=>rfl,rfl,rfl,Kept.refl _,by simp[zR],by simp[zR],by simp[zR],by intro t s O;simp[zR,za] at O⟩
 have G:Over w E w (Ex E (λ_=>Value.pointer none) []):=Over.less λb M=>M.elim id λ⟨_,_,Q,_⟩=>by cases Q
 refine(h.2 E (.of w) _ w vs rfl L (zb.vB (zt.over G _ _ J))).mono λe w' T=>?_
 obtain⟨β',v,rfl,H,_,hs⟩:=T
 exact⟨v,rfl,H.below.below,(Ug H (s:=s) (d:=r) (b:=b) (v:=v) F hs).1⟩
theorem zeg(m:Nat)(v:Value):Sym.lo m (ofConst v):=by unfold ofConst;split <;> simp[Sym.lo]
theorem Fo(m:Nat):∀ (l:List Value),Sym.los m (l.map ofConst)
 | []=>by simp[Sym.los]
 |v::r=>by simp only[List.map_cons,Sym.los];exact⟨zeg m v,Fo m r⟩
section
variable {P:Program} {Γ:XG} {call:Caller}
theorem NI(G:XGood P Γ)(F:yY P call){look:Nat->Option Obj'}{ρ:Operand->Sym}{op:Op}{s:Sym}(h:W4 Γ call look ρ op=some s):kq ρ op=true/\ye P look ρ op (λs'=>s'=s):=by
 unfold W4 at h
 split at h
 .rename_i f args ts
  refine⟨rfl,?_⟩
  simp only[ye,yG,vA];split at h
  .rename_i g caps hcal
   rw[hcal];simp only;split at h
   .rename_i ds lent hl
    unfold gg;rw[hl];simp only;split at h
    .rename_i r E
     split at h
     .rename_i d b K
      rw[zv] at h;obtain⟨J,h2⟩:=h;cases h2;have H:vm r.own=za r.own:=funext (gU r.own)
      rw[H] at K;exact⟨d,za1 (F _ _ _ _ _ E (Sym.Yc 0 ds)) K,λe=>.inl (by subst e;simpa using J),rfl⟩
     .cases h
    .cases h
   .cases h
  .cases h
 .rw[zv] at h
  exact⟨h.1,F8 G h.2 rfl⟩
theorem zc6(G:XGood P Γ)(F:yY P call){all:List Oper}{xt:XS}{zJ:St}(H:Ag zJ xt){o:Oper}{s:Sym}(h:Fe Γ call all xt o=some s):DStep P all o zJ s:=by
 unfold Fe at h
 unfold DStep qP
 rw[H.val,H.look]
 split at h
 .rename_i hgd
  rw[hgd];exact NI G F h
 .rename_i j want hgd
  rw[hgd];simp only;split at h
  .rename_i t ht
   rw[ht];simp only;rw[H.slots];split at h
   .rename_i b hb
    rw[hb];simp only;split at h
    .rename_i e
     have e:b=want:=by simpa using e
     subst e;exact⟨λ_=>NI G F h,λe'=>by cases b <;> simp at e'⟩
    .rename_i e
     have e:¬b=want:=by simpa using e
     cases h;exact⟨λe'=>absurd e' e,λ_=>rfl⟩
   .rename_i hb
    rw[hb];cases h;exact⟨rfl,rfl⟩
   .cases h
  .cases h
def kE(n:Nat)(ρ:Operand->Sym)(o:Oper)(st:St):Prop:=st.n=n/\∀ x∈o.op.operands,ρ x≠.junk->st.val x=ρ x
theorem Fp{ρ:Operand->Sym}{sz:Nat}:∀ {l:List Operand} {rows:List (List D)},rowsOf sz (l.map ρ)=some rows->∀ x∈l,ρ x≠.junk
 |y::r,rows,h,x,H=>by
  simp only[List.map_cons,rowsOf] at h;split at h
  .rename_i d ds G h2
   rcases List.mem_cons.1 H with e | H
   .subst e;intro e;rw[e] at G;simp[rowOf,yP] at G
   .exact Fp h2 x H
  .cases h
theorem Fq:∀ {n:Nat} {parts:List (Nat×Operand)} {l:List Operand},inOrder n parts=some l->∀ x∈l,∃ i,(i,x)∈parts
 |n,[],l,h,x,H=>by simp[inOrder] at h;subst h;cases H
 |n,(i,y)::r,l,h,x,H=>by
  simp only[inOrder] at h;split at h
  .split at h
   .rename_i l' G
    cases h;rcases List.mem_cons.1 H with e | H
    .subst e;exact⟨i,by simp⟩
    .obtain⟨j,F⟩:=Fq G x H;exact⟨j,List.mem_cons_of_mem _ F⟩
   .cases h
  .cases h
theorem zgd(E:XGood P Γ){n n0:Nat}{ρ:Operand->Sym}{o:Oper}{ob:Obj'}(J:zY o.dst n=true)(h:Fb Γ n0 ρ o.type o.op=some ob):
  ob.lo n0/\∀ (st:St) (K:St->Prop),kE n ρ o st->K ((st.new ob).put o.dst (ref ob st.next))->zS P o st K:=by
 unfold Fb at h
 split at h
 .rename_i T x L
  split at h
  .rename_i l M
   rw[zv] at h;obtain⟨O,h2⟩:=h;cases h2;refine⟨gJ O,λst K Q V=>?_⟩
   have X:=Q.2 x (by rw[L];simp[Op.operands]) (by intro e;rw[e] at M;simp[yP] at M)
   unfold zS;rw[L];simp only;refine⟨by rw[Q.1];exact J,?_⟩
   unfold Zn;rw[X,M];exact V
  .cases h
 .rename_i T L
  split at h
  .rename_i ti ht
   rw[zv] at h;obtain⟨O,h2⟩:=h;cases h2;refine⟨Fo _ _,λst K Q V=>?_⟩
   unfold zS;rw[L];simp only;rw[E.ti ht];exact⟨by rw[Q.1];exact J,O,V⟩
  .cases h
 .rename_i L
  split at h
  .rename_i e _ _ _ _ ht
   split at h
   .rename_i te hte
    cases h;refine⟨trivial,λst K Q V=>?_⟩
    unfold zS;rw[L];simp only;rw[E.ti ht];simp only;rw[E.ti hte];exact⟨by rw[Q.1];exact J,V⟩
   .cases h
  .cases h
 .rename_i t m parts L
  split at h
  .rename_i e _ _ _ _ ht
   split at h
   .rename_i te hte
    split at h
    .rename_i l M
     split at h
     .rename_i rows F H
      rw[zv] at h;simp only[Bool.and_eq_true,beq_iff,yQ,qF] at h;obtain⟨⟨⟨O,h2⟩,Y⟩,Z⟩:=h;cases Z;refine⟨trivial,λst K Q V=>?_⟩
      have G:l.map st.val=l.map ρ:=by
       refine List.map_congr_left λx A=>Q.2 x ?_ (Fp H x A)
       obtain⟨i,hi⟩:=Fq M x A;rw[L];simp only[Op.operands];simp;exact⟨i,by simpa using hi⟩
      unfold zS;rw[L];simp only;refine⟨by rw[Q.1];exact J,?_⟩
      unfold Zu;rw[E.ti ht];simp only;rw[E.ti hte];simp only;rw[M];simp only;rw[G,F];refine⟨O,h2,Y,?_⟩
      simp only[St.zH];rw[G,H];exact V
     .cases h
    .cases h
   .cases h
  .cases h
 .rename_i t L
  cases h;refine⟨trivial,λst K Q V=>?_⟩
  unfold zS;rw[L];simp only;exact⟨by rw[Q.1];exact J,V⟩
 .cases h
theorem zeh{F:XF}{x:Operand}{src:Option Nat}{l:List (List D)}(h:Ff F x=some (src,l)):
  (∃ k T sz,x = .tmp k/\src=some k/\vm F.hs k=some (.arr T sz l))\/(src=none/\(F.xt.val x = .d (.sl l)\/(F.xt.val x = .nils/\l=[]))):=by
 unfold Ff at h
 split at h
 .rename_i k
  split at h
  .rename_i T sz rows H;cases h;exact .inl ⟨k,T,sz,rfl,rfl,H⟩
  .cases h
  .split at h
   .rename_i l' G;cases h;exact .inr ⟨rfl,.inl G⟩
   .rename_i G;cases h;exact .inr ⟨rfl,.inr ⟨G,rfl⟩⟩
   .cases h
 .split at h
  .rename_i l' G;cases h;exact .inr ⟨rfl,.inl G⟩
  .rename_i G;cases h;exact .inr ⟨rfl,.inr ⟨G,rfl⟩⟩
  .cases h
theorem zei(Q:XGood P Γ){n n0:Nat}{F F':XF}{o:Oper}{j t t' d:Nat}{x:Operand}(V:zY o.dst n=true)(X:o.op = .call {callee:=.builtin .append,args:=#[.tmp j,x],argTypes:=#[t,t']})
  (h:Fg Γ n0 F o j x t t' d=some F'):∃ src ob oj ok,F'=F.push (.app j src ob) o.dst ((d,ob)::hdrop j (match src with | some k=>hdrop k F.hs | none=>F.hs)) F.ow/\qB ob/\ob.lo n0/\vm F.hs j=some oj/\qB oj /\
   (∀ k,src=some k->x = .tmp k/\k≠j/\vm F.hs k=some ok/\qB ok) /\
   ∀ (st:St) (K:St->Prop) (id:Nat),kE n F.xt.val o st->st.val (.tmp j) = .ar id->st.look id=some oj->(∀ k,src=some k->∃ id',id'≠id/\st.val (.tmp k) = .ar id'/\st.look id'=some ok) ->
    K ((st.renew id ob).put o.dst (.ar id))->zS P o st K:=by
 unfold Fg at h
 split at h
 .rename_i T sz rows e _ _ _ _ Y ht
  split at h
  .rename_i te src l J E
   rw[zv] at h;simp only[Bool.and_eq_true,beq_iff,qF,yQ] at h;obtain⟨⟨⟨⟨⟨⟨⟨⟨⟨⟨Z,h2⟩,A⟩,L⟩,B⟩,C⟩,I⟩,N⟩,S⟩,W⟩,h⟩:=h;cases h;have key:∀ (st:St) (K:St->Prop) (id:Nat),kE n F.xt.val o st->st.val (.tmp j) = .ar id->st.look id=some (.arr T sz rows)->qA st id (st.val x)=some l->K ((st.renew id (.arr e te.size (rows++l))).put o.dst (.ar id))->zS P o st K:=by
    intro st K id hk hv hl hs hK;unfold zS;rw[X];simp only;refine⟨by rw[hk.1];exact V,?_⟩
    refine .inl ?_
    unfold Zv;rw[Q.ti ht];simp only;rw[Q.ti J];simp only;refine⟨Z,h2,A,L,?_⟩
    rw[hv];simp only;rw[hl,hs];simp only;exact⟨B,C,JY I,N,S,hK⟩
   rcases zeh E with⟨k,T',sz',rfl,rfl,hk⟩ | ⟨rfl,hv⟩
   .have M:k≠j:=by
     simp only[Bool.not_eq_true'] at W;intro e;rw[beq_iff.2 e] at W;cases W
    refine⟨some k,_,.arr T sz rows,.arr T' sz' l,rfl,trivial,trivial,Y,trivial,λk' e=>by cases e;exact⟨rfl,M,hk,trivial⟩,λst K id H hv hl hs hK=>?_⟩
    obtain⟨id',g1,g2,g3⟩:=hs k rfl;refine key st K id H hv hl ?_ hK
    rw[g2];simp only[qA];rw[if_neg g1,g3]
   .refine⟨none,_,.arr T sz rows,.arr T sz rows,rfl,trivial,trivial,Y,trivial,λk' e=>(by cases e),λst K id H O hl hs hK=>?_⟩
    refine key st K id H O hl ?_ hK
    have G:x∈o.op.operands:=by rw[X];simp[Op.operands,Call.operands]
    rcases hv with hv | ⟨hv,rfl⟩
    .rw[H.2 x G (by rw[hv];simp),hv];rfl
    .rw[H.2 x G (by rw[hv];simp),hv];rfl
  .cases h
 .cases h
theorem Ft{m off:Nat}{cells l:List Sym}(H:Sym.los m cells)(h2:Sym.los m l):Sym.los m (splice cells off l):=Sym.J0 H h2 off
theorem zej(M:XGood P Γ){n n0:Nat}{bs:List Nat}{s0:XS}{st0:St}(H:Ag st0 s0){F F':XF}{o:Oper}{j t:Nat}{x:Operand}(L:∀ k ob,vm F.hs k=some ob->ob.lo n0)(O:o.op = .store t (.tmp j) x)(Q:o.dst=none)
  (h:Fh Γ n0 bs s0 F o t j x=some F') :
  (∃ ob oj,F'=F.push (.qc j ob) none ((j,ob)::hdrop j F.hs) F.ow/\vF ob/\ob.lo n0/\vm F.hs j=some oj/\vF oj /\
   ∀ (st:St) (K:St->Prop) (id:Nat),kE n F.xt.val o st->st.val (.tmp j) = .bp id 0->st.look id=some oj->K {st with own:=zD id ob st.own}->zS P o st K) \/
  (∃ id ob o0,F'=F.push (.bst id ob) none F.hs (YM id ob F.ow)/\ob.lo n0/\za st0.own id=some o0/\id∈bs /\
   ∀ (st:St) (K:St->Prop),kE n F.xt.val o st->st.look id=some o0->K {st with own:=zD id ob st.own}->zS P o st K):=by
 unfold Fh at h
 split at h
 .rename_i ti l V hl
  rw[zv] at h;simp only[Bool.and_eq_true,beq_iff] at h;obtain⟨⟨X,h2⟩,h⟩:=h;have E:F.xt.val x≠.junk:=by intro e;rw[e] at hl;simp[yP] at hl
  have J:x∈o.op.operands:=by rw[O];simp[Op.operands]
  split at h
  .rename_i T cells Y
   rw[zv,qF] at h;obtain⟨Z,h⟩:=h;cases h;refine .inl ⟨_,.box T cells,rfl,trivial,Ft (L j _ Y) (gJ h2),Y,trivial,λst K id A B G C=>?_⟩
   unfold zS;rw[O];simp only;rw[Q,M.ti V];simp only;unfold kh;rw[B];simp only;rw[G];simp only;rw[A.2 x J E,hl];exact⟨X,by omega,C⟩
  .cases h
  .split at h
   .rename_i id off hv0
    split at h
    .rename_i T cells hob
     rw[zv] at h;simp only[Bool.and_eq_true,qF,any_beq] at h;obtain⟨⟨⟨Z,I⟩,N⟩,h⟩:=h;cases h;refine .inr ⟨id,_,.box T cells,rfl,Ft (gJ N) (gJ h2),?_,I,λst K A G C=>?_⟩
     .have:=H.look;rw[<-this] at hob;exact hob
     .unfold zS;rw[O];simp only
      rw[Q,M.ti V];simp only;unfold kh;rw[A.2 (.tmp j) (by rw[O];simp[Op.operands]) (by rw[hv0];simp),hv0];simp only
      rw[G];simp only;rw[A.2 x J E,hl];exact⟨X,Z,C⟩
    .cases h
   .cases h
 .cases h
end
end Go.V
namespace Go.V
variable [Dr] [Ov]
open Go.RowKit
theorem Fv{α:Type}:∀ {l:List (Nat×α)} {i:Nat} {o:α},(l.map (·.1)).Nodup->(i,o)∈l->za l i=some o
 |(k,u)::r,i,o,H,h=>by
  simp only[List.map_cons,List.nodup_cons] at H;simp only[za];rcases List.mem_cons.1 h with e | h
  .cases e;simp
  .rw[if_neg (λe=>H.1 (by rw[e];exact List.mem_map.2 ⟨(i,o),h,rfl⟩))]
   exact Fv H.2 h
theorem Fz{α:Type}{p:Nat->Bool}:∀ {l:List (Nat×α)} {i:Nat} {o:α},za (l.filter λx=>p x.1) i=some o->p i=true/\za l i=some o
 | [],i,o,h=>by simp[za] at h
 |(k,u)::r,i,o,h=>by
  simp only[List.filter_cons] at h;cases H:p k with
  |true=>
   simp only[H,if_true,za] at h;simp only[za];by_cases e:k=i
   .rw[if_pos e] at h ⊢;subst e;exact⟨H,h⟩
   .rw[if_neg e] at h ⊢;exact Fz h
  |false=>
   simp only[H,Bool.false_eq_true,if_false] at h;obtain⟨G,h2⟩:=Fz h;simp only[za];rw[if_neg (λe=>by subst e;rw[H] at G;cases G)]
   exact⟨G,h2⟩
theorem zge{o:Oper}{s:Sym}(l:List Oper):∀ (ss:List Sym) (st:St),l.length=ss.length->puts (l++[o]) (ss++[s]) st=(puts l ss st).put o.dst s:=by
 induction l with
 |nil=>
  intro ss st h;cases ss with
  |nil=>rfl
  |cons y ys=>simp at h
 |cons x r ih=>
  intro ss st h;cases ss with
  |nil=>simp at h
  |cons y ys=>exact ih ys (st.put x.dst y) (by simpa using h)
def Held(S:Seg)(i t:Nat)(ob:Obj'):Prop:=((∃ c,S.co c t ob)\/∃ m,m<i/\S.kd m=some (.qc t ob))/\∃ c ob0,c<i/\S.co c t ob0
def YU(P:Program)(S:Seg)(bs:List Nat)(i:Nat)(o:Oper):FK->Prop
 |.val s=>DStep P S.all o (S.zJ i) s/\Sym.lo S.st0.next s
 |.mk ob=>o.guard=none/\(∃ t,o.dst=some t)/\ob.lo S.st0.next /\
   ∀ (st:St) (K:St->Prop),Knows S i o st->K ((st.new ob).put o.dst (ref ob st.next))->zS P o st K
 |.app j src ob=>o.guard=none/\(∃ t,o.dst=some t)/\j∈tmpsOf S.all o/\(∀ k,src=some k->k≠j/\k∈tmpsOf S.all o)/\ob.lo S.st0.next/\qB ob /\
   ∃ oj ok,Held S i j oj/\qB oj/\(∀ k,src=some k->Held S i k ok/\qB ok) /\
   ∀ (st:St) (K:St->Prop) (id:Nat),Knows S i o st->st.val (.tmp j) = .ar id->st.look id=some oj->(∀ k,src=some k->∃ id',id'≠id/\st.val (.tmp k) = .ar id'/\st.look id'=some ok) ->
    K ((st.renew id ob).put o.dst (.ar id))->zS P o st K
 |.qc j ob=>o.guard=none/\o.dst=none/\j∈tmpsOf S.all o/\ob.lo S.st0.next/\vF ob/\∃ oj,Held S i j oj/\vF oj /\
   ∀ (st:St) (K:St->Prop) (id:Nat),Knows S i o st->st.val (.tmp j) = .bp id 0->st.look id=some oj->K {st with own:=zD id ob st.own}->zS P o st K
 |.bst id ob=>o.guard=none/\o.dst=none/\ob.lo S.st0.next/\id∈bs/\∃ o0,za S.st0.own id=some o0 /\
   ∀ (st:St) (K:St->Prop),Knows S i o st->st.look id=some o0->K {st with own:=zD id ob st.own}->zS P o st K
structure Ext(S S':Seg):Prop where
 all:S'.all=S.all
 st0:S'.st0=S.st0
 kd:∀ m k,S.kd m=some k->S'.kd m=some k
theorem Ext.co{S S':Seg}(h:Ext S S'){c t:Nat}{ob:Obj'}(H:S.co c t ob):S'.co c t ob:=by
 obtain⟨o,k,G,h2,F,E⟩:=H
 exact⟨o,k,by rw[h.all];exact G,h.kd c k h2,F,E⟩
theorem Ext.held{S S':Seg}(h:Ext S S'){i t:Nat}{ob:Obj'}(H:Held S i t ob):Held S' i t ob:=by
 obtain⟨G,c,ob0,h2,F⟩:=H
 exact⟨G.elim (λ⟨c,E⟩=>.inl ⟨c,h.co E⟩) (λ⟨m,K,J⟩=>.inr ⟨m,K,h.kd _ _ J⟩),c,ob0,h2,h.co F⟩
theorem Ext.pre{P:Program}{S S':Seg}(h:Ext S S'){bs:List Nat}{i:Nat}{o:Oper}{k:FK}(hs:S'.zJ i=S.zJ i)(F:YU P S bs i o k):YU P S' bs i o k:=by
 have H:∀ st,Knows S' i o st->Knows S i o st:=λst E=>by unfold Knows at E ⊢;rw[hs,h.st0] at E;exact E
 cases k with
 |val s=>simp only[YU] at F ⊢;rw[h.all,hs,h.st0];exact F
 |mk ob=>
  obtain⟨J,h2,L,M⟩:=F;exact⟨J,h2,by rw[h.st0];exact L,λst K E=>M st K (H st E)⟩
 |app j src ob=>
  obtain⟨J,h2,L,M,O,Q,oj,ok,T,V,X,G⟩:=F;exact⟨J,h2,by rw[h.all];exact L,by rw[h.all];exact M,by rw[h.st0];exact O,Q,oj,ok,h.held T,V,λk E=>⟨h.held (X k E).1,(X k E).2⟩,λst K id E=>G st K id (H st E)⟩
 |qc j ob=>
  obtain⟨J,h2,L,M,O,oj,Q,T,V⟩:=F;exact⟨J,h2,by rw[h.all];exact L,by rw[h.st0];exact M,O,oj,h.held Q,T,λst K id E=>V st K id (H st E)⟩
 |bst id ob=>
  obtain⟨J,h2,L,M,o0,O,Q⟩:=F;exact⟨J,h2,by rw[h.st0];exact L,M,o0,by rw[h.st0];exact O,λst K E=>Q st K (H st E)⟩
def FA(S:Seg)(i t:Nat)(ob:Obj'):Prop:=((∃ c,S.co c t ob)/\(∀ m k,S.kd m=some k->takes t k=true->False)\/∃ m,m<i/\S.kd m=some (.qc t ob))/\∃ c ob0,c<i/\S.co c t ob0
structure FInv(P:Program)(all:List Oper)(lo:Nat)(st0:St)(own0:List (Nat×Obj'))(bs:List Nat)(F:XF)(i:Nat):Prop where
 len:F.rks.length=i-lo/\lo<=i/\i<=all.length
 ag:Ag (Seg.zJ ⟨all,lo,i,F.rks.reverse,st0,λ_=>own0⟩ i) F.xt
 pre:∀ j o k,all[j]?=some o->Seg.kd ⟨all,lo,i,F.rks.reverse,st0,λ_=>own0⟩ j=some k->zY o.dst st0.n=true/\YU P ⟨all,lo,i,F.rks.reverse,st0,λ_=>own0⟩ bs j o k
 hs:∀ t ob,(t,ob)∈F.hs->FA ⟨all,lo,i,F.rks.reverse,st0,λ_=>own0⟩ i t ob/\t+1<4096/\ob.lo st0.next
 hsn:(F.hs.map (·.1)).Nodup
 owk:F.ow.map (·.1)=st0.own.map (·.1)
 ow:(st0.own.map (·.1)).Nodup->∀ id o,(id,o)∈F.ow->(∃ m,Seg.kd ⟨all,lo,i,F.rks.reverse,st0,λ_=>own0⟩ m=some (.bst id o))\/(za st0.own id=some o/\∀ m ob,Seg.kd ⟨all,lo,i,F.rks.reverse,st0,λ_=>own0⟩ m≠some (.bst id ob))
section
variable {P:Program} {Γ:XG} {call:Caller} {all:List Oper} {lo:Nat} {st0:St} {own0:List (Nat×Obj')} {bs:List Nat} {F F':XF} {i:Nat} {o:Oper} {k:FK}
theorem NJ{ks:List FK}(G:ks.length=i-lo)(H:lo<=i)(m:Nat):Seg.kd ⟨all,lo,i+1,ks++[k],st0,λ_=>own0⟩ m=if m=i then some k else Seg.kd ⟨all,lo,i,ks,st0,λ_=>own0⟩ m:=by
 unfold Seg.kd
 simp only
 by_cases e:m=i
 .subst e
  rw[if_pos (by omega),if_pos rfl,List.getElem?_append_right (by omega),G];simp
 .rw[if_neg e]
  by_cases h:lo<=m/\m<i
  .rw[if_pos (by omega),if_pos h,List.getElem?_append_left (by omega)]
  .rw[if_neg (by omega),if_neg h]
theorem QU{ks:List FK}(G:ks.length=i-lo)(H:lo<=i){m:Nat}(F:m<=i):Seg.zJ ⟨all,lo,i+1,ks++[k],st0,λ_=>own0⟩ m=Seg.zJ ⟨all,lo,i,ks,st0,λ_=>own0⟩ m:=by
 unfold Seg.zJ
 simp only
 rw[List.map_append,List.take_append_of_le_length (by simp;omega)]
theorem NK{ks:List FK}(F:ks.length=i-lo)(H:lo<=i)(E:all[i]?=some o):Seg.zJ ⟨all,lo,i+1,ks++[k],st0,λ_=>own0⟩ (i+1)=(Seg.zJ ⟨all,lo,i,ks,st0,λ_=>own0⟩ i).put o.dst k.sym:=by
 have G:=(List.getElem?_eq_some_iff.1 E).1
 unfold Seg.zJ
 simp only
 have e1:(all.drop lo).take (i+1-lo)=(all.drop lo).take (i-lo)++[o]:=by
  have:i+1-lo=i-lo+1:=by omega
  rw[this,List.take_add_one,List.getElem?_drop];have:lo+(i-lo)=i:=by omega
  rw[this,E];rfl
 have e2:((ks++[k]).map FK.sym).take (i+1-lo)=(ks.map FK.sym).take (i-lo)++[k.sym]:=by
  rw[List.map_append,List.take_of_length_le (by simp;omega),List.take_of_length_le (by simp;omega)];rfl
 rw[e1,e2,zge _ _ _ (by simp;omega)]
theorem FInv.ext(H:FInv P all lo st0 own0 bs F i):Ext ⟨all,lo,i,F.rks.reverse,st0,λ_=>own0⟩ ⟨all,lo,i+1,(k::F.rks).reverse,st0,λ_=>own0⟩:=by
 refine⟨rfl,rfl,λm k' h=>?_⟩
 rw[List.reverse_cons,NJ (by simpa using H.len.1) H.len.2.1,if_neg (λe=>by have:=(Seg.qQ h).2;simp at this;omega)];exact h
theorem FInv.push(N:yv all=true)(hI:FInv P all lo st0 own0 bs F i)(ho:all[i]?=some o)(Q:qS o.dst st0.n=true){dst:Option Nat}(T:dst=o.dst){V ow':List (Nat×Obj')}
  (E:YU P ⟨all,lo,i+1,(k::F.rks).reverse,st0,λ_=>own0⟩ bs i o k)
  (S:∀ t ob,(t,ob)∈V->((t,ob)∈F.hs/\takes t k=false)\/(k.made=some ob/\o.dst=some t)\/(k = .qc t ob/\∃ ob0,(t,ob0)∈F.hs))
  (W:(V.map (·.1)).Nodup)
  (B:(ow'=F.ow/\∀ id ob,k≠.bst id ob)\/∃ id ob,k = .bst id ob/\ow'=zD id ob F.ow):FInv P all lo st0 own0 bs (F.push k dst V ow') (i+1):=by
 subst T
 have H0:=(List.getElem?_eq_some_iff.1 ho).1
 have hl:F.rks.reverse.length=i-lo:=by simpa using hI.len.1
 have K:=hI.ext (k:=k)
 have L:=λm=>NJ (all:=all) (st0:=st0) (own0:=own0) (k:=k) hl hI.len.2.1 m
 have G:(k::F.rks).reverse=F.rks.reverse++[k]:=by simp
 refine⟨⟨by simp only[XF.push,List.length_cons];have:=hI.len;omega,by have:=hI.len;omega,H0⟩,?_,?_,?_,W,?_,?_⟩
 .simp only[XF.push]
  rw[G,NK hl hI.len.2.1 ho];exact hI.ag.put Q _
 .intro j y k' hj H
  simp only[XF.push] at H ⊢;rw[G,L] at H;by_cases e:j=i
  .subst e
   rw[if_pos rfl] at H;cases H;rw[ho] at hj;cases hj;refine⟨?_,E⟩
   have:=(wE Q).1
   unfold zY;split
   .rename_i t ht;simpa using this t ht
   .rfl
  .rw[if_neg e] at H
   obtain⟨h1,h2⟩:=hI.pre j y k' hj H;refine⟨h1,K.pre ?_ h2⟩
   rw[G];exact QU hl hI.len.2.1 (by have:=(Seg.qQ H).2;simp at this;omega)
 .intro t ob J
  simp only[XF.push];have M:Seg.kd ⟨all,lo,i+1,(k::F.rks).reverse,st0,λ_=>own0⟩ i=some k:=by rw[G,L,if_pos rfl]
  have noOld:o.dst=some t->∀ c ob0,¬(c<i/\Seg.co ⟨all,lo,i+1,(k::F.rks).reverse,st0,λ_=>own0⟩ c t ob0):=by
   rintro hd c ob0 ⟨hc,y,k2,h1,_,h3,_⟩
   exact absurd hd ((jP N h1 ho hc).1 t h3).2
  rcases S t ob J with⟨h1,h2⟩ | ⟨h1,h2⟩ | ⟨h1,ob1,H1⟩
  .obtain⟨⟨hr,c,ob0,H2,X⟩,Y,Z⟩:=hI.hs t ob h1
   refine⟨⟨?_,c,ob0,by omega,K.co X⟩,Y,Z⟩
   rcases hr with⟨⟨c',Hb⟩,Hc⟩ | ⟨m,hm,H⟩
   .refine .inl ⟨⟨c',K.co Hb⟩,λm k' H ht=>?_⟩
    rw[G,L] at H;by_cases e:m=i
    .rw[if_pos e] at H;cases H;rw[h2] at ht;cases ht
    .rw[if_neg e] at H;exact Hc m k' H ht
   .exact .inr ⟨m,by omega,K.kd _ _ H⟩
  .have C:Seg.co ⟨all,lo,i+1,(k::F.rks).reverse,st0,λ_=>own0⟩ i t ob:=⟨o,k,ho,M,h2,h1⟩
   have A:ob.lo st0.next:=by
    cases k <;> simp only[FK.made] at h1 <;> cases h1
    .exact E.2.2.1
    .exact E.2.2.2.2.1
   refine⟨⟨.inl ⟨⟨i,C⟩,λm k' H ht=>?_⟩,i,ob,by omega,C⟩,(wE Q).2 t h2,A⟩
   -- a taker of t names an elder maker
   have hp:YU P ⟨all,lo,i+1,(k::F.rks).reverse,st0,λ_=>own0⟩ bs m (all[m]?.getD o) k'/\m<=i:=by
    rw[G,L] at H;by_cases e:m=i
    .subst e;rw[if_pos rfl] at H;cases H;rw[ho];exact⟨E,Nat.le_refl _⟩
    .rw[if_neg e] at H
     have I:=(Seg.qQ H).2;simp at I
     have hm:all[m]?=some all[m]:=List.getElem?_eq_getElem (by omega)
     rw[hm];refine⟨K.pre ?_ (hI.pre m _ k' hm H).2,by omega⟩
     rw[G];exact QU hl hI.len.2.1 (by omega)
   obtain⟨hp,I⟩:=hp;have old:∀ ob',Held ⟨all,lo,i+1,(k::F.rks).reverse,st0,λ_=>own0⟩ m t ob'->False:=λob' hh=>by
    obtain⟨_,c,ob0,h3,h4⟩:=hh;exact noOld h2 c ob0 ⟨by omega,h4⟩
   cases k' with
   |app j src ob'=>
    obtain⟨_,_,_,_,_,_,oj,ok,h7,_,h9,_⟩:=hp;simp only[takes,Bool.or_eq_true,beq_iff] at ht;rcases ht with rfl | ht
    .exact old _ h7
    .split at ht
     .rename_i k2;rw[beq_iff] at ht;subst ht;exact old _ (h9 _ rfl).1
     .cases ht
   |qc j ob'=>
    obtain⟨_,_,_,_,_,oj,h7,_⟩:=hp;simp only[takes,beq_iff] at ht;subst ht;exact old _ h7
   |_=>simp[takes] at ht
  .subst h1
   obtain⟨_,_,_,Z,_,oj,⟨_,c,ob0,H2,X⟩,_⟩:=E;have Y:t+1<4096:=(hI.hs t ob1 H1).2.1
   exact⟨⟨.inr ⟨i,by omega,M⟩,c,ob0,by omega,X⟩,Y,Z⟩
 .simp only[XF.push]
  rcases B with⟨rfl,_⟩ | ⟨id,ob,rfl,rfl⟩
  .exact hI.owk
  .obtain⟨_,_,_,_,o0,h5,_⟩:=E
   rw[Yh (by rw[hI.owk];exact List.mem_map.2 ⟨_,yp h5,rfl⟩)]
   exact hI.owk
 .intro hn id o' J
  simp only[XF.push] at J ⊢;rw[G];have Hd:(F.ow.map (·.1)).Nodup:=by rw[hI.owk];exact hn
  have old:∀ {id o'},(id,o')∈F.ow->(∀ ob,k≠.bst id ob)->(∃ m,Seg.kd ⟨all,lo,i+1,F.rks.reverse++[k],st0,λ_=>own0⟩ m=some (.bst id o'))\/(za st0.own id=some o'/\∀ m ob,Seg.kd ⟨all,lo,i+1,F.rks.reverse++[k],st0,λ_=>own0⟩ m≠some (.bst id ob)):=by
   intro id o' hm O;rcases hI.ow hn id o' hm with⟨m,H⟩ | ⟨h1,h2⟩
   .exact .inl ⟨m,by rw[<-G];exact K.kd _ _ H⟩
   .refine .inr ⟨h1,λm ob H=>?_⟩
    rw[L] at H;by_cases e:m=i
    .rw[if_pos e] at H;cases H;exact O ob rfl
    .rw[if_neg e] at H;exact h2 m ob H
  rcases B with⟨rfl,O⟩ | ⟨id',ob,rfl,rfl⟩
  .exact old J λob=>O id ob
  .rcases Yi Hd J with⟨rfl,rfl⟩ | ⟨O,hm⟩
   .exact .inl ⟨i,by rw[L,if_pos rfl]⟩
   .exact old hm λob' e=>by cases e;exact O rfl
end
end Go.V
namespace Go.V
variable [Dr] [Ov]
open Go.RowKit
theorem RegI.mono{P:Program}{all:List Oper}{K K':St->Prop}(H:∀ st,K st->K' st){pos:Nat}{st:St}(h:RegI P all K pos st):RegI P all K' pos st:=by
 induction h with
 |done h=>exact .done (H _ h)
 |tot K1 G h2 F _ ih=>exact .tot K1 G h2 F ih
 |seg ks own0 fins own1 G h2 F _ ih=>exact .seg ks own0 fins own1 G h2 F ih
theorem vZ{j:Nat}{l:List (Nat×Obj')}{x:Nat×Obj'}(h:x∈hdrop j l):x∈l/\x.1≠j:=by
 unfold hdrop at h
 obtain⟨H,h2⟩:=List.mem_filter.1 h
 refine⟨H,λe=>?_⟩
 rw[beq_iff.2 e] at h2;cases h2
theorem gW{j:Nat}{l:List (Nat×Obj')}(h:(l.map (·.1)).Nodup):((hdrop j l).map (·.1)).Nodup:=h.sublist (List.Sublist.map _ List.filter_sublist)
section
variable {P:Program} {Γ:XG} {call:Caller} {all:List Oper} {lo:Nat} {st0:St} {s0:XS} {own0:List (Nat×Obj')} {bs:List Nat} {F F':XF} {i:Nat} {o:Oper} {k:FK}
theorem FA.held{S:Seg}{i t:Nat}{ob:Obj'}(h:FA S i t ob):Held S i t ob:=⟨h.1.elim (λh=>.inl h.1) .inr,h.2⟩
theorem FInv.knows(H:FInv P all lo st0 own0 bs F i){st:St}(h:Knows ⟨all,lo,i+1,(k::F.rks).reverse,st0,λ_=>own0⟩ i o st):kE st0.n F.xt.val o st:=by
 obtain⟨G,h2⟩:=h
 refine⟨G,?_⟩
 rw[List.reverse_cons,QU (by simpa using H.len.1) H.len.2.1 (Nat.le_refl _),H.ag.val] at h2
 exact h2
theorem FInv.fresh(H:yv all=true)(G:FInv P all lo st0 own0 bs F i)(E:all[i]?=some o){d:Nat}(K:o.dst=some d){ob:Obj'}:(d,ob)∉F.hs:=by
 intro J
 obtain⟨⟨_,c,ob0,L,⟨y,k2,M,_,O,_⟩⟩,_⟩:=G.hs d ob J
 exact((jP H M E L).1 d O).2 K
theorem FInv.fresh'(H:yv all=true)(G:FInv P all lo st0 own0 bs F i)(E:all[i]?=some o){d:Nat}(K:o.dst=some d){l:List (Nat×Obj')}(J:∀ x∈l,x∈F.hs):d∉l.map (·.1):=by
 intro L
 obtain⟨⟨t,ob⟩,M,h2⟩:=List.mem_map.1 L
 simp at h2;subst h2
 exact G.fresh H E K (J _ M)
theorem zc7(M:yv all=true)(hg:XGood P Γ)(hc:yY P call)(G:Ag st0 s0)(hI:FInv P all lo st0 own0 bs F i)(ho:all[i]?=some o)(h:Fj Γ call all bs s0 F o=some F'):FInv P all lo st0 own0 bs F' (i+1):=by
 unfold Fj at h
 rw[zv] at h
 obtain⟨hd,h⟩:=h
 rw[<-G.n] at hd
 have A:zY o.dst st0.n=true:=by
  have:=(wE hd).1
  unfold zY;split
  .rename_i t ht;simpa using this t ht
  .rfl
 have O:=λk=>hI.ext (k:=k)
 split at h
 .rename_i xs' ts d Q T H
  split at h
  .rename_i j x t t' hx ht
   have e1:xs' = #[.tmp j,x]:=by cases xs';simp at hx;rw[hx]
   have e2:ts = #[t,t']:=by cases ts;simp at ht;rw[ht]
   subst e1;subst e2;obtain⟨src,ob,oj,ok,rfl,C,J,hj,Z,L,E⟩:=zei hg A Q h;rw[gU] at hj;have X:=yp hj;have V:∀ x,Operand.tmp x∈o.op.operands->x∈tmpsOf all o:=λx hx=>gv hx
   refine hI.push M ho hd rfl ?_ ?_ ?_ (.inl ⟨rfl,λ_ _ e=>by cases e⟩)
   .refine⟨T,⟨d,H⟩,V j (by rw[Q];simp[Op.operands,Call.operands]),λk hk=>⟨(L k hk).2.1,V k (by rw[Q,(L k hk).1];simp[Op.operands,Call.operands])⟩,by rw[<-G.next] at J;exact J,C,
     oj,ok,(O _).held (hI.hs j oj X).1.held,Z,λk hk=>⟨(O _).held (hI.hs k ok (by have:=(L k hk).2.2.1;rw[gU] at this;exact yp this)).1.held,(L k hk).2.2.2⟩,λst K id hk=>E st K id (hI.knows hk)⟩
   .intro t2 ob2 hm
    rcases List.mem_cons.1 hm with e | hm
    .cases e;exact .inr (.inl ⟨rfl,H⟩)
    .obtain⟨h1,h2⟩:=vZ hm
     left
     have Y:Nat.beq j t2=false:=by cases hb:Nat.beq j t2 with | false=>rfl | true=>exact absurd (beq_iff.1 hb).symm h2
     cases src with
     |none=>exact⟨h1,by simp[takes,Y]⟩
     |some k=>
      obtain⟨h3,h4⟩:=vZ h1;have I:Nat.beq k t2=false:=by cases hb:Nat.beq k t2 with | false=>rfl | true=>exact absurd (beq_iff.1 hb).symm h4
      exact⟨h3,by simp[takes,Y,I]⟩
   .simp only[List.map_cons,List.nodup_cons]
    cases src with
    |none=>exact⟨hI.fresh' M ho H λx hx=>(vZ hx).1,gW hI.hsn⟩
    |some k=>exact⟨hI.fresh' M ho H λx hx=>(vZ (vZ hx).1).1,gW (gW hI.hsn)⟩
  .cases h
 .rename_i t j x Q T H
  have N:∀ k ob,vm F.hs k=some ob->ob.lo s0.next:=λk ob hk=>by rw[<-G.next];rw[gU] at hk;exact(hI.hs k ob (yp hk)).2.2
  have S:j∈tmpsOf all o:=gv (by rw[Q];simp[Op.operands])
  rcases zej (n:=st0.n) hg G N Q H h with⟨ob,oj,rfl,hb,J,hj,W,E⟩ | ⟨id,ob,o0,rfl,J,H0,H1,E⟩
  .rw[gU] at hj
   have X:=yp hj;refine hI.push M ho hd H.symm ?_ ?_ ?_ (.inl ⟨rfl,λ_ _ e=>by cases e⟩)
   .exact⟨T,H,S,by rw[<-G.next] at J;exact J,hb,oj,(O _).held (hI.hs j oj X).1.held,W,λst K id hk=>E st K id (hI.knows hk)⟩
   .intro t2 ob2 hm
    rcases List.mem_cons.1 hm with e | hm
    .cases e;exact .inr (.inr ⟨rfl,oj,X⟩)
    .obtain⟨h1,h2⟩:=vZ hm
     have Y:Nat.beq j t2=false:=by cases hb:Nat.beq j t2 with | false=>rfl | true=>exact absurd (beq_iff.1 hb).symm h2
     exact .inl ⟨h1,by simp[takes,Y]⟩
   .simp only[List.map_cons,List.nodup_cons]
    refine⟨λhm=>?_,gW hI.hsn⟩
    obtain⟨⟨t2,ob2⟩,h1,h2⟩:=List.mem_map.1 hm;exact(vZ h1).2 h2
  .refine hI.push M ho hd H.symm ?_ ?_ hI.hsn (.inr ⟨id,ob,rfl,F5 _ _ _⟩)
   .exact⟨T,H,by rw[<-G.next] at J;exact J,H1,o0,H0,λst K hk=>E st K (hI.knows hk)⟩
   .exact λt2 ob2 hm=>.inl ⟨hm,rfl⟩
 .rename_i H2 hn2
  split at h
  .rename_i d ob T H B
   cases h;rw[<-G.next] at B;obtain⟨J,E⟩:=zgd (n:=st0.n) hg A B;refine hI.push M ho hd H.symm ?_ ?_ ?_ (.inl ⟨rfl,λ_ _ e=>by cases e⟩)
   .exact⟨T,⟨d,H⟩,J,λst K hk=>E st K (hI.knows hk)⟩
   .intro t2 ob2 hm
    rcases List.mem_cons.1 hm with e | hm
    .cases e;exact .inr (.inl ⟨rfl,H⟩)
    .exact .inl ⟨hm,rfl⟩
   .simp only[List.map_cons,List.nodup_cons]
    exact⟨hI.fresh' M ho H λx hx=>hx,hI.hsn⟩
  .split at h
   .rename_i s hs
    rw[zv] at h;obtain⟨J,h⟩:=h;cases h;refine hI.push M ho hd rfl ?_ (λt2 ob2 hm=>.inl ⟨hm,rfl⟩) hI.hsn (.inl ⟨rfl,λ_ _ e=>by cases e⟩)
    refine⟨?_,by rw[<-G.next] at J;exact Gk J⟩
    rw[List.reverse_cons,QU (by simpa using hI.len.1) hI.len.2.1 (Nat.le_refl _)]
    exact zc6 hg hc hI.ag hs
   .cases h
theorem NL(G:yv all=true)(K:XGood P Γ)(J:yY P call)(H:Ag st0 s0):∀ {r:List Oper} {i hi:Nat} {F F':XF},all.drop i=r->FInv P all lo st0 own0 bs F i->QT Γ call all bs s0 i r F=some (F',hi)->FInv P all lo st0 own0 bs F' hi/\i<=hi
 | [],i,hi,F,F',L,M,h=>by simp only[QT] at h;cases h;exact⟨M,Nat.le_refl _⟩
 |o::r,i,hi,F,F',L,M,h=>by
  simp only[QT] at h;have O:all[i]?=some o:=by
   have:=congrArg (λl:List Oper=>l[0]?) L
   simpa using this
  split at h
  .cases h;exact⟨M,Nat.le_refl _⟩
  .split at h
   .rename_i F1 Q
    have E:all.drop (i+1)=r:=by
     have:=congrArg List.tail L
     simpa using this
    obtain⟨g1,g2⟩:=NL G K J H E (zc7 G K J H M O Q) h;exact⟨g1,by omega⟩
   .cases h
theorem NN{t:Nat}:∀ {i:Nat} {l:List Oper} {m:Nat},m∈readers all t i l↔∃ o,i<=m/\l[m-i]?=some o/\t∈tmpsOf all o
 |i,[],m=>by simp[readers]
 |i,o::r,m=>by
  have ih:=NN (t:=t) (i:=i+1) (l:=r) (m:=m);have step:(∃ o',i+1<=m/\r[m-(i+1)]?=some o'/\t∈tmpsOf all o')↔∃ o',i<m/\(o::r)[m-i]?=some o'/\t∈tmpsOf all o':=by
   constructor
   .rintro⟨o',H,h2,G⟩
    refine⟨o',H,?_,G⟩
    have:m-i=(m-(i+1))+1:=by omega
    rw[this,List.getElem?_cons_succ];exact h2
   .rintro⟨o',H,h2,G⟩
    refine⟨o',H,?_,G⟩
    have:m-i=(m-(i+1))+1:=by omega
    rw[this,List.getElem?_cons_succ] at h2;exact h2
  simp only[readers];split
  .rename_i F
   rw[any_beq] at F;rw[List.mem_cons,ih,step];constructor
   .rintro(rfl | ⟨o',H,h2,G⟩)
    .exact⟨o,Nat.le_refl _,by simp,F⟩
    .exact⟨o',by omega,h2,G⟩
   .rintro⟨o',H,h2,G⟩
    rcases Nat.eq_or_lt_of_le H with e | E
    .exact .inl e.symm
    .exact .inr ⟨o',E,h2,G⟩
  .rename_i F
   rw[ih,step];constructor
   .rintro⟨o',H,h2,G⟩;exact⟨o',by omega,h2,G⟩
   .rintro⟨o',H,h2,G⟩
    rcases Nat.eq_or_lt_of_le H with e | E
    .subst e
     simp at h2;subst h2
     rw[any_beq.2 G] at F;cases F
    .exact⟨o',E,h2,G⟩
theorem NP{seg:List Oper}{ks:List FK}:∀ {i:Nat} {r:List Oper} {kr:List FK},YR all seg ks i r kr=true->∀ (c:Nat) (o:Oper) (k:FK) (t:Nat) (ob:Obj'),r[c]?=some o->kr[c]?=some k->k.made=some ob->o.dst=some t ->
  readers all t 0 seg=[]\/∃ m k',readers all t 0 seg=[m]/\i+c<m/\ks[m]?=some k'/\takes t k'=true
 |i,[],kr,h,c,o,k,t,ob,G,_,_,_=>by simp at G
 |i,y::r,[],h,c,o,k,t,ob,_,F,_,_=>by simp at F
 |i,y::r,k0::kr,h,c,o,k,t,ob,G,F,E,K=>by
  simp only[YR,Bool.and_eq_true] at h;cases c with
  |zero=>
   simp at G F
   subst G;subst F;have J:=h.1;rw[E,K] at J;simp only at J
   split at J
   .rename_i e;exact .inl e
   .rename_i m e
    rw[Bool.and_eq_true,yQ] at J;obtain⟨h2,L⟩:=J;split at L
    .rename_i k' H;exact .inr ⟨m,k',e,by omega,H,L⟩
    .cases L
   .cases J
  |succ c=>
   rcases NP h.2 c o k t ob (by simpa using G) (by simpa using F) E K with e | ⟨m,k',J,h2,L⟩
   .exact .inl e
   .exact .inr ⟨m,k',J,by omega,L⟩
theorem zc8:∀ {ks:List FK} {i j id:Nat} {ob ob':Obj'},(jy ks).Nodup->ks[i]?=some (.bst id ob)->ks[j]?=some (.bst id ob')->i=j:=by
 have mem:∀ {ks:List FK} {i id:Nat} {ob:Obj'},ks[i]?=some (.bst id ob)->id∈jy ks:=by
  intro ks;induction ks with
  |nil=>intro i id ob h;simp at h
  |cons k r ih=>
   intro i id ob h;cases i with
   |zero=>simp at h;subst h;simp[jy]
   |succ i=>
    have:=ih (i:=i) (by simpa using h)
    cases k <;> simp only[jy] <;> first | exact List.mem_cons_of_mem _ this | exact this
 intro ks
 induction ks with
 |nil=>intro i j id ob ob' _ h;simp at h
 |cons k r ih=>
  intro i j id ob ob' E hi K;have H:(jy r).Nodup:=by
   cases k <;> simp only[jy] at E <;> first | exact(List.nodup_cons.1 E).2 | exact E
  cases i with
  |zero=>
   cases j with
   |zero=>rfl
   |succ j=>
    simp at hi;subst hi
    simp only[jy] at E;exact absurd (mem (i:=j) (by simpa using K)) (List.nodup_cons.1 E).1
  |succ i=>
   cases j with
   |zero=>
    simp at K;subst K
    simp only[jy] at E;exact absurd (mem (i:=i) (by simpa using hi)) (List.nodup_cons.1 E).1
   |succ j=>
    have G:r[i]?=some (.bst id ob):=by simpa using hi
    have F:r[j]?=some (.bst id ob'):=by simpa using K
    have:=ih H G F
    omega
theorem NQ{xt:XS}:∀ {n:Nat} {l:List (Nat×Obj')} {u:Nat},(∀ t ob,(t,ob)∈l->t+1<4096)->Tr.get dep (YS xt n l) u=match za (vG n l) u with | some s=>some s | none=>xt.get u
 |n,[],u,h=>rfl
 |n,(t,ob)::r,u,h=>by
  simp only[YS,vG,za];rw[Tr.get_put dep _ t _ u (by simpa[dep] using h t ob (by simp))]
  by_cases e:t=u
  .rw[if_pos e,if_pos e]
  .rw[if_neg e,if_neg e];exact NQ λt' ob' H=>h t' ob' (List.mem_cons_of_mem _ H)
theorem Zb{α:Type}:∀ {l m:List (Nat×α)} {t:Nat},za (l++m) t=match za l t with | some s=>some s | none=>za m t
 | [],m,t=>rfl
 |(k,v)::r,m,t=>by
  simp only[List.cons_append,za];split
  .rfl
  .exact Zb
theorem NR(B:yv all=true){hi:Nat}(hI:FInv P all lo st0 own0 bs F hi)(M:∀ id o,za own0 id=some o->za st0.own id=some o/\id∉bs)(E:Ag st0 s0){xs':XS}(h:W5 all ((all.drop lo).take (hi-lo)) bs s0 F=some xs'):
  SegOk P ⟨all,lo,hi,F.rks.reverse,st0,λ_=>own0⟩/\SegEnd ⟨all,lo,hi,F.rks.reverse,st0,λ_=>own0⟩ F.hs F.ow/\Ag (Seg.fin ⟨all,lo,hi,F.rks.reverse,st0,λ_=>own0⟩ F.hs F.ow) xs':=by
 unfold W5 at h
 simp only at h
 rw[zv,Bool.and_eq_true] at h
 obtain⟨⟨O,C⟩,h⟩:=h
 cases h
 obtain⟨hl,H0,H1⟩:=hI.len
 obtain⟨S,hS⟩:∃ S:Seg,S=⟨all,lo,hi,F.rks.reverse,st0,λ_=>own0⟩:=⟨_,rfl⟩
 have pre:=hI.pre
 have X:=hI.hs
 have Y:=hI.ow
 have J:=hI.ag
 rw[<-hS] at pre X Y J ⊢
 have eall:S.all=all:=by rw[hS]
 have est:S.st0=st0:=by rw[hS]
 have G:∀ m,lo<=m->m<hi->((all.drop lo).take (hi-lo))[m-lo]?=all[m]?:=by
  intro m h1 h2;rw[List.getElem?_take,if_pos (by omega),List.getElem?_drop]
  have:lo+(m-lo)=m:=by omega
  rw[this]
 have H:∀ m k,S.kd m=some k->lo<=m/\m<hi/\F.rks.reverse[m-lo]?=some k:=by
  intro m k hk;rw[hS] at hk;have:=Seg.qQ hk
  unfold Seg.kd at hk;rw[if_pos this] at hk;exact⟨this.1,this.2,hk⟩
 have L:∀ m k,F.rks.reverse[m]?=some k->S.kd (lo+m)=some k:=by
  intro m k hk;have Z:=(List.getElem?_eq_some_iff.1 hk).1;simp at Z
  rw[hS];unfold Seg.kd;simp only
  rw[if_pos (by omega)]
  have:lo+m-lo=m:=by omega
  rw[this];exact hk
 have K:∀ t m,S.user t m->m-lo∈readers all t 0 ((all.drop lo).take (hi-lo))/\lo<=m:=by
  rintro t m ⟨y,k',h1,h2,h3⟩
  rw[eall] at h1 h3;obtain⟨g1,g2,_⟩:=H m k' h2;exact⟨NN.2 ⟨y,Nat.zero_le _,by rw[Nat.sub_zero,G m g1 g2];exact h1,h3⟩,g1⟩
 -- who reads a slot that was made here
 have one:∀ c t ob,S.co c t ob->(∀ m,¬S.user t m)\/∃ m k',(∀ m',S.user t m'->m'=m)/\c<m/\S.kd m=some k'/\takes t k'=true:=by
  rintro c t ob ⟨y,k',h1,h2,h3,h4⟩
  rw[eall] at h1;obtain⟨g1,g2,g3⟩:=H c k' h2;rcases NP O (c-lo) y k' t ob (by rw[G c g1 g2];exact h1) g3 h4 h3 with e | ⟨m,k2,e1,e2,e3,e4⟩
  .refine .inl λm hu=>?_
   have:=(K t m hu).1
   rw[e] at this;cases this
  .refine .inr ⟨lo+m,k2,λm' hu=>?_,by omega,L m k2 e3,e4⟩
   have:=K t m' hu
   rw[e1] at this;simp at this;omega
 have len':S.lo<=S.hi/\S.hi<=S.all.length/\S.ks.length=S.hi-S.lo:=by rw[hS];simp;omega
 have userOf:∀ {t m y},all[m]?=some y->(∃ k,S.kd m=some k)->t∈tmpsOf all y->S.user t m:=λh1 ⟨k,h2⟩ h3=>⟨_,k,by rw[eall];exact h1,h2,by rw[eall];exact h3⟩
 have stoBox:∀ {m t ob},S.kd m=some (.qc t ob)->vF ob/\S.user t m:=by
  intro m t ob hk;obtain⟨g1,g2,g3⟩:=H m _ hk;have hm:all[m]?=some all[m]:=List.getElem?_eq_getElem (by omega)
  obtain⟨_,_,_,h3,_,h5,_⟩:=pre m _ _ hm hk;rw[eall] at h3;exact⟨h5,userOf hm ⟨_,hk⟩ h3⟩
 have sok:SegOk P S:=by
  refine⟨by rw[eall];exact B,len',?_,?_,?_,?_,?_⟩
  .rintro t m m' ⟨c,ob,hc⟩ hu Q
   rcases one c t ob hc with h | ⟨x,_,h,_⟩
   .exact absurd hu (h m)
   .rw[h m hu,h m' Q]
  .intro c t ob m hc hu
   rcases one c t ob hc with h | ⟨x,_,h,h2,_⟩
   .exact absurd hu (h m)
   .rw[h m hu];exact h2
  .intro a b id ob ob' h1 h2
   obtain⟨g1,g2,g3⟩:=H a _ h1;obtain⟨g4,g5,g6⟩:=H b _ h2;have:=zc8 (JW C) g3 g6
   omega
  .intro _ id o' h1
   have I:za own0 id=some o':=by rw[hS] at h1;exact h1
   obtain⟨g1,g2⟩:=M id o' I;refine⟨by rw[est];exact g1,λm ob hk=>?_⟩
   obtain⟨q1,q2,q3⟩:=H m _ hk;have hm:all[m]?=some all[m]:=List.getElem?_eq_getElem (by omega)
   obtain⟨_,_,_,_,h4,_⟩:=pre m _ _ hm hk;exact(g2 h4).elim
  .intro m y k' hm hk
   rw[eall] at hm;obtain⟨N,hp⟩:=pre m y k' hm hk;refine⟨by rw[est];exact N,?_⟩
   have noU:(∀ t,takes t k'=false)->∀ t∈tmpsOf S.all y,¬S.U t:=by
    rintro T t ht ⟨c,ob,hc⟩
    rw[eall] at ht;have hu:=userOf hm ⟨k',hk⟩ ht;rcases one c t ob hc with h | ⟨x,k2,h,_,h3,h4⟩
    .exact h m hu
    .have:=h m hu;subst this
     rw[hk] at h3;cases h3;rw[T t] at h4;cases h4
   have takeU:∀ t∈tmpsOf S.all y,S.U t->takes t k'=true:=by
    rintro t ht ⟨c,ob,hc⟩
    rw[eall] at ht;have hu:=userOf hm ⟨k',hk⟩ ht;rcases one c t ob hc with h | ⟨x,k2,h,_,h3,h4⟩
    .exact absurd hu (h m)
    .have:=h m hu;subst this
     rw[hk] at h3;cases h3;exact h4
   cases k' with
   |val s=>exact⟨noU λt=>rfl,hp⟩
   |mk ob=>exact⟨hp.1,hp.2.1,noU λt=>rfl,hp.2.2⟩
   |app j src ob=>
    obtain⟨h1,h2,h3,h4,h5,h6,oj,ok,h7,h8,h9,W⟩:=hp;have made:∀ {t ob'},Held S m t ob'->qB ob'->∃ c,S.co c t ob':=by
     intro t ob' hh ha;rcases hh.1 with h | ⟨m',_,V⟩
     .exact h
     .have:=(stoBox V).1
      cases ob' <;> simp only[qB,vF] at ha this
    refine⟨h1,h2,λt ht hU=>?_,h3,h4,h5,h6,oj,ok,made h7 h8,h8,λk hk=>⟨made (h9 k hk).1 (h9 k hk).2,(h9 k hk).2⟩,W⟩
    have:=takeU t ht hU
    simp only[takes,Bool.or_eq_true,beq_iff] at this;rcases this with e | e
    .exact .inl e.symm
    .right
     split at e
     .rw[beq_iff] at e;rw[e]
     .cases e
   |qc j ob=>
    obtain⟨h1,h2,h3,h4,h5,oj,h6,h7,h8⟩:=hp;refine⟨h1,h2,λt ht hU=>?_,h3,h4,h5,oj,?_,h7,h8⟩
    .have:=takeU t ht hU
     simp only[takes,beq_iff] at this;exact this.symm
    .rcases h6.1 with h | ⟨m',Z,V⟩
     .exact h
     .obtain⟨_,c,ob0,_,hc⟩:=h6
      have Q:=(stoBox V).2;have hu:S.user j m:=userOf hm ⟨_,hk⟩ (by rw[eall] at h3;exact h3)
      rcases one c j ob0 hc with h | ⟨x,_,h,_⟩
      .exact absurd hu (h m)
      .have e1:=h m hu;have e2:=h m' Q;omega
   |bst id ob=>exact⟨hp.1,hp.2.1,noU λt=>rfl,hp.2.2.1,hp.2.2.2.2⟩
 refine⟨sok,⟨?_,hI.hsn,by rw[est];exact hI.owk,?_⟩,?_⟩
 .intro t ob hm
  obtain⟨⟨hr,c,ob0,_,hc⟩,_⟩:=X t ob hm;rcases hr with⟨⟨c',A⟩,T⟩ | ⟨m,_,hk⟩
  .refine⟨c',ob,A,.inl ⟨rfl,λm hu=>?_⟩⟩
   rcases one c' t ob A with h | ⟨x,k2,h,_,h3,h4⟩
   .exact h m hu
   .exact T x k2 h3 h4
  .exact⟨c,ob0,hc,.inr ⟨m,(stoBox hk).2,hk⟩⟩
 .rw[est];exact Y
 .refine⟨?_,?_,?_,?_,?_,λt=>?_⟩
  .show S.st0.n=_;rw[est];exact E.n
  .show S.st0.next+F.hs.length=_;rw[est,E.next]
  .show vk S.st0.next F.hs++F.ow=_;rw[est,E.next]
  .show S.st0.base=_;rw[est];exact E.base
  .show ∀ id,id<S.st0.base->id∈S.st0.moved->_;rw[est];exact E.moved
  .show za (vG S.st0.next F.hs++(S.zJ S.hi).slots) t=Tr.get dep (YS F.xt s0.next F.hs) t
   have ehi:S.hi=hi:=by rw[hS]
   rw[Zb,NQ (λt ob hm=>(hI.hs t ob hm).2.1),est,E.next,ehi]
   have:=J.slots t
   cases za (vG s0.next F.hs) t with
   |some s=>rfl
   |none=>exact this
theorem zek(O:XGood P Γ)(T:yY P call){xs xs':XS}{st:St}(H:Ag st xs){pos:Nat}(V:all[pos]?=some o)(h:jQ Γ call (λ_ _=>none) all [o] xs=some xs'):II P all pos st (λst'=>Ag st' xs'):=by
 intro X w0 β a w Y N Q Z
 have L:all.toArray[pos]?=some o:=by simpa using V
 unfold wpOp
 rw[L]
 simp only
 simp only[jQ] at h
 split at h
 .rename_i F
  simp only[Region.wanted,F,if_true];split at h
  .rename_i xs1 A
   cases h;exact .inl (JZ O T H Y (Ns A) N Q λa' w' st' β' G E=>Z a' w' st' β' G E)
  .cases h
 .rename_i j want F
  split at h
  .rename_i t B
   rw[<-H.slots] at h;split at h
   .rename_i b C
    have I:=Js (jO B) (UM Y C);simp only[Region.wanted,F,I];split at h
    .rename_i e
     have e:b=want:=by simpa using e
     subst e;simp only[beq_self_eq_true,if_true];split at h
     .rename_i xs1 A
      cases h;exact .inl (JZ O T H Y (Ns A) N Q λa' w' st' β' G E=>Z a' w' st' β' G E)
     .cases h
    .rename_i e
     have:(some b==some want)=false:=by simpa using e
     simp only[this,Bool.false_eq_true,if_false];rw[zv] at h;obtain⟨S,h⟩:=h;cases h;have K:∀ t,o.dst=some t->t<st.n:=λt e=>by rw[H.n];exact(wE S).1 t e
     exact Z _ w _ _ (H.put S _) (Y.yg K (by simp[Sym.lo]) (by simp[Sm,R]))
   .rename_i W
    obtain⟨M,J⟩:=Y.slots t _ W;simp only[Sm,R] at J;have I:yielded all.toArray a.tmps j=none:=Yz (jO B) J
    simp only[Region.wanted,F,I];have:((none:Option Bool)==some want)=false:=rfl
    simp only[this,Bool.false_eq_true,if_false];rw[zv] at h;obtain⟨S,h⟩:=h;cases h;have K:∀ t,o.dst=some t->t<st.n:=λt e=>by rw[H.n];exact(wE S).1 t e
    exact Z _ w _ _ (H.put S _) (Y.yg K (by simp[Sym.lo]) (by simp[Sm,R]))
   .cases h
  .cases h
theorem NS{st:St}{xs:XS}(H:Ag st xs){pos:Nat}(G:pos<=all.length)(bs:List Nat):FInv P all pos st (qG xs bs).xt.own bs (qG xs bs) pos/\∀ id o,za (qG xs bs).xt.own id=some o->za st.own id=some o/\id∉bs:=by
 have F:∀ m k,Seg.kd ⟨all,pos,pos,(qG xs bs).rks.reverse,st,λ_=>(qG xs bs).xt.own⟩ m=some k->False:=λm k h=>by have:=Seg.qQ h;simp at this;omega
 refine⟨⟨⟨by simp[qG],Nat.le_refl _,G⟩,?_,λj o k _ E=>absurd E (λh=>F _ _ h),λt ob h=>by simp[qG] at h,by simp[qG],by simp only[qG];rw[H.own],λK id o h=>.inr ⟨Fv K (by simp only[qG] at h;rw[H.own];exact h),λm ob E=>F _ _ E⟩⟩,?_⟩
 .have e:Seg.zJ ⟨all,pos,pos,(qG xs bs).rks.reverse,st,λ_=>(qG xs bs).xt.own⟩ pos = {st with own:=(qG xs bs).xt.own}:=by
   unfold Seg.zJ;simp[puts]
  rw[e];exact⟨H.n,H.next,rfl,H.base,H.moved,H.slots⟩
 .intro id o h
  cases bs with
  |nil=>simp only[qG] at h;rw[H.own];exact⟨h,by simp⟩
  |cons b r=>
   simp only[qG] at h;obtain⟨J,h2⟩:=Fz (p:=λi=>!(b::r).any (Nat.beq i)) h
   rw[H.own];refine⟨h2,λhm=>?_⟩
   rw[any_beq.2 hm] at J;cases J
theorem FB(E:yv all=true)(V:XGood P Γ)(X:yY P call):∀ {fuel pos:Nat} {xs xs':XS} {st:St},Ag st xs->pos<=all.length->YT Γ call all fuel pos xs=some xs'->RegI P all (λst'=>Ag st' xs') pos st
 |0,pos,xs,xs',st,H,G,h=>by simp[YT] at h
 |fuel+1,pos,xs,xs',st,H,G,h=>by
  simp only[YT] at h;split at h
  .rename_i e
   rw[beq_iff] at e;cases h;subst e;exact .done H
  .rename_i M
   have O:pos≠all.length:=λe=>by rw[beq_iff.2 e] at M;cases M
   split at h
   .cases h
   .rename_i o Y
    split at h
    .rename_i hp
     unfold W0 at hp;simp only[Bool.and_eq_true,Bool.or_eq_true,beq_iff] at hp;split at h
     .rename_i xs1 Z
      exact .tot (λst'=>Ag st' xs1) (by omega) (hp.2.elim .inr .inl) (zek V X H Y Z) λst' K=>FB E V X K (by omega) h
     .cases h
    ·(try simp only at h)
     generalize QS all xs pos (all.drop pos)=bs at h;split at h
     .rename_i F hi hs
      split at h
      .rename_i xs1 A
       rw[zv,Bool.or_eq_true,beq_iff] at h;obtain⟨J,h⟩:=h;obtain⟨Q,L⟩:=NS (P:=P) (all:=all) H G bs;obtain⟨B,T⟩:=NL E V X H rfl Q hs;obtain⟨g1,g2,g3⟩:=NR E B L H A;exact .seg F.rks.reverse (λ_=>_) F.hs F.ow g1 g2 (J.elim .inr .inl) (FB E V X g3 B.len.2.2 h)
      .cases h
     .cases h
theorem NT(G:P.follows .mixedOrders=true)(K:XGood P Γ)(J:yY P call):uv P (W6 Γ call):=by
 intro id ops xs xs' st E h
 unfold W6 at h
 rw[zv] at h
 obtain⟨F,h⟩:=h
 have L:=FB F K J E (Nat.zero_le _) h
 refine Qx G F ?_
 exact L.mono λst'' H=>⟨rfl,H⟩
end
end Go.V

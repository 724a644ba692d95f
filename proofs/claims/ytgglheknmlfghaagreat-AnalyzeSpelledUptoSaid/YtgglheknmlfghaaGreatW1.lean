/- A program logic of my own over the kit: part W1. It needs no conditions. -/
import Derived.Test.YtgglheknmlfghaaGreatB1
set_option linter.unusedVariables false
set_option linter.unusedSimpArgs false
set_option linter.unusedSectionVars false
namespace Go.V
variable [Dr] [Ov]
open Go.RowKit
def yda (P:Program) (all:List Oper) (m:Nat) (o:Oper):List Oper→St→(St→Prop)→Prop
 | [],st,K=>dop P o st K
 | x::r,st,K=>dstB x.dst st.n=true∧zkp P all x st (fun s=>Sym.lo m s∧yda P all m o r (st.put x.dst s) K)
section
variable {P:Program} {X:Nat→Prop} {w0:Base} {st:St} {β:Nat→Value} {a:Act} {w w':World} {all:List Oper}
end
attribute [simp] yda
end Go.V
namespace Go.V
variable [Dr] [Ov]
open Go.RowKit
def trOf:List (Nat×Sym)→Tr
 | []=>.leaf
 | (t,s)::r=>(trOf r).put dep t s
def xsOf (st:St):XS:=⟨st.n,st.next,trOf st.slots,st.own,st.base,st.moved⟩
def zxk (l:List (Nat×Sym)):Bool:=l.all fun x=>Nat.blt (x.1+1) 4096
theorem z1l : ∀ {l:List (Nat×Sym)} {u:Nat},zxk l=true→Tr.get dep (trOf l) u=zab l u
 | [],u,h=>Tr.zhr dep u
 | (t,s)::r,u,h=>by
  simp only [zxk,List.all_cons,Bool.and_eq_true] at h;have ht:t+1<4096:=by simpa using h.1
  simp only [trOf,zab];rw [Tr.get_put dep _ t s u (by simpa [dep] using ht),z1l (l:=r) h.2]
theorem yf3 {st:St} (h:zxk st.slots=true):Ag st (xsOf st) where
 n:=rfl
 next:=rfl
 own:=rfl
 base:=rfl
 moved:=fun _ _ h=>h
 slots:=fun t=>(z1l h).symm
section
variable {P:Program} {Γ:XG} {call:Caller}
end
end Go.V
namespace Go.V
variable [Dr] [Ov]
open Go.RowKit
def cutK (S:St) (Q:DE→St→Prop):DE→St→Prop
 | .normal,st=>Weak st S
 | e,st=>Q e st
def ze4:Nat→Code→Code
 | 0,_=>.skip
 | n+1,.seq a b=>.seq a (ze4 n b)
 | _+1,c=>c
def z9e:Nat→Code→Bool
 | 0,_=>true
 | n+1,.seq _ b=>z9e n b
 | _+1,_=>false
def zfr:Nat→Code→Code
 | 0,c=>c
 | n+1,.seq _ b=>zfr n b
 | _+1,_=>.skip
section
variable {P:Program} {st:St} {Q:DE→St→Prop}
theorem zco {id:Nat} {c:Code} (h:Triple P c (zbu id Q) st):Triple P (.block id c) Q st:=by
 intro X w0 β a w hm
 refine wp_block (wp_mono (h X w0 β a w hm) ?_)
 rintro e a' w' ⟨de,st',β',he,hq,hm'⟩
 cases e <;> cases de <;> simp only [exM] at he
 ·exact ⟨.normal,st',β',trivial,hq,hm'⟩
 ·subst he
  simp only [zbu] at hq;simp only [Exit.inBlock];split
  ·rename_i e;rw [if_pos e] at hq;exact ⟨.normal,st',β',trivial,hq,hm'⟩
  ·rename_i e;rw [if_neg e] at hq;exact ⟨.exit _,st',β',rfl,hq,hm'⟩
 ·exact ⟨.ret,st',β',trivial,hq,hm'⟩
theorem zcu {x y:Code} (h:Triple P x (evK P y Q) st) (hmix:P.follows .mixedOrders=true):Triple P (.seq x y) Q st:=by
 intro X w0 β a w hm
 refine wp_seq (wp_mono (h X w0 β a w hm) ?_)
 rintro e a' w' ⟨de,st',β',he,hq,hm'⟩
 cases e <;> cases de <;> simp only [exM] at he
 ·exact zaq hmix hq X w0 β' a' w' hm'
 ·subst he;exact ⟨.exit _,st',β',rfl,hq,hm'⟩
 ·exact ⟨.ret,st',β',trivial,hq,hm'⟩
theorem z4k {x y:Code} (S:St) (h:Triple P x (cutK S Q) st) (h2:Triple P y Q S):Triple P (.seq x y) Q st:=by
 intro X w0 β a w hm
 refine wp_seq (wp_mono (h X w0 β a w hm) ?_)
 rintro e a' w' ⟨de,st',β',he,hq,hm'⟩
 cases e <;> cases de <;> simp only [exM] at he
 ·exact h2 X w0 β' a' w' (hm'.weak hq)
 ·subst he;exact ⟨.exit _,st',β',rfl,hq,hm'⟩
 ·exact ⟨.ret,st',β',trivial,hq,hm'⟩
theorem zhz (hmix:P.follows .mixedOrders=true) (n:Nat) {c:Code} (S:St) (hs:z9e n c=true) : ∀ {st:St},ev P (ze4 n c) (cutK S Q) st→Triple P (zfr n c) Q S→Triple P c Q st:=by
 induction n generalizing c with
 | zero=>
  intro st h h2 X w0 β a w hm;exact h2 X w0 β a w (hm.weak h)
 | succ n ih=>
  intro st h h2;cases c <;> simp only [ze4,zfr,z9e,reduceCtorEq] at h h2 hs
  case seq x y=>
   intro X w0 β a w hm;simp only [ev] at h;refine wp_seq (wp_mono (zaq hmix h X w0 β a w hm) ?_)
   rintro e a' w' ⟨de,st',β',he,hq,hm'⟩
   cases e <;> cases de <;> simp only [exM] at he
   ·exact ih hs hq h2 X w0 β' a' w' hm'
   ·subst he;exact ⟨.exit _,st',β',rfl,hq,hm'⟩
   ·exact ⟨.ret,st',β',trivial,hq,hm'⟩
theorem zbc (hmix:P.follows .mixedOrders=true) {α:Type} {c:Code} {Q:DE→St→Prop} (S:α→St) (inv:α→Prop) (μ:α→Nat) (x0:α) (h0:inv x0) (hw:Weak st (S x0))
  (hr : ∀ x,inv x→Triple P c (afterLoop S inv μ x Q) (S x)):Triple P (.loop c) Q st:=by
 intro X w0 β a w hm
 let I:Nat→Act→World→Prop:=fun n a w=>∃ x β,inv x∧μ x=n∧Mods X w0 (S x) β a w
 have key : ∀ a w,(∃ n,I n a w)→∃ n,I n a w∧∀ m,I m a w→n≤m:=by
  intro a w ⟨n,hn⟩;induction n using Nat.strongRecOn with
  | _ n ih=>
   by_cases h : ∃ m,m<n∧I m a w
   ·obtain ⟨m,h1,h2⟩:=h;exact ih m h1 h2
   ·exact ⟨n,hn,fun m hm=>by rcases Nat.lt_or_ge m n with h' | h';exact absurd ⟨m,h',hm⟩ h;exact h'⟩
 classical
 let M:Act→World→Nat:=fun a w=>if h : ∃ n,I n a w then Classical.choose (key a w h) else 0
 refine wp_loop (fun a w=>∃ n,I n a w) M ⟨_,x0,β,h0,rfl,hm.weak hw⟩ ?_
 intro a w hI
 have hspec:=Classical.choose_spec (key a w hI)
 have hM:M a w=Classical.choose (key a w hI):=dif_pos hI
 rw [← hM] at hspec
 obtain ⟨⟨x,β',hx,hμ,hm'⟩,hmin⟩:=hspec
 refine wp_mono (hr x hx X w0 β' a w hm') ?_
 rintro e a' w' ⟨de,st',β'',he,hq,hm''⟩
 cases e <;> cases de <;> simp only [exM] at he
 ·obtain ⟨y,hy,hlt,hwk⟩:=hq
  have hI' : ∃ n,I n a' w':=⟨μ y,y,β'',hy,rfl,hm''.weak hwk⟩
  refine ⟨hI',?_⟩
  have hs':=Classical.choose_spec (key a' w' hI');have hM':M a' w'=Classical.choose (key a' w' hI'):=dif_pos hI'
  rw [← hM'] at hs';have:=hs'.2 (μ y) ⟨y,β'',hy,rfl,hm''.weak hwk⟩
  omega
 ·subst he;exact ⟨.exit _,st',β'',rfl,hq,hm''⟩
 ·exact ⟨.ret,st',β'',trivial,hq,hm''⟩
theorem zzo {S:St}:cutK S Q .normal st=Weak st S:=rfl
theorem z9f {S:St} (i:Nat):cutK S Q (.exit i) st=Q (.exit i) st:=rfl
theorem ycl {S:St}:cutK S Q .ret st=Q .ret st:=rfl
end
attribute [simp] zzo z9f ycl ze4 zfr
end Go.V
namespace Go.V
variable [Dr] [Ov]
open Go.RowKit
def ydb (P:Program) (all:List Oper) (m:Nat):List Oper→St→(St→Prop)→Prop
 | [],st,K=>K st
 | x::r,st,K=>dstB x.dst st.n=true∧zkp P all x st (fun s=>Sym.lo m s∧ydb P all m r (st.put x.dst s) K)
section
variable {P:Program} {st:St} {all:List Oper}
end
attribute [simp] ydb
end Go.V
namespace Go.V
variable [Dr] [Ov]
open Go.RowKit
def fmkB:Op→Bool
 | .box _ _ | .alloc _ | .makeMap _ none | .buildSlice _ _ _ | .assign (.const (.slice none 0 0))=>true
 | _=>false
def fmk (P:Program) (n0:Nat) (ρ:Operand→Sym) (ty:Nat) (K:Obj'→Prop):Op→Prop
 | .box T x=>match zbd (ρ x) with
  | some l=>Sym.los n0 l∧K (.box T l)
  | none=>False
 | .alloc T=>match TI.of P T with
  | some ti=>ti.zero.all (·.oneCell')=true∧K (.box T (ti.zero.map ofConst))
  | none=>False
 | .makeMap t none=>K (.map t [])
 | .assign (.const (.slice none 0 0))=>match TI.of P ty with
  | some ⟨.slice e,_,_,_,_⟩=>match TI.of P e with
   | some te=>K (.arr e te.size [])
   | none=>False
  | _=>False
 | .buildSlice t n parts=>match TI.of P t with
  | some ⟨.slice e,_,_,_,_⟩=>match TI.of P e with
   | some te=>match inOrder 0 parts.toList with
    | some l=>match zfy (l.map ρ),rowsOf te.size (l.map ρ) with
     | [],some rows=>l.length=n∧0<te.size∧n*te.size≤16777216∧K (.arr e te.size rows)
     | _,_=>False
    | none=>False
   | none=>False
  | _=>False
 | _=>False
def fsrc (hs:List (Nat×Obj')) (ρ:Operand→Sym) (x:Operand):Option (Option Nat×List (List D)):=
 match x with
 | .tmp k=>match zab hs k with
  | some (.arr _ _ rows)=>some (some k,rows)
  | some _=>none
  | none=>match ρ (.tmp k) with
   | .d (.sl l)=>some (none,l)
   | .nils=>some (none,[])
   | _=>none
 | x=>match ρ x with
  | .d (.sl l)=>some (none,l)
  | .nils=>some (none,[])
  | _=>none
def yer (src:Option Nat) (hs:List (Nat×Obj')):List (Nat×Obj'):=match src with
 | some k=>hdrop k hs
 | none=>hs
def fapp (P:Program) (hs:List (Nat×Obj')) (ρ:Operand→Sym) (j:Nat) (x:Operand) (t t' d:Nat) (K:FK→List (Nat×Obj')→Prop):Prop:=
 match zab hs j,TI.of P t with
 | some (.arr T sz rows),some ⟨.slice e,_,_,_,_⟩=>match TI.of P e,fsrc hs ρ x with
  | some te,some (src,l)=>(t'=t∧0<te.size∧te.zero.length=te.size∧te.zero.all (·.oneCell')=true∧T=e∧sz=te.size∧(∀ r∈l,r.length=te.size)∧(rows.length+l.length)*te.bytes≤140737488355328 ∧
    rows.length+l.length≤maxLen∧src≠some j)∧K (.app j src (.arr e te.size (rows++l))) ((d,.arr e te.size (rows++l))::hdrop j (yer src hs))
  | _,_=>False
 | _,_=>False
def fsto (P:Program) (n0:Nat) (hs:List (Nat×Obj')) (ρ:Operand→Sym) (t j:Nat) (x:Operand) (K:FK→List (Nat×Obj')→Prop):Prop:=
 match TI.of P t,zbd (ρ x),zab hs j with
 | some ti,some l,some (.box T cells)=>(l.length=ti.size∧Sym.los n0 l∧l.length≤cells.length)∧K (.sto j (.box T (splice cells 0 l))) ((j,.box T (splice cells 0 l))::hdrop j hs)
 | _,_,_=>False
def fval (P:Program) (all:List Oper) (n0:Nat) (o:Oper) (st:St) (hs:List (Nat×Obj')) (K:FK→List (Nat×Obj')→Prop):Prop:=
 zkp P all o st (fun s=>Sym.lo n0 s∧K (.val s) hs)
def fop (P:Program) (all:List Oper) (n0:Nat) (vl:List Nat) (o:Oper) (st:St) (hs:List (Nat×Obj')) (K:FK→List (Nat×Obj')→Prop):Prop:=
 match o.op,o.guard,o.dst with
 | .call {callee:=.builtin .append,args:=xs,argTypes:=ts},none,some d=>match xs.toList,ts.toList with
  | [.tmp j,x],[t,t']=>fapp P hs st.val j x t t' d K
  | _,_=>False
 | .store t (.tmp j) x,none,none=>fsto P n0 hs st.val t j x K
 | op,none,some d=>if fmkB op=true∧vl.contains d=false then fmk P n0 st.val o.type (fun ob=>K (.mk ob) ((d,ob)::hs)) op else fval P all n0 o st hs K
 | _,_,_=>fval P all n0 o st hs K
def fseg (P:Program) (all:List Oper) (n0:Nat) (vl:List Nat) (K:St→List FK→List (Nat×Obj')→Prop):List Oper→St→List FK→List (Nat×Obj')→Prop
 | [],st,ks,hs=>K st ks hs
 | o::r,st,ks,hs=>xdst o.dst st.n=true∧fop P all n0 vl o st hs (fun k hs'=>fseg P all n0 vl K r (st.put o.dst k.sym) (k::ks) hs')
def yf4 (P:Program) (K:St→Prop):List Oper→St→Prop
 | [],st=>K st
 | [o],st=>o.guard=none∧dop P o st K
 | _,_=>False
def z1m (all seg:List Oper) (ks:List FK):Bool:=zz7 all seg ks 0 seg ks&&nodupB (zf5 ks)
section
variable {P:Program} {all:List Oper} {lo:Nat} {st0:St} {F F':XF} {i:Nat} {o:Oper}
theorem z9g {n n0:Nat} {ρ:Operand→Sym} {o:Oper} {K:Obj'→Prop} (hd:dstB o.dst n=true) (h:fmk P n0 ρ o.type K o.op) :
  ∃ ob,K ob∧ob.lo n0∧∀ (st:St) (K:St→Prop),zj6 n ρ o st→K ((st.new ob).put o.dst (ref ob st.next))→dop P o st K:=by
 unfold fmk at h
 split at h
 ·rename_i T x ho
  split at h
  ·rename_i l hl
   refine ⟨_,h.2,h.1,fun st K hk hK=>?_⟩
   have hv:=hk.2 x (by rw [ho];simp [Op.operands]) (by intro e;rw [e] at hl;simp [zbd] at hl)
   unfold dop;rw [ho];simp only;refine ⟨by rw [hk.1];exact hd,?_⟩
   unfold eBox;rw [hv,hl];exact hK
  ·exact h.elim
 ·rename_i T ho
  split at h
  ·rename_i ti ht
   refine ⟨_,h.2,zky _ _,fun st K hk hK=>?_⟩
   unfold dop;rw [ho];simp only;rw [ht];exact ⟨by rw [hk.1];exact hd,h.1,hK⟩
  ·exact h.elim
 ·rename_i t ho
  refine ⟨_,h,trivial,fun st K hk hK=>?_⟩
  unfold dop;rw [ho];simp only;exact ⟨by rw [hk.1];exact hd,hK⟩
 ·rename_i ho
  split at h
  ·rename_i e _ _ _ _ ht
   split at h
   ·rename_i te hte
    refine ⟨_,h,trivial,fun st K hk hK=>?_⟩
    unfold dop;rw [ho];simp only;rw [ht];simp only;rw [hte];exact ⟨by rw [hk.1];exact hd,hK⟩
   ·exact h.elim
  ·exact h.elim
 ·rename_i t m parts ho
  split at h
  ·rename_i e _ _ _ _ ht
   split at h
   ·rename_i te hte
    split at h
    ·rename_i l hl
     split at h
     ·rename_i rows har hrows
      obtain ⟨h1,h2,h3,h4⟩:=h;refine ⟨_,h4,trivial,fun st K hk hK=>?_⟩
      have hmap:l.map st.val=l.map ρ:=by
       refine List.map_congr_left fun x hx=>hk.2 x ?_ (zqx hrows x hx)
       obtain ⟨i,hi⟩:=zkz hl x hx;rw [ho];simp only [Op.operands];simp;exact ⟨i,by simpa using hi⟩
      unfold dop;rw [ho];simp only;refine ⟨by rw [hk.1];exact hd,?_⟩
      unfold zp0;rw [ht];simp only;rw [hte];simp only;rw [hl];simp only;rw [hmap,har];refine ⟨h1,h2,h3,?_⟩
      simp only [St.frzs];rw [hmap,hrows];exact hK
     ·exact h.elim
    ·exact h.elim
   ·exact h.elim
  ·exact h.elim
 ·exact h.elim
theorem z9h {hs:List (Nat×Obj')} {ρ:Operand→Sym} {x:Operand} {src:Option Nat} {l:List (List D)} (h:fsrc hs ρ x=some (src,l)) :
  (∃ k T sz,x = .tmp k∧src=some k∧zab hs k=some (.arr T sz l))∨(src=none∧(ρ x = .d (.sl l)∨(ρ x = .nils∧l=[]))):=by
 unfold fsrc at h
 split at h
 ·rename_i k
  split at h
  ·rename_i T sz rows hk;cases h;exact .inl ⟨k,T,sz,rfl,rfl,hk⟩
  ·cases h
  ·split at h
   ·rename_i l' hv;cases h;exact .inr ⟨rfl,.inl hv⟩
   ·rename_i hv;cases h;exact .inr ⟨rfl,.inr ⟨hv,rfl⟩⟩
   ·cases h
 ·split at h
  ·rename_i l' hv;cases h;exact .inr ⟨rfl,.inl hv⟩
  ·rename_i hv;cases h;exact .inr ⟨rfl,.inr ⟨hv,rfl⟩⟩
  ·cases h
theorem z4l {n n0:Nat} {hs:List (Nat×Obj')} {ρ:Operand→Sym} {o:Oper} {j t t' d:Nat} {x:Operand} {K:FK→List (Nat×Obj')→Prop} (hd:dstB o.dst n=true) (ho:o.op = .call {callee:=.builtin .append,args:=#[.tmp j,x],argTypes:=#[t,t']})
  (h:fapp P hs ρ j x t t' d K) : ∃ src ob oj ok,K (.app j src ob) ((d,ob)::hdrop j (yer src hs))∧zh1 ob∧ob.lo n0∧zab hs j=some oj∧zh1 oj ∧
   (∀ k,src=some k→x = .tmp k∧k≠j∧zab hs k=some ok∧zh1 ok) ∧
   ∀ (st:St) (K:St→Prop) (id:Nat),zj6 n ρ o st→st.val (.tmp j) = .ar id→st.look id=some oj→(∀ k,src=some k→∃ id',id'≠id∧st.val (.tmp k) = .ar id'∧st.look id'=some ok) →
    K ((st.renew id ob).put o.dst (.ar id))→dop P o st K:=by
 unfold fapp at h
 split at h
 ·rename_i T sz rows e _ _ _ _ hj ht
  split at h
  ·rename_i te src l hte hsrc
   obtain ⟨⟨h1,h2,h3,h30,h4,h5,h6,h7,h8,h9⟩,h⟩:=h;have key : ∀ (st:St) (K:St→Prop) (id:Nat),zj6 n ρ o st→st.val (.tmp j) = .ar id→st.look id=some (.arr T sz rows)→zc1 st id (st.val x)=some l→K ((st.renew id (.arr e te.size (rows++l))).put o.dst (.ar id))→dop P o st K:=by
    intro st K id hk hv hl hs hK;unfold dop;rw [ho];simp only;refine ⟨by rw [hk.1];exact hd,?_⟩
    refine .inl ?_
    unfold zkl;rw [ht];simp only;rw [hte];simp only;refine ⟨h1,h2,h3,h30,?_⟩
    rw [hv];simp only;rw [hl,hs];simp only;exact ⟨h4,h5,h6,h7,h8,hK⟩
   rcases z9h hsrc with ⟨k,T',sz',rfl,rfl,hk⟩ | ⟨rfl,hv⟩
   ·have hne:k≠j:=fun e=>h9 (by rw [e])
    refine ⟨some k,_,.arr T sz rows,.arr T' sz' l,h,trivial,trivial,hj,trivial,fun k' e=>by cases e;exact ⟨rfl,hne,hk,trivial⟩,fun st K id hkn hv hl hs hK=>?_⟩
    obtain ⟨id',g1,g2,g3⟩:=hs k rfl;refine key st K id hkn hv hl ?_ hK
    rw [g2];simp only [zc1];rw [if_neg g1,g3]
   ·refine ⟨none,_,.arr T sz rows,.arr T sz rows,h,trivial,trivial,hj,trivial,fun k' e=>(by cases e),fun st K id hkn hv' hl hs hK=>?_⟩
    refine key st K id hkn hv' hl ?_ hK
    have hmem:x∈o.op.operands:=by rw [ho];simp [Op.operands,Call.operands]
    rcases hv with hv | ⟨hv,rfl⟩
    ·rw [hkn.2 x hmem (by rw [hv];simp),hv];rfl
    ·rw [hkn.2 x hmem (by rw [hv];simp),hv];rfl
  ·exact h.elim
 ·exact h.elim
theorem z4m {n n0:Nat} {hs:List (Nat×Obj')} {ρ:Operand→Sym} {o:Oper} {j t:Nat} {x:Operand} {K:FK→List (Nat×Obj')→Prop} (hhl : ∀ k ob,zab hs k=some ob→ob.lo n0) (ho:o.op = .store t (.tmp j) x) (hd:o.dst=none)
  (h:fsto P n0 hs ρ t j x K) :
  ∃ ob oj,K (.sto j ob) ((j,ob)::hdrop j hs)∧zkr ob∧ob.lo n0∧zab hs j=some oj∧zkr oj ∧
   ∀ (st:St) (K:St→Prop) (id:Nat),zj6 n ρ o st→st.val (.tmp j) = .bp id 0→st.look id=some oj→K {st with own:=aset id ob st.own}→dop P o st K:=by
 unfold fsto at h
 split at h
 ·rename_i ti l T cells ht hl hj
  obtain ⟨⟨h1,h2,h3⟩,h⟩:=h;have hnj:ρ x≠.junk:=by intro e;rw [e] at hl;simp [zbd] at hl
  have hmx:x∈o.op.operands:=by rw [ho];simp [Op.operands]
  refine ⟨_,.box T cells,h,trivial,zqy (hhl j _ hj) h2,hj,trivial,fun st K id hk hv hlk hK=>?_⟩
  unfold dop;rw [ho];simp only;rw [hd,ht];simp only;unfold zlj;rw [hv];simp only;rw [hlk];simp only;rw [hk.2 x hmx hnj,hl];exact ⟨h1,by omega,hK⟩
 ·exact h.elim
theorem z9i (hok:zb7 all=true) {vl:List Nat} {own0:List (Nat×Obj')} {stF:St} (hI:FInv P all lo st0 own0 [] F i) (ho:all[i]?=some o) (hsti:Seg.sti ⟨all,lo,i,F.rks.reverse,st0,fun _=>own0⟩ i=stF) (hd:xdst o.dst st0.n=true) {K:FK→List (Nat×Obj')→Prop}
  (h:fop P all st0.next vl o stF F.hs K) : ∃ k hs',K k hs'∧FInv P all lo st0 own0 [] (F.push k o.dst hs' F.ow) (i+1):=by
 have hdb:dstB o.dst st0.n=true:=by
  have:=(zge hd).1
  unfold dstB;split
  ·rename_i t ht;simpa using this t ht
  ·rfl
 have hval:stF.val=F.xt.val:=by rw [← hsti];exact hI.ag.val
 have hext:=fun k=>hI.ext (k:=k)
 have hv:fval P all st0.next o stF F.hs K→∃ k hs',K k hs'∧FInv P all lo st0 own0 [] (F.push k o.dst hs' F.ow) (i+1):=by
  intro h;obtain ⟨s,h1,h2,h3⟩:=zop h;refine ⟨.val s,F.hs,h3,hI.push hok ho hd rfl ?_ (fun t2 ob2 hm=>.inl ⟨hm,rfl⟩) hI.hsn (.inl ⟨rfl,fun _ _ e=>by cases e⟩)⟩
  refine ⟨?_,h2⟩
  rw [List.reverse_cons,zl7 (by simpa using hI.len.1) hI.len.2.1 (Nat.le_refl _),hsti]
  exact h1
 have hmk : ∀ d,o.guard=none→o.dst=some d→fmk P st0.next stF.val o.type (fun ob=>K (.mk ob) ((d,ob)::F.hs)) o.op→∃ k hs',K k hs'∧FInv P all lo st0 own0 [] (F.push k o.dst hs' F.ow) (i+1):=by
  intro d hgd hdst h;obtain ⟨ob,hK,hlo,hdop⟩:=z9g (n:=st0.n) hdb h;refine ⟨.mk ob,_,hK,hI.push hok ho hd rfl ?_ ?_ ?_ (.inl ⟨rfl,fun _ _ e=>by cases e⟩)⟩
  ·exact ⟨hgd,⟨d,hdst⟩,hlo,fun st K hk=>hdop st K (by rw [hval];exact hI.knows hk)⟩
  ·intro t2 ob2 hm
   rcases List.mem_cons.1 hm with e | hm
   ·cases e;exact .inr (.inl ⟨rfl,hdst⟩)
   ·exact .inl ⟨hm,rfl⟩
  ·simp only [List.map_cons,List.nodup_cons]
   exact ⟨hI.fresh' hok ho hdst fun x hx=>hx,hI.hsn⟩
 unfold fop at h
 split at h
 ·rename_i xs' ts d hop hgd hdst
  split at h
  ·rename_i j x t t' hx ht
   have e1:xs' = #[.tmp j,x]:=by cases xs';simp at hx;rw [hx]
   have e2:ts = #[t,t']:=by cases ts;simp at ht;rw [ht]
   subst e1;subst e2;obtain ⟨src,ob,oj,ok,hK,har,hlo,hj,harj,hsrc,hdop⟩:=z4l (n0:=st0.next) hdb hop h;have hjm:=zaw hj;have hobs : ∀ x,Operand.tmp x∈o.op.operands→x∈tmpsOf all o:=fun x hx=>zct hx
   refine ⟨_,_,hK,hI.push hok ho hd rfl ?_ ?_ ?_ (.inl ⟨rfl,fun _ _ e=>by cases e⟩)⟩
   ·refine ⟨hgd,⟨d,hdst⟩,hobs j (by rw [hop];simp [Op.operands,Call.operands]),fun k hk=>⟨(hsrc k hk).2.1,hobs k (by rw [hop,(hsrc k hk).1];simp [Op.operands,Call.operands])⟩,hlo,har,
     oj,ok,(hext _).held (hI.hs j oj hjm).1.held,harj,fun k hk=>⟨(hext _).held (hI.hs k ok (zaw (hsrc k hk).2.2.1)).1.held,(hsrc k hk).2.2.2⟩,fun st K id hk=>hdop st K id (by rw [hval];exact hI.knows hk)⟩
   ·intro t2 ob2 hm
    rcases List.mem_cons.1 hm with e | hm
    ·cases e;exact .inr (.inl ⟨rfl,hdst⟩)
    ·obtain ⟨h1,h2⟩:=zcf hm
     left
     have h2':Nat.beq j t2=false:=by cases hb:Nat.beq j t2 with | false=>rfl | true=>exact absurd (beq_iff.1 hb).symm h2
     cases src with
     | none=>exact ⟨h1,by simp [takes,h2']⟩
     | some k=>
      obtain ⟨h3,h4⟩:=zcf h1;have h4':Nat.beq k t2=false:=by cases hb:Nat.beq k t2 with | false=>rfl | true=>exact absurd (beq_iff.1 hb).symm h4
      exact ⟨h3,by simp [takes,h2',h4']⟩
   ·simp only [List.map_cons,List.nodup_cons]
    cases src with
    | none=>exact ⟨hI.fresh' hok ho hdst fun x hx=>(zcf hx).1,zdc hI.hsn⟩
    | some k=>exact ⟨hI.fresh' hok ho hdst fun x hx=>(zcf (zcf hx).1).1,zdc (zdc hI.hsn)⟩
  ·exact h.elim
 ·rename_i t j x hop hgd hdst
  have hhl : ∀ k ob,zab F.hs k=some ob→ob.lo st0.next:=fun k ob hk=>(hI.hs k ob (zaw hk)).2.2
  have hjt:j∈tmpsOf all o:=zct (by rw [hop];simp [Op.operands])
  obtain ⟨ob,oj,hK,hb,hlo,hj,hbj,hdop⟩:=z4m (n:=st0.n) hhl hop hdst h;have hjm:=zaw hj;refine ⟨_,_,hK,hI.push hok ho hd rfl ?_ ?_ ?_ (.inl ⟨rfl,fun _ _ e=>by cases e⟩)⟩
  ·exact ⟨hgd,hdst,hjt,hlo,hb,oj,(hext _).held (hI.hs j oj hjm).1.held,hbj,fun st K id hk=>hdop st K id (by rw [hval];exact hI.knows hk)⟩
  ·intro t2 ob2 hm
   rcases List.mem_cons.1 hm with e | hm
   ·cases e;exact .inr (.inr ⟨rfl,oj,hjm⟩)
   ·obtain ⟨h1,h2⟩:=zcf hm
    have h2':Nat.beq j t2=false:=by cases hb:Nat.beq j t2 with | false=>rfl | true=>exact absurd (beq_iff.1 hb).symm h2
    exact .inl ⟨h1,by simp [takes,h2']⟩
  ·simp only [List.map_cons,List.nodup_cons]
   refine ⟨fun hm=>?_,zdc hI.hsn⟩
   obtain ⟨⟨t2,ob2⟩,h1,h2⟩:=List.mem_map.1 hm;exact (zcf h1).2 h2
 ·rename_i hgd hdst _
  split at h
  ·exact hmk _ hgd hdst h
  ·exact hv h
 ·exact hv h
theorem zm4 (hok:zb7 all=true) {vl:List Nat} {own0:List (Nat×Obj')} {K:St→List FK→List (Nat×Obj')→Prop} : ∀ {l:List Oper} {i:Nat} {F:XF} {stF:St},(all.drop i).take l.length=l→stF.n=st0.n→FInv P all lo st0 own0 [] F i →
  Seg.sti ⟨all,lo,i,F.rks.reverse,st0,fun _=>own0⟩ i=stF→fseg P all st0.next vl K l stF F.rks F.hs→∃ F':XF,∃ st':St,FInv P all lo st0 own0 [] F' (i+l.length)∧Seg.sti ⟨all,lo,i+l.length,F'.rks.reverse,st0,fun _=>own0⟩ (i+l.length)=st'∧F'.ow=F.ow∧K st' F'.rks F'.hs
 | [],i,F,stF,hl,hn,hI,hsti,h=>⟨F,stF,hI,hsti,rfl,h⟩
 | o::r,i,F,stF,hl,hn,hI,hsti,h=>by
  simp only [fseg] at h;obtain ⟨hd,h⟩:=h;rw [hn] at hd;have ho:all[i]?=some o:=by
   have:=congrArg (fun l:List Oper=>l[0]?) hl
   simpa using this
  obtain ⟨k,hs',hK,hI'⟩:=z9i hok hI ho hsti hd h;have hr:(all.drop (i+1)).take r.length=r:=by
   have:=congrArg List.tail hl
   rw [List.tail_cons] at this;rw [← this];have hd:all.drop i=o::all.drop (i+1):=by
    obtain ⟨hlt,he⟩:=List.getElem?_eq_some_iff.1 ho;rw [List.drop_eq_getElem_cons hlt,he]
   rw [hd];simp
  have hput : ∀ (s:Sym),(stF.put o.dst s).n=stF.n:=by intro s;unfold St.put;split <;> rfl
  have hsti':Seg.sti ⟨all,lo,i+1,(F.push k o.dst hs' F.ow).rks.reverse,st0,fun _=>own0⟩ (i+1)=stF.put o.dst k.sym:=by
   simp only [XF.push,List.reverse_cons];rw [z1y (by simpa using hI.len.1) hI.len.2.1 ho,hsti]
  obtain ⟨F',st',q1,q2,q3,q4⟩:=zm4 hok hr ((hput _).trans hn) hI' hsti' hK;have e:i+1+r.length=i+(o::r).length:=by simp;omega
  rw [e] at q1 q2;exact ⟨F',st',q1,q2,q3,q4⟩
theorem yf5 (hmix:P.follows .mixedOrders=true) (m:Nat) (vl:List Nat) {id:Nat} {ops:List Oper} {st:St} {Q:DE→St→Prop} (hok:zb7 ops=true) (hm:Nat.ble m ops.length=true) (hcut:(Nat.beq m ops.length || cutB ops m)=true) (hsm:zxk st.slots=true)
  (h:fseg P ops st.next vl (fun stF rks hs=>z1m ops (ops.take m) rks.reverse=true∧yf4 P (Q .normal) (ops.drop m) {st with next:=st.next+hs.length,slots:=refF st.next hs++stF.slots,own:=numF st.next hs++st.own}) (ops.take m) st [] []) :
  Triple P (.region id ops.toArray true) Q st:=by
 rw [Nat.ble_eq] at hm
 refine zew hmix hok ?_
 have hag:Ag st (xsOf st):=yf3 hsm
 obtain ⟨hI0,hown⟩:=zq0 (P:=P) (all:=ops) hag (Nat.zero_le _) []
 have e0:(zds (xsOf st) []).xt.own=st.own:=rfl
 rw [e0] at hI0 hown
 have hst0:Seg.sti ⟨ops,0,0,(zds (xsOf st) []).rks.reverse,st,fun _=>st.own⟩ 0=st:=by
  unfold Seg.sti;simp [puts]
 have hlen:(ops.take m).length=m:=by rw [List.length_take];omega
 obtain ⟨F,st',hI,hsti,how,hseg,htl⟩:=zm4 (l:=ops.take m) hok (by simp) rfl hI0 hst0 h
 rw [hlen,Nat.zero_add] at hI hsti
 have how':F.ow=st.own:=how
 have hsg:zz7 ops ((ops.drop 0).take (m-0)) F.rks.reverse 0 ((ops.drop 0).take (m-0)) F.rks.reverse=true∧nodupB (zf5 F.rks.reverse)=true:=by
  unfold z1m at hseg;rw [Bool.and_eq_true] at hseg;simpa using hseg
 obtain ⟨g1,g2,g3⟩:=zi3 (s0:=xsOf st) hok hI hown hag (xs':={(xsOf st) with next:=(xsOf st).next+F.hs.length,slots:=zz8 F.xt (xsOf st).next F.hs,own:=numF (xsOf st).next F.hs++F.ow}) (by
  unfold zqv;simp only
  rw [zac,Bool.and_eq_true];exact ⟨hsg,rfl⟩)
 refine .seg (hi:=m) F.rks.reverse (fun _=>st.own) F.hs F.ow g1 g2 ?_ ?_
 ·rw [Bool.or_eq_true,beq_iff] at hcut
  exact hcut.elim .inr .inl
 ·have hfin:Seg.fin ⟨ops,0,m,F.rks.reverse,st,fun _=>st.own⟩ F.hs F.ow = {st with next:=st.next+F.hs.length,slots:=refF st.next F.hs++st'.slots,own:=numF st.next F.hs++st.own}:=by
   unfold Seg.fin;rw [hsti,how']
  rw [hfin];generalize ({st with next:=st.next+F.hs.length,slots:=refF st.next F.hs++st'.slots,own:=numF st.next F.hs++st.own}:St)=stE at htl;cases hd:ops.drop m with
  | nil=>
   rw [hd] at htl;have:m=ops.length:=by
    have:=congrArg List.length hd
    simp at this;omega
   rw [this];exact .done htl
  | cons o r=>
   cases r with
   | cons _ _=>rw [hd] at htl;exact htl.elim
   | nil=>
    rw [hd] at htl;obtain ⟨hg,hdp⟩:=htl;have hl1:m+1=ops.length:=by
     have:=congrArg List.length hd
     simp at this;omega
    have ho:ops[m]?=some o:=by
     have:=congrArg (fun l:List Oper=>l[0]?) hd
     simpa using this
    refine RegI.tot (Q .normal) (by omega) (.inr hl1) ?_ ?_
    ·intro X w0 β a w hmm N Q' hN
     unfold wpOp;have:ops.toArray[m]?=some o:=by simpa using ho
     rw [this];simp only [Region.wanted,hg,if_true];exact .inl (zdy hmm hdp N _ fun a' w' st' β' hk hm'=>hN a' w' st' β' hk hm')
    ·intro st' hK
     rw [hl1];exact .done hK
theorem zjq {c:Code} {Q:DE→St→Prop} {st:St} (ids:List Nat) (h:Triple P c Q (st.frzs ids)):Triple P c Q st:=fun X w0 β a w hm=>h X w0 β a w (hm.frzs (l:=ids))
end
attribute [simp] fmkB fmk fsrc yer fapp fsto fval fop fseg yf4 refF numF ref hdrop xdst FK.sym FK.made
end Go.V
namespace Go.V
variable [Dr] [Ov]
open Go.RowKit
def yf6 (P:Program) (st:St) (t:Nat) (ad x:Sym) (K:Nat→Obj'→Prop):Prop:=
 match TI.of P t,ad with
 | some ti,.ap id sz i off=>match st.look id with
  | some (.arr T sz' rows)=>match zbd x with
   | some l=>match allD l with
    | some ds=>(sz=sz'∧i<rows.length∧ds.length=ti.size∧off+ds.length≤(rows.getD i []).length)∧K id (.arr T sz (rows.set i (splice (rows.getD i []) off ds)))
    | none=>False
   | none=>False
  | _=>False
 | _,_=>False
def hid (st:St) (b:Bool):St:={st with own:=if b=true then st.own else []}
def frd (P:Program) (all:List Oper) (n0:Nat) (dp:Nat→Bool):Nat→List Oper→St→List Sym→(St→List Sym→Prop)→Prop
 | _,[],st,ss,K=>K st ss
 | i,o::r,st,ss,K=>dstB o.dst st.n=true∧zkp P all o (hid st (dp i)) (fun s=>Sym.lo n0 s∧frd P all n0 dp (i+1) r (st.put o.dst s) (s::ss) K)
def zum (P:Program) (K:St→Prop):List Oper→St→Prop
 | [],st=>K st
 | o::r,st=>o.guard=none∧dop P o st (fun st'=>zum P K r st')
def z9j (all:List Oper) (k:Nat):Bool:=(List.range all.length).all fun i=>Nat.ble i k || cutB all i
section
variable {P:Program} {all:List Oper} {st:St}
theorem zhq {K:St→Prop} : ∀ {r:List Oper} {k:Nat} {st:St},k≤all.length→all.drop k=r→(∀ i,k<i→i<all.length→cutB all i=true)→zum P K r st→RegI P all K k st
 | [],k,st,hkl,hd,hc,h=>by
  have:k=all.length:=by
   have:=congrArg List.length hd
   simp at this;omega
  subst this;exact .done h
 | o::r,k,st,hkl,hd,hc,h=>by
  obtain ⟨hg,hdp⟩:=h;have hk:k<all.length:=by
   have:=congrArg List.length hd
   simp at this;omega
  have ho:all[k]?=some o:=by
   have:=congrArg (fun l:List Oper=>l[0]?) hd
   simpa using this
  have hr:all.drop (k+1)=r:=by
   have:=congrArg List.tail hd
   simpa using this
  refine RegI.tot (fun st'=>zum P K r st') hk ?_ ?_ fun st' h'=>zhq hk hr (fun i h1 h2=>hc i (by omega) h2) h'
  ·rcases Nat.eq_or_lt_of_le (show k+1≤all.length from hk) with e | e
   ·exact .inr e
   ·exact .inl (hc (k+1) (by omega) e)
  ·intro X w0 β a w hmm N Q' hN
   unfold wpOp;have:all.toArray[k]?=some o:=by simpa using ho
   rw [this];simp only [Region.wanted,hg,if_true];exact .inl (zdy hmm hdp N _ fun a' w' st' β' hk hm'=>hN a' w' st' β' hk hm')
theorem z1o (b:Bool) : ∀ (l:List Oper) (ss:List Sym) (st:St),puts l ss (hid st b)=hid (puts l ss st) b
 | [],ss,st=>by simp [puts]
 | o::r,[],st=>by simp [puts]
 | o::r,s::ss,st=>by
  have:(hid st b).put o.dst s=hid (st.put o.dst s) b:=by
   unfold hid St.put;cases o.dst <;> rfl
  simp only [puts];rw [this,z1o b r ss]
end
attribute [simp] yf6 frd zum hid
end Go.V
namespace Go.V
variable [Dr] [Ov]
open Go.RowKit
section
variable {P:Program} {f:Nat} {args:List D} {r:D} {st:St} {K:St→Prop}
end
section
variable {P:Program} {all:List Oper} {lo:Nat} {st0:St} {i:Nat} {o:Oper}
theorem yf7 (hmix:P.follows .mixedOrders=true) (m:Nat) (vl:List Nat) {id:Nat} {ops:List Oper} {st:St} {Q:DE→St→Prop} (hok:zb7 ops=true) (hm:Nat.ble m ops.length=true) (hcut:(Nat.beq m ops.length || cutB ops m)=true) (hcuts:z9j ops m=true) (hsm:zxk st.slots=true)
  (h:fseg P ops st.next vl (fun stF rks hs=>z1m ops (ops.take m) rks.reverse=true∧zum P (Q .normal) (ops.drop m) {st with next:=st.next+hs.length,slots:=refF st.next hs++stF.slots,own:=numF st.next hs++st.own}) (ops.take m) st [] []) :
  Triple P (.region id ops.toArray true) Q st:=by
 rw [Nat.ble_eq] at hm
 refine zew hmix hok ?_
 have hag:Ag st (xsOf st):=yf3 hsm
 obtain ⟨hI0,hown⟩:=zq0 (P:=P) (all:=ops) hag (Nat.zero_le _) []
 have e0:(zds (xsOf st) []).xt.own=st.own:=rfl
 rw [e0] at hI0 hown
 have hst0:Seg.sti ⟨ops,0,0,(zds (xsOf st) []).rks.reverse,st,fun _=>st.own⟩ 0=st:=by
  unfold Seg.sti;simp [puts]
 have hlen:(ops.take m).length=m:=by rw [List.length_take];omega
 obtain ⟨F,st',hI,hsti,how,hseg,htl⟩:=zm4 (l:=ops.take m) hok (by simp) rfl hI0 hst0 h
 rw [hlen,Nat.zero_add] at hI hsti
 have how':F.ow=st.own:=how
 have hsg:zz7 ops ((ops.drop 0).take (m-0)) F.rks.reverse 0 ((ops.drop 0).take (m-0)) F.rks.reverse=true∧nodupB (zf5 F.rks.reverse)=true:=by
  unfold z1m at hseg;rw [Bool.and_eq_true] at hseg;simpa using hseg
 obtain ⟨g1,g2,g3⟩:=zi3 (s0:=xsOf st) hok hI hown hag (xs':={(xsOf st) with next:=(xsOf st).next+F.hs.length,slots:=zz8 F.xt (xsOf st).next F.hs,own:=numF (xsOf st).next F.hs++F.ow}) (by
  unfold zqv;simp only
  rw [zac,Bool.and_eq_true];exact ⟨hsg,rfl⟩)
 refine .seg (hi:=m) F.rks.reverse (fun _=>st.own) F.hs F.ow g1 g2 ?_ ?_
 ·rw [Bool.or_eq_true,beq_iff] at hcut
  exact hcut.elim .inr .inl
 ·have hfin:Seg.fin ⟨ops,0,m,F.rks.reverse,st,fun _=>st.own⟩ F.hs F.ow = {st with next:=st.next+F.hs.length,slots:=refF st.next F.hs++st'.slots,own:=numF st.next F.hs++st.own}:=by
   unfold Seg.fin;rw [hsti,how']
  rw [hfin];generalize ({st with next:=st.next+F.hs.length,slots:=refF st.next F.hs++st'.slots,own:=numF st.next F.hs++st.own}:St)=stE at htl;refine zhq hm rfl (fun i h1 h2=>?_) htl
  unfold z9j at hcuts;rw [List.all_eq_true] at hcuts;have:=hcuts i (List.mem_range.2 h2)
  rw [Bool.or_eq_true,Nat.ble_eq] at this;rcases this with e | e
  ·omega
  ·exact e
end
end Go.V
namespace Go.V
variable [Dr] [Ov]
open Go.RowKit
def yeu (P:Program) (r:Option Nat) (c:Code) (Q:DE→St→Prop) (st:St):Prop:=
 ∀ X w0 β a w ms n,MX X w0 ms st β a w→c.wpIn (FW r) n P (fun e' a' w'=>∃ de st' β',exM e' de∧Q de st'∧MX X w0 ms st' β' a' w') a w
def zqh (P:Program) (st:St) (id:Nat) (xs:List Operand) (dst:Option Tmp) (K:St→Prop):Prop:=
 ∃ (k:Nat) (ids:List Nat) (args0:List Sym) (own0:List (Nat×Obj')) (s:Sym) (nx:Nat) (own':List (Nat×Obj')) (mv:List Nat),(k<ids.length∧rho ids k=id)∧rens (rho ids) args0=xs.map st.val∧Sym.los ids.length args0∧Fits st ids own0 ∧
  zqm P k args0 own0 ids.length s nx own' mv∧K ((st.after ids nx own' mv).put dst (ren (rho' ids st.next) s))
def ydOf:Sym→Option Nat
 | .yd id=>some id
 | _=>none
def dopX (P:Program) (o:Oper) (st:St) (K:St→Prop):Prop:=
 match o.op with
 | .call {callee:=.value f,args:=xs,argTypes:=ts}=>match ydOf (st.val f) with
  | some id=>dstB o.dst st.n=true∧zqh P st id xs.toList o.dst K
  | none=>dop P o st K
 | _=>dop P o st K
def zks (P:Program) (all:List Oper):List Oper→St→(St→Prop)→Prop
 | [],st,K=>K st
 | o::r,st,K=>match o.guard with
  | none=>dopX P o st (lz fun st'=>zks P all r st' K)
  | some (j,want)=>match (all[j]?).bind (·.dst) with
   | some t=>match zab st.slots t with
    | some (.d (.bool b))=>(b=want→dopX P o (st.put (some t) (.d (.bool want))) (lz fun st'=>zks P all r st' K)) ∧
     (b = !want→dstB o.dst st.n=true∧zks P all r ((st.put (some t) (.d (.bool !want))).put o.dst (.d (.val undef))) K)
    | some (.d (.val v))=>v=undef∧dstB o.dst st.n=true∧zks P all r (st.put o.dst (.d (.val undef))) K
    | _=>False
   | none=>False
def evX (P:Program):Code→(DE→St→Prop)→St→Prop
 | .skip,Q,st=>Q .normal st
 | .region _ ops draw,Q,st=>draw=false∧zks P ops.toList ops.toList st (Q .normal)
 | .seq x y,Q,st=>evX P x (zlv (fun st'=>evX P y Q st') Q) st
 | .cond c x y,Q,st=>match st.val c with
  | .d (.bool b)=>(b=true→evX P x Q st)∧(b=false→evX P y Q st)
  | _=>False
 | .block id c,Q,st=>evX P c (zbu id Q) st
 | .exit id,Q,st=>Q (.exit id) st
 | .ret,Q,st=>Q .ret st
 | _,_,_=>False
section
variable {P:Program} {X:Nat→Prop} {w0:Base} {st:St} {β:Nat→Value} {a:Act} {w w':World} {K:St→Prop}
theorem z9k {o:Oper} (h:dop P o st K) : ∀ c,o.op≠.defer c:=by
 intro c e
 unfold dop at h
 rw [e] at h
 simp only [sopB,sop] at h
 exact h.2
theorem MX.back {ms:List Nat} (hd:a.defers=ms.map mark):({({a with defers:=[]}:Act) with defers:=ms.map mark}:Act)=a:=by
 cases a;simp only at hd;subst hd;rfl
theorem yev {ms:List Nat} (hm:MX X w0 ms st β a w) {o:Oper} (h : ∀ X' w0',Mods X' w0' st β {a with defers:=[]} w→Goes P X' w0' o {a with defers:=[]} w K) (hdf : ∀ c,o.op≠.defer c) (r:Option Nat) (n:Nat) {N:Act→World→Prop} {Q:Exit→Act→World→Prop}
  (hN : ∀ a' w' st' β',K st'→MX X w0 ms st' β' a' w'→N a' w'):o.wpIn (FW r) n P a w N Q:=by
 obtain ⟨⟨X',w0',hu,hm',hms⟩,hd,hnd⟩:=hm
 have:=z9t (h X' w0' hm') hdf rfl r n (ms.map mark) (N:=N) (Q:=Q) fun a' w' st' β' hk hm2=>
  hN _ w' st' β' hk ⟨⟨X',w0',hu,by have e:=hm2.defers;cases a';simp only at e;subst e;exact hm2,hms⟩,rfl,hnd⟩
 rw [MX.back hd] at this
 exact this
theorem ycm (hm:Mods X w0 st β a w) {o:Oper} {f:Operand} {args:Array Operand} {ts:Array TypeId} (ho:o.op = .call {callee:=.value f,args,argTypes:=ts})
  {id:Nat} (hy:st.val f = .yd id) (hdn : ∀ t,o.dst=some t→t<st.n) (h:zqh P st id args.toList o.dst K) (r:Option Nat) (n:Nat) (ms:List Deferred)
  {N:Act→World→Prop} {Q:Exit→Act→World→Prop} (hN : ∀ a' w' st' β',K st'→Mods X w0 st' β' a' w'→N {a' with defers:=ms} w'):o.wpIn (FW r) n P {a with defers:=ms} w N Q:=by
 obtain ⟨k,ids,args0,own0,s,nx,own',mv,⟨hk1,hk2⟩,ha,hl,hf,hround,hK⟩:=h
 have hE:Ex (outOf X β ids st.own) (fun i=>β (rho ids i)) own0=Ex X β st.own:=funext fun b=>propext (hf.ex b)
 have hs0:Sms w (Ex (outOf X β ids st.own) (fun i=>β (rho ids i)) own0) (fun i=>β (rho ids i)) args0 (args.toList.map a.eval):=by
  have h1:=(Sms.zjz hm args.toList).1;rw [← ha] at h1;rw [hE];exact zgb (ρ:=rho ids) (β:=fun i=>β (rho ids i)) (β':=β) (m:=ids.length) (fun _ _=>rfl) hl h1
 obtain ⟨b,hb,hround⟩:=hround (outOf X β ids st.own) (inBase β ids w) (fun i=>β (rho ids i)) w _ rfl (hm.zp4 hf) hs0
 simp only [hk2] at hb
 have hv:=(hm.val f).2
 rw [hy] at hv
 simp only [Sm] at hv
 obtain ⟨b',hb',hv⟩:=hv
 rw [hb] at hb';cases hb'
 obtain ⟨fn,tmps,aS,bd,hyr,hrnd⟩:=hround r (n-1)
 have hdef : ∀ c,o.op≠.defer c:=fun c e=>by rw [ho] at e;cases e
 unfold Oper.wpIn
 refine ⟨fun _ _=>trivial,?_⟩
 rw [Oper.semAt_eq _ _ _ hdef]
 have hev:({a with defers:=ms}:Act).eval=a.eval:=rfl
 rw [hev]
 have hrun:(execOp a.eval o).run P w = .ok (.round b fn tmps aS bd) w:=by
  have e3:Array.map a.eval args=(args.toList.map a.eval).toArray:=Array.ext' (by simp)
  simp only [execOp,ho,resolve,hv];rw [e3];exact z9x hyr
 rw [hrun]
 simp only [Oper.uponIn]
 refine ⟨fun hd=>by simp [FW,Fence.wide] at hd,hrnd.mono fun e w' he=>?_⟩
 obtain ⟨β1,v,rfl,hm1,hsl,hsm⟩:=he
 obtain ⟨h1,h2⟩:=hm.zlt hf hm1
 obtain ⟨q1,q2⟩:=h2 s v hsl hsm
 have hput:(({a with defers:=ms}:Act).put o.dst v) = {a.put o.dst v with defers:=ms}:=by cases o.dst <;> rfl
 show N (({a with defers:=ms}:Act).put o.dst v) w'
 rw [hput]
 exact hN _ w' _ _ hK (h1.za0 hdn q1 q2)
theorem z9l {ms:List Nat} (hm:MX X w0 ms st β a w) {o:Oper} (h:dopX P o st K) (r:Option Nat) (n:Nat) {N:Act→World→Prop} {Q:Exit→Act→World→Prop}
  (hN : ∀ a' w' st' β',K st'→MX X w0 ms st' β' a' w'→N a' w'):o.wpIn (FW r) n P a w N Q:=by
 have plain:dop P o st K→o.wpIn (FW r) n P a w N Q:=fun h=>yev hm (fun X' w0' hm'=>zdy hm' h) (z9k h) r n hN
 unfold dopX at h
 split at h
 ·rename_i f xs ts ho
  split at h
  ·rename_i id hy
   have hy:st.val f = .yd id:=by
    revert hy
    cases st.val f <;> simp [ydOf]
   obtain ⟨⟨X',w0',hu,hm',hms⟩,hd,hnd⟩:=hm;have:=ycm hm' ho hy (zbk h.1) h.2 r n (ms.map mark) (N:=N) (Q:=Q) fun a' w' st' β' hk hm2=>
    hN _ w' st' β' hk ⟨⟨X',w0',hu,by have e:=hm2.defers;cases a';simp only at e;subst e;exact hm2,hms⟩,rfl,hnd⟩
   rw [MX.back hd] at this;exact this
  ·exact plain h
 ·exact plain h
theorem zl1 {all:List Oper} {ms:List Nat} {r:Option Nat} {n:Nat} {Q:Exit→Act→World→Prop} : ∀ {l:List Oper} {st:St} {β:Nat→Value} {a:Act} {w:World} {K:St→Prop},
  zks P all l st K→MX X w0 ms st β a w→(∀ a' w' st' β',K st'→MX X w0 ms st' β' a' w'→Q .normal a' w')→wpListIn (FW r) n P all.toArray Q l a w
 | [],st,β,a,w,K,h,hm,hN=>hN a w st β h hm
 | o::l,st,β,a,w,K,h,hm,hN=>by
  simp only [zks] at h;refine wpListIn_step fun N' hN'=>?_
  split at h
  ·rename_i hgd
   simp only [Region.wanted,hgd,if_true];exact z9l hm h r n fun a' w' st' β' hk hm'=>hN' a' w' (zl1 hk hm' hN)
  ·rename_i j want hgd
   split at h
   ·rename_i t ht
    split at h
    ·rename_i b hb
     have hsb:=zsz hm hb;have hy:=zf2 (zdo ht) hsb;simp only [Region.wanted,hgd,hy];have hput : ∀ c:Bool,b=c→MX X w0 ms (st.put (some t) (.d (.bool c))) β a w:=by
      intro c e;subst e;obtain ⟨⟨X',w0',hu,hm',hms⟩,hd,hnd⟩:=hm;have hlt:t<st.n:=by
       rw [← hm'.size];rcases Nat.lt_or_ge t a.tmps.size with h | h
       ·exact h
       ·rw [Array.getElem?_eq_none (by simpa using h)] at hsb;cases hsb
      have:=hm'.za0 (dst:=some t) (s:=.d (.bool b)) (v:=.bool b) (fun u e=>by cases e;exact hlt) (by simp [Sym.lo]) (by simp [Sm,R])
      have e2:({a with defers:=[]}:Act).put (some t) (.bool b) = {a with defers:=[]}:=by
       have hsb':a.tmps[t]?=some (.bool b):=hsb
       obtain ⟨h1,h2⟩:=Array.getElem?_eq_some_iff.1 hsb';show ({tmps:=a.tmps.setIfInBounds t (.bool b),defers:=[]}:Act)=_
       congr 1
       apply Array.ext
       ·simp
       ·intro i h3 h4
        rw [Array.getElem_setIfInBounds];split
        ·rename_i e;subst e;exact h2.symm
        ·rfl
      rw [e2] at this;exact ⟨⟨X',w0',hu,this,hms⟩,hd,hnd⟩
     by_cases e:b=want
     ·subst e
      simp only [beq_self_eq_true,if_true];exact z9l (hput b rfl) (h.1 rfl) r n fun a' w' st' β' hk hm'=>hN' a' w' (zl1 hk hm' hN)
     ·have e':b = !want:=by cases b <;> cases want <;> simp_all
      have:(some b==some want)=false:=by simpa using e
      simp only [this,Bool.false_eq_true,if_false];obtain ⟨hd,h⟩:=h.2 e';refine ⟨fun _ _=>trivial,?_⟩
      exact hN' _ w (zl1 h ((hput (!want) e').put (zbk hd) (by simp [Sym.lo]) (fun E=>by simp [Sm,R])) hN)
    ·rename_i hv
     obtain ⟨hv1,hd,h⟩:=h;obtain ⟨hs1,hs2⟩:=hm.plain.slots t _ hv;rw [hv1] at hs2;simp only [Sm,R] at hs2;have hy:yielded all.toArray a.tmps j=none:=zdf (zdo ht) hs2
     simp only [Region.wanted,hgd,hy];have:((none:Option Bool)==some want)=false:=rfl
     simp only [this,Bool.false_eq_true,if_false];refine ⟨fun _ _=>trivial,?_⟩
     exact hN' _ w (zl1 h (hm.put (zbk hd) (by simp [Sym.lo]) (fun E=>by simp [Sm,R])) hN)
    ·exact h.elim
   ·exact h.elim
theorem zd2 : ∀ {c:Code} {Q:DE→St→Prop} {st:St} {r:Option Nat},evX P c Q st→yeu P r c Q st
 | .skip,Q,st,r,h=>fun X w0 β a w ms n hm=>wpIn_skip ⟨.normal,st,β,trivial,h,hm⟩
 | .region id ops draw,Q,st,r,h=>by
  obtain ⟨rfl,h⟩:=h;intro X w0 β a w ms n hm;refine wpIn_region_list ?_
  have:=zl1 (r:=r) (n:=n) (Q:=fun e' a' w'=>∃ de st' β',exM e' de∧Q de st'∧MX X w0 ms st' β' a' w') h hm (fun a' w' st' β' hk hm'=>⟨.normal,st',β',trivial,hk,hm'⟩)
  simpa using this
 | .seq x y,Q,st,r,h=>by
  intro X w0 β a w ms n hm;refine wpIn_seq (wpIn_mono (zd2 (c:=x) h X w0 β a w ms n hm) ?_)
  rintro e a' w' ⟨de,st',β',he,hq,hm'⟩
  cases e <;> cases de <;> simp only [exM] at he
  ·exact zd2 (c:=y) hq X w0 β' a' w' ms n hm'
  ·subst he;exact ⟨.exit _,st',β',rfl,hq,hm'⟩
  ·exact ⟨.ret,st',β',trivial,hq,hm'⟩
 | .cond c x y,Q,st,r,h=>by
  simp only [evX] at h;intro X w0 β a w ms n hm;split at h
  ·rename_i b hb
   have hv:=(hm.plain.val c).2;rw [hb] at hv;simp only [Sm,R] at hv;cases b
   ·exact wpIn_cond_false hv (zd2 (h.2 rfl) X w0 β a w ms n hm)
   ·exact wpIn_cond_true hv (zd2 (h.1 rfl) X w0 β a w ms n hm)
  ·exact h.elim
 | .block id c,Q,st,r,h=>by
  intro X w0 β a w ms n hm;refine wpIn_block (wpIn_mono (zd2 (c:=c) h X w0 β a w ms n hm) ?_)
  rintro e a' w' ⟨de,st',β',he,hq,hm'⟩
  cases e <;> cases de <;> simp only [exM] at he
  ·exact ⟨.normal,st',β',trivial,hq,hm'⟩
  ·subst he
   simp only [zbu] at hq;simp only [Exit.inBlock];split
   ·rename_i e;rw [if_pos e] at hq;exact ⟨.normal,st',β',trivial,hq,hm'⟩
   ·rename_i e;rw [if_neg e] at hq;exact ⟨.exit _,st',β',rfl,hq,hm'⟩
  ·exact ⟨.ret,st',β',trivial,hq,hm'⟩
 | .exit id,Q,st,r,h=>fun X w0 β a w ms n hm=>wpIn_exit ⟨.exit id,st,β,rfl,h,hm⟩
 | .ret,Q,st,r,h=>fun X w0 β a w ms n hm=>wpIn_ret ⟨.ret,st,β,trivial,h,hm⟩
 | .loop _,Q,st,r,h=>h.elim
 | .rangeFunc ..,Q,st,r,h=>h.elim
 | .scope _,Q,st,r,h=>h.elim
 | .label _,Q,st,r,h=>h.elim
 | .goto ..,Q,st,r,h=>h.elim
 | .refuse ..,Q,st,r,h=>h.elim
theorem zl2 {c:Code} {Q:DE→St→Prop} (h:evX P c Q st):Triple P c Q st:=by
 intro X w0 β a w hm
 refine (wpIn_wide (n:=0)).1 (wpIn_mono (zd2 (r:=none) h X w0 β a w [] 0 (.of hm)) ?_)
 rintro e a' w' ⟨de,st',β',he,hq,hm'⟩
 exact ⟨de,st',β',he,hq,hm'.nil⟩
def z9m:List Nat→List Sym→St→St
 | p::ps,s::ss,st=>z9m ps ss (st.put (some p) s)
 | _,_,st=>st
theorem zqi : ∀ {ps:List Nat} {ss:List Sym} {vs:List Value} {st:St} {a:Act},Mods X w0 st β a w→(∀ p∈ps,p<st.n)→Sym.los st.next ss→Sms w (Ex X β st.own) β ss vs→ps.length=ss.length →
  Mods X w0 (z9m ps ss st) β {a with tmps:=(ps.zip vs).foldl (fun t (p,v)=>t.setIfInBounds p v) a.tmps} w
 | [],[],vs,st,a,hm,_,_,_,_=>by simpa [z9m] using hm
 | p::ps,s::ss,vs,st,a,hm,hp,hl,hs,hlen=>by
  simp only [Sms] at hs;obtain ⟨v,vs',rfl,h1,h2⟩:=hs;simp only [Sym.los] at hl;have hm':=hm.za0 (dst:=some p) (s:=s) (v:=v) (fun t e=>by cases e;exact hp p (by simp)) hl.1 h1
  exact zqi (ps:=ps) (ss:=ss) (vs:=vs') hm' (fun q hq=>hp q (List.mem_cons_of_mem _ hq)) hl.2 h2 (by simpa using hlen)
def roundEnd (id n nx:Nat) (s:Sym) (own':List (Nat×Obj')) (mv:List Nat):DE→St→Prop:=fun de st2=>
 (st2.base=n∧id∉st2.moved)∧match st2.look id with
  | some (.raw (.lp ps aS bd .busy none) cells2)=>s = .d (.bool (ze6 de))∧Weak {st2 with own:=aset id (.raw (.lp ps aS bd (zfo de) (zcx de)) cells2) st2.own} {n:=st2.n,next:=nx,slots:=[],own:=own',base:=n,moved:=mv}
  | _=>False
def zun (P:Program) (bd:Code) (id n:Nat) (Q:DE→St→Prop):DE→St→Prop:=fun e st1=>
 match e with
 | .normal=>(st1.base=n∧id∉st1.moved)∧match st1.look id with
  | some (.raw (.lp ps aS bd' .ready none) cells1)=>bd'=bd∧evX P bd Q {st1 with own:=aset id (.raw (.lp ps aS bd' .busy none) cells1) st1.own}
  | _=>False
 | _=>False
theorem zuo {id n nx:Nat} {own own':List (Nat×Obj')} {cells args:List Sym} {ps:Array Tmp} {aS bd:Code} {s:Sym} {mv:List Nat}
  (hob:zab own id=some (.raw (.lp ps aS bd .ready none) cells)) (hlen:args.length=ps.size) (hpl : ∀ p∈ps.toList,p<cells.length) (hid:id<n) (hl:Sym.los n args)
  (h:evX P aS (zun P bd id n (roundEnd id n nx s own' mv)) (z9m ps.toList args (initC 0 cells own n))):zqm P id args own n s nx own' mv:=by
 intro X w0 β w vs hβ hm hs
 have hob':(zde own n n []).look id=some (.raw (.lp ps aS bd .ready none) cells):=hob
 obtain ⟨_,hlo,b,fn,D,vs0,hb,hN,hh,hs0⟩:=hm.obj hob'
 refine ⟨b,hb,fun r m=>?_⟩
 have hlenv:=hs.length
 have hy:=run_yield (P:=P) (args:=vs.toArray) hh (by simp [hlenv,hlen])
 refine ⟨fn,_,aS,bd,hy,roundIn_of_wpIn trivial ?_⟩
 have hm0:=hm.initC (ntmps:=0) hs0 hlo
 have hm1:=zqi (ps:=ps.toList) (ss:=args) (vs:=vs) hm0 (fun p hp=>by have:=hpl p hp;simpa [initC] using this) hl hs (by simp [hlen])
 have hact:({tmps:=(ps.zip vs.toArray).foldl (fun tmps (t,a)=>tmps.setIfInBounds t a) vs0.toArray,defers:=[]}:Act) =
   {({tmps:=vs0.toArray++Array.replicate (0-vs0.toArray.size) undef,defers:=[]}:Act) with tmps:=(ps.toList.zip vs).foldl (fun t (p,v)=>t.setIfInBounds p v) (vs0.toArray++Array.replicate (0-vs0.toArray.size) undef)}:=by
  congr 1
  rw [← Array.foldl_toList];simp
 rw [hact]
 have hrun1:=zd2 (r:=some b) h X w0 β _ w [] m (.of hm1)
 have efw:(FW r).inRound b=FW (some b):=rfl
 rw [efw]
 refine wpIn_mono hrun1 ?_
 rintro e' a' w' ⟨de,st2,β2,he,hq,hmx2⟩
 have hm2:=hmx2.nil
 cases e' <;> cases de <;> simp only [exM] at he <;> simp only [zun] at hq
 obtain ⟨⟨hb1,hmv1⟩,hq⟩:=hq
 split at hq
 ·rename_i ps1 a1 b1 cells1 hlk1
  obtain ⟨rfl,hq⟩:=hq;have same : ∀ {st':St} {β':Nat→Value} {a':Act} {w':World},Mods X w0 st' β' a' w'→st'.base=n→id∉st'.moved→β' id=β id:=by
   intro st' β' a' w' hm' hb' hmv';rw [hm'.still.2 id (by rw [hb'];exact hid) hmv',hβ]
  obtain ⟨b',fn',D',vs',hbb,hh',hm3⟩:=zeh (s':=.busy) (pd':=none) hm2 hlk1;have ebb:b'=b:=by
   have:=same hm2 hb1 hmv1
   rw [hbb,hb] at this;simpa using this
  subst ebb;refine ⟨_,run_beginRound hh' rfl,?_⟩
  have hrun2:=zd2 (r:=some b') hq X w0 β2 a' _ [] m (.of hm3);refine wpIn_mono hrun2 ?_
  rintro e' a' w' ⟨de,st4,β4,he',hq4,hmx4⟩
  have hm4:=hmx4.nil;obtain ⟨⟨hb2,hmv2⟩,hq4⟩:=hq4;split at hq4
  ·rename_i ps2 a2 b2 cells2 hlk2
   obtain ⟨rfl,hwk⟩:=hq4;obtain ⟨b4,fn4,D4,vs4,hbb4,hh4,hm5⟩:=zeh (s':=zfo de) (pd':=zcx de) hm4 hlk2;have ebb4:b4=b':=by
    have:=same hm4 hb2 hmv2
    rw [hbb4,hb] at this;simpa using this
   subst ebb4;have hm6:=hm5.weak hwk;have hm7:Mods X w0 (zde own' n nx mv) β4 act0 _:=⟨hm6.outer,hm6.still,hm6.one,rfl,rfl,hm6.below,hm6.keys,hm6.own,hm6.apart,by intro t s ht;simp [zde,zab] at ht⟩
   have hend:=run_endRound (P:=P) (zcx de) hh4;have est:(if (zcx de).isNone then LoopState.ready else .done)=zfo de:=by cases de <;> rfl
   have ebo:(zcx de).isNone=ze6 de:=by cases de <;> rfl
   have hfin : ∃ β' v,Ending.returned (.bool (zcx de).isNone) = .returned v∧Mods X w0 (zde own' n nx mv) β' act0
     (w'.putObj b4 (.loop {state:=if (zcx de).isNone then .ready else .done,pending:=zcx de,fn:=fn4,tmps:=vs4,params:=ps2,assign:=a2,body:=b2,defers:=D4}))∧Sym.lo nx (.d (.bool (ze6 de))) ∧
     Sm (w'.putObj b4 (.loop {state:=if (zcx de).isNone then .ready else .done,pending:=zcx de,fn:=fn4,tmps:=vs4,params:=ps2,assign:=a2,body:=b2,defers:=D4})) (Ex X β' own') β' (.d (.bool (ze6 de))) v:=by
    rw [est];exact ⟨β4,_,rfl,hm7,by simp [Sym.lo],by simp [Sm,R,ebo]⟩
   cases e' <;> cases de <;> simp only [exM] at he'
   ·exact ⟨_,_,hend,hfin⟩
   ·subst he';exact ⟨_,_,hend,hfin⟩
   ·exact ⟨_,_,hend,hfin⟩
  ·exact hq4.elim
 ·exact hq.elim
def ziw (P:Program) (c:Code) (Q:DE→St→Prop) (st:St):Prop:=
 ∀ X w0 β a w n,Mods X w0 st β a w→c.wpIn (FW none) n P (fun e' a' w'=>∃ de st' β' ms',exM e' de∧Q de st'∧MX X w0 ms' st' β' a' w') a w
def zzp (st:St):Nat→Nat→List Sym
 | 0,_=>[]
 | k+1,t=>(match zab st.slots t with
  | some s=>s
  | none=>.junk)::zzp st k (t+1)
theorem zxl (hm:Mods X w0 st β a w) : ∀ (k t:Nat),t+k=a.tmps.size→Sms w (Ex X β st.own) β (zzp st k t) (a.tmps.toList.drop t)∧Sym.los st.next (zzp st k t)
 | 0,t,h=>by
  simp only [zzp];rw [List.drop_eq_nil_of_le (by simp;omega)]
  exact ⟨by simp [Sms],by simp [Sym.los]⟩
 | k+1,t,h=>by
  obtain ⟨h1,h2⟩:=zxl hm k (t+1) (by omega)
  have hlt:t<a.tmps.toList.length:=by simp;omega
  rw [List.drop_eq_getElem_cons hlt];simp only [zzp];have hg:a.tmps.getD t undef=a.tmps.toList[t]:=by
   have hlt':t<a.tmps.size:=by simpa using hlt
   simp [hlt']
  cases hs:zab st.slots t with
  | none=>
   refine ⟨?_,?_⟩
   ·simp only [Sms];exact ⟨_,_,rfl,by simp [Sm],h1⟩
   ·simp only [Sym.los];exact ⟨by simp [Sym.lo],h2⟩
  | some s=>
   obtain ⟨q1,q2⟩:=hm.slots t s hs;rw [hg] at q2;refine ⟨?_,?_⟩
   ·simp only [Sms];exact ⟨_,_,rfl,q2,h1⟩
   ·simp only [Sym.los];exact ⟨q1,h2⟩
def zqj (st:St) (ps:Array Tmp) (aS bd:Code):St:=st.new (.raw (.lp ps aS bd .ready none) (zzp st st.n 0))
def zqk (st:St) (id:Nat):St:={st with own:=st.own.filter fun x=>!Nat.beq x.1 id}
def zup (id:Nat) (Q:DE→St→Prop) (st:St):Prop:=match st.look id with
 | some (.raw (.lp _ _ _ s pend) _)=>match s,pend with
  | .busy,_=>False
  | _,none=>Q .normal (zqk st id)
  | _,some .ret=>Q .ret (zqk st id)
  | _,some (.exit i)=>Q (.exit i) (zqk st id)
  | _,_=>False
 | _=>False
theorem zl3 {g:Operand} {ps:Array Tmp} {aS bd:Code} {Q:DE→St→Prop} {gf:Nat} {caps:List Sym} (hcal:zbi (st.val g)=some (gf,caps)) (k:Nat) (ids:List Nat) (args0:List Sym) (own0:List (Nat×Obj'))
  {s:Sym} {nx:Nat} {own':List (Nat×Obj')} {mv:List Nat} (hk:k<ids.length∧rho ids k=st.next∧k∉mv)
  (ha:rens (rho ids) args0 = .yd st.next::caps) (hl:Sym.los ids.length args0) (hf:Fits (zqj st ps aS bd) ids own0) (hp:zcb P gf args0 own0 ids.length s nx own' mv)
  (hK:zup st.next Q ((zqj st ps aS bd).after ids nx own' mv)):ziw P (.rangeFunc g ps aS bd) Q st:=by
 intro X w0 β a w n hm
 refine wpIn_rangeFunc (F:=FW none) ?_
 intro fn _
 have hb1:Below w.heap.size w (w.alloc (.deferred (some []))):=zbj w _
 have hX2 : ∀ b,(X b∨b=w.heap.size)→X b∨(w.heap.size≤b∧b<(w.alloc (.deferred (some []))).heap.size):=fun b hb=>hb.elim .inl fun e=>.inr ⟨by omega,by simp;omega⟩
 have hm1:Mods (fun b=>X b∨b=w.heap.size) (zku (w.alloc (.deferred (some []))) st β w0.β0) st β a (w.alloc (.deferred (some []))):=
  hm.z9z hX2 (fun b=>.inl) (by simp) (fun b hb _=>hb1.block b hb)
 have hu:=hm.under (X':=fun b=>X b∨b=w.heap.size) (fun b=>.inl) (hm.below.next hb1)
 have hD:(w.alloc (.deferred (some []))).heap[w.heap.size]?=some (.deferred (some [])):=World.alloc_heap_new w _
 obtain ⟨hsl1,hsl2⟩:=zxl hm1 st.n 0 (by rw [← hm.size];omega)
 rw [List.drop_zero] at hsl1
 generalize hX':(fun b=>X b∨b=w.heap.size)=X' at hm1 hu hsl1
 have hX'D:X' w.heap.size:=by rw [← hX'];exact .inr rfl
 generalize hw1:w.alloc (.deferred (some []))=w1 at hm1 hu hD hsl1
 generalize hw0':zku w1 st β w0.β0=w0' at hm1 hu
 have hw0w:w0'.w=w1:=by rw [← hw0'];rfl
 have hsz1:w1.heap.size=w.heap.size+1:=by rw [← hw1];simp
 let rcd:Loop:={state:=.ready,pending:=none,fn,tmps:=a.tmps,params:=ps,assign:=aS,body:=bd,defers:=w.heap.size}
 have hm2:Mods X' w0' (zqj st ps aS bd) (fun i=>if i=st.next then .pointer (some ⟨w1.heap.size,0,none⟩) else β i) a (w1.alloc (.loop rcd)):=by
  refine hm1.new (zbj w1 _) rfl hsl2 (fun b hb=>by simp [blk] at hb;omega) ?_
  refine ⟨w1.heap.size,fn,w.heap.size,a.tmps.toList,by simp,.inl hm1.below.size,?_,?_⟩
  ·have:=World.alloc_heap_new w1 (.loop rcd)
   simpa [RK.obj,rcd] using this
  ·refine Sms.over (m:=st.next) (fun id h=>by simp;intro e;omega) ?_ hsl2 hsl1
   intro b hb he;refine ⟨?_,(zbj w1 _).block b hb⟩
   rintro (h | h)
   ·exact he h
   ·simp [blk] at h;omega
 generalize hst2:zqj st ps aS bd=st2 at hm2 hf hK
 have hval2:st2.val g=st.val g:=by rw [← hst2];rfl
 have hnext2:st2.next=st.next+1:=by rw [← hst2];rfl
 have hv:=(hm2.val g).2
 rw [hval2] at hv
 obtain ⟨lb,hev,hlb⟩ : ∃ lb:List Value,a.eval g = .func (.func gf) #[] lb.toArray∧Sms (w1.alloc (.loop rcd)) (Ex X' (fun i=>if i=st.next then .pointer (some ⟨w1.heap.size,0,none⟩) else β i) st2.own) (fun i=>if i=st.next then .pointer (some ⟨w1.heap.size,0,none⟩) else β i) caps lb:=by
  cases hf:st.val g <;> rw [hf] at hcal hv <;> simp only [zbi] at hcal
  case d x=>
   cases x <;> simp only [zbi] at hcal
   case fn f' l=>
    simp at hcal;obtain ⟨rfl,rfl⟩:=hcal
    simp only [Sm,R] at hv;obtain ⟨vs,h1,h2⟩:=hv;exact ⟨vs,h1,Sms.zf9 h2⟩
   all_goals cases hcal
  case fn f' l=>
   simp at hcal;obtain ⟨rfl,rfl⟩:=hcal
   simp only [Sm] at hv;exact hv
  all_goals cases hcal
 have hs2:Sms (w1.alloc (.loop rcd)) (Ex X' (fun i=>if i=st.next then .pointer (some ⟨w1.heap.size,0,none⟩) else β i) st2.own) (fun i=>if i=st.next then .pointer (some ⟨w1.heap.size,0,none⟩) else β i) (.yd st.next::caps) (.func (.yield w1.heap.size) #[] #[]::lb):=by
  simp only [Sms];refine ⟨_,_,rfl,?_,hlb⟩
  simp only [Sm];exact ⟨w1.heap.size,by simp,rfl⟩
 generalize hβ2:(fun i=>if i=st.next then Value.pointer (some ⟨w1.heap.size,0,none⟩) else β i)=β2 at hm2 hs2
 have hβn:β2 st.next = .pointer (some ⟨w1.heap.size,0,none⟩):=by rw [← hβ2];simp
 have hE:Ex (outOf X' β2 ids st2.own) (fun i=>β2 (rho ids i)) own0=Ex X' β2 st2.own:=funext fun b=>propext (hf.ex b)
 have hs0:Sms (w1.alloc (.loop rcd)) (Ex (outOf X' β2 ids st2.own) (fun i=>β2 (rho ids i)) own0) (fun i=>β2 (rho ids i)) args0 (.func (.yield w1.heap.size) #[] #[]::lb):=by
  rw [← ha] at hs2;rw [hE];exact zgb (ρ:=rho ids) (β:=fun i=>β2 (rho ids i)) (β':=β2) (m:=ids.length) (fun _ _=>rfl) hl hs2
 obtain ⟨hcb,hp2⟩:=hp
 have hcalls:=hp2 (outOf X' β2 ids st2.own) (inBase β2 ids (w1.alloc (.loop rcd))) (fun i=>β2 (rho ids i)) _ _ rfl (hm2.zp4 hf) hs0
 refine ⟨w1.heap.size,[mark w.heap.size],w1.alloc (.loop rcd),{target:=.fn (.func gf) lb.toArray,args:=#[.func (.yield w1.heap.size) #[] #[]]},w1.alloc (.loop rcd),gf,(.func (.yield w1.heap.size) #[] #[]::lb).toArray,w1.alloc (.loop rcd),?_,?_,fun _ _=>trivial,?_,fun hd=>by simp [FW,Fence.wide] at hd,?_⟩
 ·have:=run_enterLoop_outer (P:=P) (w:=w) fn a.tmps ps aS bd
  rw [hw1,← hsz1] at this;exact this
 ·simp only [resolve,hev]
  simp [go_sem]
 ·unfold callable at hcb
  cases hfn:P.funcs[gf]? with
  | none=>simp [hfn] at hcb
  | some fnn=>
   simp [hfn] at hcb;have e1:¬ fnn.body=none:=by intro e;rw [e] at hcb;simp at hcb
   simp [invoke,callFunc,hfn,e1,hcb.1]
 ·refine zm5 (hcalls.mono fun e' w3 he=>?_)
  obtain ⟨β1,v,rfl,hm1c,hslo,hsm⟩:=he;have hm3:=(hm2.zlt hf hm1c).1;have hβ3:zjt β2 β1 ids st2.next st.next = .pointer (some ⟨w1.heap.size,0,none⟩):=by
   have h1:=zw0 (β:=β2) (β1:=β1) hf k;have h2:rho' ids st2.next k=st.next:=by
    unfold rho';rw [if_pos hk.1];exact hk.2.1
   rw [h2] at h1;rw [h1,hm1c.still.2 k hk.1 hk.2.2];show β2 (rho ids k)=_
   rw [hk.2.1];exact hβn
  generalize hst3:st2.after ids nx own' mv=st3 at hm3 hK;generalize zjt β2 β1 ids st2.next=β3 at hm3 hβ3;unfold zup at hK;split at hK
  ·rename_i ps1 a1 b1 s1 pend cells1 hlk
   obtain ⟨b,fn',D',vs',hb,hh,hm4⟩:=zeh (s':=.exhausted) (pd':=pend) hm3 hlk;have hbl:b=w1.heap.size:=by
    rw [hb] at hβ3;simpa using hβ3
   subst hbl;have hm5:=hm4.filt (fun x=>!Nat.beq x.1 st.next)
   rw [zkv] at hm5;have hmx:MX X w0 [w.heap.size] (zqk st3 st.next) β3 {a with defers:=[mark w.heap.size]++a.defers} _:=
    ⟨⟨X',w0',hu,by
     have e:({({a with defers:=[mark w.heap.size]++a.defers}:Act) with defers:=[]}:Act)=a:=by have:=hm.defers;cases a;simp only at this;subst this;rfl
     rw [e];exact hm5,fun D hD'=>by
      have:D=w.heap.size:=by simpa using hD'
      subst this;exact ⟨hX'D,by rw [hw0w];exact hD⟩⟩,by rw [hm.defers];rfl,by simp,fun D hD'=>by
      have:D=w.heap.size:=by simpa using hD'
      subst this;exact .inl hm.below.size⟩
   have hend:s1≠.busy→(Instr.endLoop w1.heap.size).run P w3 = .ok pend _:=fun hne=>run_endLoop (P:=P) hh hne
   split at hK
   ·exact hK.elim
   ·rename_i _ _ hne
    exact ⟨none,_,hend hne,⟨.normal,_,β3,_,trivial,hK,hmx⟩⟩
   ·rename_i _ _ hne
    exact ⟨some .ret,_,hend hne,wpIn_ret ⟨.ret,_,β3,_,trivial,hK,hmx⟩⟩
   ·rename_i _ _ i hne
    exact ⟨some (.exit i),_,hend hne,wpIn_exit ⟨.exit i,_,β3,_,rfl,hK,hmx⟩⟩
   ·exact hK.elim
  ·exact hK.elim
end
section
variable {P:Program} {st:St} {Q:DE→St→Prop}
def evXK (P:Program) (y:Code) (Q:DE→St→Prop):DE→St→Prop:=zlv (fun st=>evX P y Q st) Q
theorem zn0 {x y:Code} (h:ziw P x (evXK P y Q) st):ziw P (.seq x y) Q st:=by
 intro X w0 β a w n hm
 refine wpIn_seq (wpIn_mono (h X w0 β a w n hm) ?_)
 rintro e a' w' ⟨de,st',β',ms',he,hq,hm'⟩
 cases e <;> cases de <;> simp only [exM] at he
 ·refine wpIn_mono (zd2 (c:=y) (Q:=Q) (r:=none) hq X w0 β' a' w' ms' n hm') ?_
  rintro e2 a2 w2 ⟨de2,st2,β2,he2,hq2,hm2⟩
  exact ⟨de2,st2,β2,ms',he2,hq2,hm2⟩
 ·subst he;exact ⟨.exit _,st',β',ms',rfl,hq,hm'⟩
 ·exact ⟨.ret,st',β',ms',trivial,hq,hm'⟩
theorem zl4 {id:Nat} {c:Code} (h:ziw P c (zbu id Q) st):ziw P (.block id c) Q st:=by
 intro X w0 β a w n hm
 refine wpIn_block (wpIn_mono (h X w0 β a w n hm) ?_)
 rintro e a' w' ⟨de,st',β',ms',he,hq,hm'⟩
 cases e <;> cases de <;> simp only [exM] at he
 ·exact ⟨.normal,st',β',ms',trivial,hq,hm'⟩
 ·subst he
  simp only [zbu] at hq;simp only [Exit.inBlock];split
  ·rename_i e;rw [if_pos e] at hq;exact ⟨.normal,st',β',ms',trivial,hq,hm'⟩
  ·rename_i e;rw [if_neg e] at hq;exact ⟨.exit _,st',β',ms',rfl,hq,hm'⟩
 ·exact ⟨.ret,st',β',ms',trivial,hq,hm'⟩
theorem zuq (hmix:P.follows .mixedOrders=true) (n:Nat) {c:Code} (S:St) (hs:z9e n c=true) : ∀ {st:St},ev P (ze4 n c) (cutK S Q) st→ziw P (zfr n c) Q S→ziw P c Q st:=by
 induction n generalizing c with
 | zero=>
  intro st h h2 X w0 β a w m hm;exact h2 X w0 β a w m (hm.weak h)
 | succ n ih=>
  intro st h h2;cases c <;> simp only [ze4,zfr,z9e,reduceCtorEq] at h h2 hs
  case seq x y=>
   intro X w0 β a w m hm;simp only [ev] at h;refine wpIn_seq (wpIn_mono (wpIn_wide.2 (zaq hmix h X w0 β a w hm)) ?_)
   rintro e a' w' ⟨de,st',β',he,hq,hm'⟩
   cases e <;> cases de <;> simp only [exM] at he
   ·exact ih hs hq h2 X w0 β' a' w' m hm'
   ·subst he;exact ⟨.exit _,st',β',[],rfl,hq,.of hm'⟩
   ·exact ⟨.ret,st',β',[],trivial,hq,.of hm'⟩
theorem zj4 {f:Nat} {fn:Func} {c:Code} (hf:P.funcs[f]?=some fn) (hb:fn.body=some c) (hcall:callable P f=true) {args:List D} {r:D}
  (h:ziw P c (zw6 (zui P fn.results.toList r)) (zg3 fn.ntmps args)):zay P f args r:=by
 refine ⟨hcall,fun w E vs hE hr=>?_⟩
 refine (callsIn_wide (n:=0)).1 (callsIn_of_wp_marks (F:=Fence.wide) (n:=0) hf hb trivial ?_)
 refine wpIn_mono (h E (.of w) _ _ w 0 (Mods.init hE hr)) ?_
 have fin : ∀ {st' β' ms' a' w'},zui P fn.results.toList r st'→MX E (.of w) ms' st' β' a' w'→LeavesInM Fence.wide 0 P fn a'.tmps (fun e w'=>∃ v,e = .returned v∧Below w.heap.size w w'∧R w' E r v) a'.defers .returning w':=by
  intro st0 β' ms' a' w' hq hmx;rw [hmx.defers];refine zqn hmx fun a2 w2 ea hm2=>?_
  obtain ⟨v,h1,h2⟩:=zdz hm2 hq;rw [← ea];exact ⟨v,h1,v,rfl,hm2.below.below,h2⟩
 rintro e a' w' ⟨de,st',β',ms',he,hq,hmx⟩
 cases e <;> cases de <;> simp only [exM] at he
 ·exact fin hq hmx
 ·exact hq.elim
 ·exact fin hq hmx
end
def zd3:Code→Option (Array Tmp×Code×Code)
 | .rangeFunc _ ps a b=>some (ps,a,b)
 | .seq x y=>match zd3 x with
  | some r=>some r
  | none=>zd3 y
 | .block _ c=>zd3 c
 | _=>none
def rAs (f:Func):Code:=match f.body with
 | some c=>match zd3 c with
  | some (_,a,_)=>a
  | none=>.skip
 | none=>.skip
def rBd (f:Func):Code:=match f.body with
 | some c=>match zd3 c with
  | some (_,_,b)=>b
  | none=>.skip
 | none=>.skip
theorem zqh.to {P:Program} {st:St} {id:Nat} {xs:List Operand} {dst:Option Tmp} {K:St→Prop} (k:Nat) (ids:List Nat) (args0:List Sym) (own0:List (Nat×Obj')) {s:Sym} {nx:Nat} {own':List (Nat×Obj')} {mv:List Nat}
  (hk:k<ids.length∧rho ids k=id) (ha:rens (rho ids) args0=xs.map st.val) (hl:Sym.los ids.length args0) (hf:Fits st ids own0) (hp:zqm P k args0 own0 ids.length s nx own' mv)
  (hK:K ((st.after ids nx own' mv).put dst (ren (rho' ids st.next) s))):zqh P st id xs dst K:=⟨k,ids,args0,own0,s,nx,own',mv,hk,ha,hl,hf,hp,hK⟩
theorem zcb.yf8 {P:Program} {f:Nat} {args:List Sym} {own:List (Nat×Obj')} {n nx:Nat} {own':List (Nat×Obj')} {mv:List Nat} (h:zcb P f args own n (.tup []) nx own' mv):zcb P f args own n (.d (.tup [])) nx own' mv:=by
 refine ⟨h.1,fun X w0 β w vs hβ hm hs=>(h.2 X w0 β w vs hβ hm hs).mono fun e w' he=>?_⟩
 obtain ⟨β',v,h1,h2,h3,h4⟩:=he
 refine ⟨β',v,h1,h2,by simp [Sym.lo],?_⟩
 simp only [Sm,Sms] at h4
 obtain ⟨vs',rfl,rfl⟩:=h4
 simp [Sm,R,za9]
section
variable {P:Program} {st:St} {Q:DE→St→Prop} {K:St→Prop} {all r:List Oper}
def z9n (P:Program) (all r:List Oper) (K:St→Prop):St→Prop:=fun st=>zks P all r st K
theorem ycn:evX P .skip Q st=Q .normal st:=rfl
theorem z4n (id:Nat) (ops:List Oper):evX P (.region id ops.toArray false) Q st=zks P ops ops st (yb8 Q):=by simp [evX];rfl
theorem yew (x y:Code):evX P (.seq x y) Q st=evX P x (evXK P y Q) st:=rfl
theorem yco (c:Operand) (x y:Code):evX P (.cond c x y) Q st=match st.val c with
  | .d (.bool b)=>(b=true→evX P x Q st)∧(b=false→evX P y Q st)
  | _=>False:=rfl
theorem z9o (id:Nat) (c:Code):evX P (.block id c) Q st=evX P c (zbu id Q) st:=rfl
theorem ycp (id:Nat):evX P (.exit id) Q st=Q (.exit id) st:=rfl
theorem yex:evX P .ret Q st=Q .ret st:=rfl
theorem zzq (y:Code):evXK P y Q .normal st=evX P y Q st:=rfl
theorem z9p (y:Code) (i:Nat):evXK P y Q (.exit i) st=Q (.exit i) st:=rfl
theorem ycq (y:Code):evXK P y Q .ret st=Q .ret st:=rfl
theorem z9q:zks P all [] st K=K st:=rfl
theorem zzr (dst:Option Tmp) (op:Op) (ty:Nat) (pos:String) (after:Array Edge) :
  zks P all (⟨dst,op,ty,pos,after,none⟩::r) st K=dopX P ⟨dst,op,ty,pos,after,none⟩ st (z9n P all r K):=rfl
theorem zzs (dst:Option Tmp) (op:Op) (ty:Nat) (pos:String) (after:Array Edge) (j:Nat) (want:Bool) :
  zks P all (⟨dst,op,ty,pos,after,some (j,want)⟩::r) st K=match (all[j]?).bind (·.dst) with
   | some t=>match zab st.slots t with
    | some (.d (.bool b))=>(b=want→dopX P ⟨dst,op,ty,pos,after,some (j,want)⟩ (st.put (some t) (.d (.bool want))) (z9n P all r K)) ∧
     (b = !want→dstB dst st.n=true∧zks P all r ((st.put (some t) (.d (.bool !want))).put dst (.d (.val undef))) K)
    | some (.d (.val v))=>v=undef∧dstB dst st.n=true∧zks P all r (st.put dst (.d (.val undef))) K
    | _=>False
   | none=>False:=rfl
theorem z4o:z9n P all r K st=zks P all r st K:=rfl
theorem zql {bd:Code} {id n:Nat}:zun P bd id n Q .normal st=((st.base=n∧id∉st.moved)∧match st.look id with
  | some (.raw (.lp ps aS bd' .ready none) cells1)=>bd'=bd∧evX P bd Q {st with own:=aset id (.raw (.lp ps aS bd' .busy none) cells1) st.own}
  | _=>False):=rfl
end
attribute [simp] ycn z4n yew yco z9o ycp yex zzq z9p ycq z9q zzr zzs z4o dopX ydOf zql z9m initC zd0 roundEnd ze6 zfo zcx zzp zqj zqk zup
section
variable {P:Program} {st:St} {all:List Oper}
def zsv (P:Program) (all:List Oper) (m:Nat) (K:St→Prop):List Oper→St→Prop
 | [],st=>K st
 | x::r,st=>dstB x.dst st.n=true∧zkp P all x st (fun s=>Sym.lo m s∧zsv P all m K r (st.put x.dst s))
theorem zn1 {m:Nat} {K:St→Prop} : ∀ {l:List Oper} {st:St},zsv P all m K l st→∃ ss,Chain P all l ss st∧(∀ s∈ss,Sym.lo m s)∧K (puts l ss st)
 | [],st,h=>⟨[],rfl,by simp,h⟩
 | x::r,st,h=>by
  simp only [zsv] at h;obtain ⟨h0,h⟩:=h;obtain ⟨s,h1,h2,h3⟩:=zop h;obtain ⟨ss,q1,q2,q3⟩:=zn1 h3;refine ⟨s::ss,⟨s,ss,rfl,h0,h1,q1⟩,?_,q3⟩
  intro u hu;rcases List.mem_cons.1 hu with e | hu
  ·subst e;exact h2
  ·exact q2 u hu
theorem z9r (hmix:P.follows .mixedOrders=true) {id:Nat} {pre post:List Oper} (hok:zb7 (pre++post)=true) (hpost:post≠[]) (hcut:cutB (pre++post) pre.length=true) (hcuts:z9j (pre++post) pre.length=true) {Q:DE→St→Prop}
  (hkeys:(st.own.map (·.1)).Nodup) (h:zsv P (pre++post) st.next (zum P (Q .normal) post) pre st):Triple P (.region id (pre++post).toArray true) Q st:=by
 refine zew hmix hok ?_
 obtain ⟨ss,hch,hlo,hd⟩:=zn1 h
 have hlen:=zf1 hch
 have hkd : ∀ i k,(Seg.kd ⟨pre++post,0,pre.length,ss.map .val,st,fun _=>st.own⟩ i)=some k→∃ s,ss[i]?=some s∧k = .val s:=by
  intro i k hk;unfold Seg.kd at hk;split at hk
  ·simp only [Nat.sub_zero,List.getElem?_map] at hk
   cases hs:ss[i]? with
   | none=>rw [hs] at hk;cases hk
   | some s=>rw [hs] at hk;simp at hk;exact ⟨s,rfl,hk.symm⟩
  ·cases hk
 have hnoU : ∀ t,¬(Seg.U ⟨pre++post,0,pre.length,ss.map .val,st,fun _=>st.own⟩ t):=by
  rintro t ⟨i,ob,y,k,_,hk,_,hm⟩
  obtain ⟨s,_,rfl⟩:=hkd i k hk;cases hm
 have hnb : ∀ i id ob,Seg.kd ⟨pre++post,0,pre.length,ss.map .val,st,fun _=>st.own⟩ i≠some (.bst id ob):=by
  intro i id ob hk;obtain ⟨s,_,e⟩:=hkd i _ hk;cases e
 have hsti : ∀ i,Seg.sti ⟨pre++post,0,pre.length,ss.map .val,st,fun _=>st.own⟩ i=puts ((pre++post).take i) (ss.take i) st:=by
  intro i;unfold Seg.sti;have hmm:(ss.map FK.val).map FK.sym=ss:=by
   rw [List.map_map];have:(FK.sym∘FK.val)=fun s=>s:=rfl
   rw [this,List.map_id']
  simp only [List.drop_zero,Nat.sub_zero];rw [hmm]
 have hpt : ∀ i,i≤pre.length→(pre++post).take i=pre.take i:=fun i hi=>by rw [List.take_append_of_le_length hi]
 refine RegI.seg (pos:=0) (hi:=pre.length) (ss.map .val) (fun _=>st.own) [] st.own ?_ ?_ (.inl hcut) ?_
 ·refine ⟨hok,⟨Nat.zero_le _,by simp,by simp [hlen]⟩,fun t _ _ h=>absurd h (hnoU t),fun i t ob m h=>absurd ⟨i,ob,h⟩ (hnoU t),fun i j id ob ob' h=>absurd h (hnb i id ob),fun _ id ob h=>⟨h,fun i ob hk=>absurd hk (hnb i id ob)⟩,?_⟩
  intro i y k hy hk;obtain ⟨s,hs,rfl⟩:=hkd i k hk;have hi:i<pre.length:=by
   have:=(List.getElem?_eq_some_iff.1 hs).1
   omega
  have hy':pre[i]?=some y:=by
   have:(pre++post)[i]?=pre[i]?:=List.getElem?_append_left hi
   rw [← this];exact hy
  obtain ⟨s',hs',hd',hst⟩:=zqa hch hy';rw [hs] at hs';cases hs';refine ⟨hd',fun t _=>hnoU t,?_,hlo s (List.mem_of_getElem? hs)⟩
  show DStep P (pre++post) y (Seg.sti ⟨pre++post,0,pre.length,ss.map .val,st,fun _=>st.own⟩ i) s
  rw [hsti,hpt i (by omega)]
  exact hst
 ·refine ⟨fun t ob h=>by simp at h,by simp,rfl,fun _ id ob h=>.inr ⟨?_,fun i ob=>hnb i id ob⟩⟩
  have hmem : ∀ {l:List (Nat×Obj')},(l.map (·.1)).Nodup→(id,ob)∈l→zab l id=some ob:=by
   intro l;induction l with
   | nil=>intro _ h;cases h
   | cons x r ih=>
    intro hn h;obtain ⟨k,u⟩:=x;simp only [List.map_cons,List.nodup_cons] at hn;simp only [zab];rcases List.mem_cons.1 h with e | h
    ·cases e;simp
    ·have hne:k≠id:=by intro e;subst e;exact hn.1 (List.mem_map.2 ⟨_,h,rfl⟩)
     rw [if_neg hne];exact ih hn.2 h
  exact hmem hkeys h
 ·have hfin:Seg.fin ⟨pre++post,0,pre.length,ss.map .val,st,fun _=>st.own⟩ [] st.own=puts pre ss st:=by
   unfold Seg.fin;simp only [hsti,hpt pre.length (Nat.le_refl _),List.take_length];have hss:ss.take pre.length=ss:=by rw [List.take_of_length_le (by omega)]
   obtain ⟨p1,p2,p3,p4,p5⟩:=zjm pre ss st;rw [hss];simp only [List.length_nil,Nat.add_zero,refF,numF,List.nil_append];cases hp:puts pre ss st with
   | mk n next slots own base moved=>
    rw [hp] at p1 p2 p3 p4 p5;simp only at p1 p2 p3 p4 p5
    subst p1;subst p2;subst p3;subst p4;subst p5;rfl
  rw [hfin];refine zhq (k:=pre.length) (by simp) (by simp) (fun i h1 h2=>?_) hd
  have:=List.all_eq_true.1 hcuts i (List.mem_range.2 h2)
  rw [Bool.or_eq_true,Nat.ble_eq] at this;exact this.elim (fun e=>by omega) fun e=>e
theorem z9s (hmix:P.follows .mixedOrders=true) (m:Nat) {id:Nat} {ops:List Oper} {Q:DE→St→Prop} (hok:zb7 ops=true) (hm:decide (m<ops.length)=true) (hcut:cutB ops m=true) (hcuts:z9j ops m=true)
  (hkeys:(st.own.map (·.1)).Nodup) (h:zsv P ops st.next (zum P (Q .normal) (ops.drop m)) (ops.take m) st):Triple P (.region id ops.toArray true) Q st:=by
 have hm:m<ops.length:=of_decide_eq_true hm
 have e:ops.take m++ops.drop m=ops:=List.take_append_drop m ops
 have hl:(ops.take m).length=m:=by rw [List.length_take];omega
 have:=z9r (P:=P) (st:=st) (pre:=ops.take m) (post:=ops.drop m) (id:=id) (Q:=Q) hmix (by rw [e];exact hok) (by intro e2;have:=congrArg List.length e2;rw [List.length_drop] at this;simp at this;omega) (by rw [e,hl];exact hcut) (by rw [e,hl];exact hcuts) hkeys (by rw [e];exact h)
 rw [e] at this
 exact this
attribute [simp] zsv zum
end
section
variable {P:Program} {all:List Oper} {st:St} {Q:DE→St→Prop}
def zzt (P:Program) (ib n0:Nat) (st:St) (t:Nat) (ad x:Sym) (K:Nat→Obj'→Prop):Prop:=
 match TI.of P t,ad with
 | some ti,.bp id off=>match st.look id with
  | some (.box T cells)=>match zbd x with
   | some l=>(id=ib∧l.length=ti.size∧off+l.length≤cells.length∧Sym.los n0 (splice cells off l))∧K id (.box T (splice cells off l))
   | none=>False
  | _=>False
 | _,_=>False
def hidB (ib:Nat) (st:St) (b:Bool):St:={st with own:=if b=true then st.own else st.own.filter fun x=>!Nat.beq x.1 ib}
theorem zsw {ib:Nat} : ∀ (l:List (Nat×Obj')) (id:Nat),zab (l.filter fun x=>!Nat.beq x.1 ib) id=if id=ib then none else zab l id
 | [],id=>by simp [zab]
 | (k,v)::r,id=>by
  have ih:=zsw (ib:=ib) r id;by_cases h:k=ib
  ·subst h
   rw [List.filter_cons_of_neg (by simp),ih]
   by_cases h2:id=k
   ·subst h2;simp
   ·rw [if_neg h2,if_neg h2];simp only [zab];rw [if_neg (fun e=>h2 e.symm)]
  ·have hb:Nat.beq k ib=false:=by
    cases hq:Nat.beq k ib with
    | true=>exact absurd (Nat.eq_of_beq_eq_true hq) h
    | false=>rfl
   rw [List.filter_cons_of_pos (by show (!Nat.beq k ib)=true;rw [hb];rfl)]
   simp only [zab];by_cases h2:k=id
   ·subst h2;rw [if_pos rfl,if_neg h,if_pos rfl]
   ·rw [if_neg h2,ih,if_neg h2]
def frdB (P:Program) (all:List Oper) (n0:Nat) (dp:Nat→Bool) (ib:Nat):Nat→List Oper→St→List Sym→(St→List Sym→Prop)→Prop
 | _,[],st,ss,K=>K st ss
 | i,o::r,st,ss,K=>dstB o.dst st.n=true∧zkp P all o (hidB ib st (dp i)) (fun s=>Sym.lo n0 s∧frdB P all n0 dp ib (i+1) r (st.put o.dst s) (s::ss) K)
theorem zsx {n0:Nat} {dp:Nat→Bool} {ib:Nat} {K:St→List Sym→Prop} : ∀ {l:List Oper} {i:Nat} {st:St} {rs:List Sym},frdB P all n0 dp ib i l st rs K →
  ∃ ss:List Sym,ss.length=l.length∧K (puts l ss st) (ss.reverse++rs)∧∀ j o,l[j]?=some o→∃ s,ss[j]?=some s∧dstB o.dst st.n=true∧DStep P all o (hidB ib (puts (l.take j) (ss.take j) st) (dp (i+j))) s∧Sym.lo n0 s
 | [],i,st,rs,h=>⟨[],rfl,by simp only [frdB] at h;simpa [puts] using h,fun j o hj=>by simp at hj⟩
 | x::r,i,st,rs,h=>by
  simp only [frdB] at h;obtain ⟨hd,h⟩:=h;obtain ⟨s,h1,h2,h3⟩:=zop h;obtain ⟨ss,q1,q2,q3⟩:=zsx h3;refine ⟨s::ss,by simp [q1],by simpa [puts] using q2,fun j o hj=>?_⟩
  cases j with
  | zero=>
   simp at hj;subst hj
   exact ⟨s,rfl,hd,by simpa [puts] using h1,h2⟩
  | succ j=>
   obtain ⟨s',e1,e2,e3,e4⟩:=q3 j o (by simpa using hj)
   refine ⟨s',by simpa using e1,?_,?_,e4⟩
   ·have:(st.put x.dst s).n=st.n:=by unfold St.put;split <;> rfl
    rw [this] at e2;exact e2
   ·have e:i+(j+1)=i+1+j:=by omega
    rw [e];simpa [puts] using e3
theorem zxm (ib:Nat) (b:Bool) : ∀ (l:List Oper) (ss:List Sym) (st:St),puts l ss (hidB ib st b)=hidB ib (puts l ss st) b
 | [],ss,st=>by simp [puts]
 | o::r,[],st=>by simp [puts]
 | o::r,s::ss,st=>by
  have:(hidB ib st b).put o.dst s=hidB ib (st.put o.dst s) b:=by
   unfold hidB St.put;cases o.dst <;> rfl
  simp only [puts];rw [this,zxm ib b r ss]
theorem ydc (hmix:P.follows .mixedOrders=true) (m ib:Nat) {id:Nat} {ops:List Oper} {t j:Nat} {x:Operand} {so:Oper} {Q:DE→St→Prop} (hok:zb7 ops=true) (hso:ops[m]?=some so) (hop:so.op = .store t (.tmp j) x) (hg:so.guard=none) (hdn:so.dst=none)
  (hcut:z9j ops m=true) (hkeys:(st.own.map (·.1)).Nodup)
  (h:frdB P ops st.next (zst ops 4 m) ib 0 (ops.take m) st [] (fun stF _=>zzt P ib st.next {stF with own:=st.own} t (stF.val (.tmp j)) (stF.val x) (fun id ob=>zum P (Q .normal) (ops.drop (m+1)) {st with slots:=stF.slots,own:=aset id ob st.own}))) :
  Triple P (.region id ops.toArray true) Q st:=by
 refine zew hmix hok ?_
 obtain ⟨ss,hlen,hK,hstep⟩:=zsx h
 have hml:m<ops.length:=(List.getElem?_eq_some_iff.1 hso).1
 have htl:(ops.take m).length=m:=by rw [List.length_take];omega
 rw [htl] at hlen
 obtain ⟨p1,p2,p3,p4,p5⟩:=zjm (ops.take m) ss st
 generalize hE:puts (ops.take m) ss st=stE at hK p1 p2 p3 p4 p5
 unfold zzt at hK
 split at hK
 ·rename_i ti id' off hti had
  split at hK
  ·rename_i T cells hlk
   split at hK
   ·rename_i l hl
    ·obtain ⟨hcond,hK⟩:=hK
     obtain ⟨hid0,hcond⟩:=hcond;subst hid0;have hlk0:zab st.own id'=some (.box T cells):=hlk
     let ob:Obj':=.box T (splice cells off l)
     let ks:List FK:=ss.map .val++[.bst id' ob]
     have hkl:ks.length=m+1:=by simp [ks,hlen]
     let dp:Nat→Bool:=zst ops 4 m
     let S:Seg:=⟨ops,0,m+1,ks,st,fun i=>if i<m then (if dp i=true then st.own else st.own.filter fun x=>!Nat.beq x.1 id') else []⟩
     have hown0 : ∀ i,S.own0 i=if i<m then (if dp i=true then st.own else st.own.filter fun x=>!Nat.beq x.1 id') else []:=fun i=>rfl
     have hkd : ∀ i,S.kd i=if i<m then (ss[i]?).map .val else if i=m then some (.bst id' ob) else none:=by
      intro i;show (if 0≤i∧i<m+1 then ks[i-0]? else none)=_
      rw [Nat.sub_zero];by_cases h1:i<m
      ·rw [if_pos (by omega),if_pos h1]
       simp only [ks];rw [List.getElem?_append_left (by simp;omega),List.getElem?_map]
      ·rw [if_neg h1]
       by_cases h2:i=m
       ·subst h2
        rw [if_pos (by omega),if_pos rfl]
        simp only [ks];rw [List.getElem?_append_right (by simp;omega)]
        simp [hlen]
       ·rw [if_neg (by omega),if_neg h2]
     have hval : ∀ i k,S.kd i=some k→(i<m∧∃ s,ss[i]?=some s∧k = .val s)∨(i=m∧k = .bst id' ob):=by
      intro i k hk;rw [hkd] at hk;split at hk
      ·rename_i h1
       rw [Option.map_eq_some_iff] at hk;obtain ⟨s,e1,e2⟩:=hk;exact .inl ⟨h1,s,e1,e2.symm⟩
      ·split at hk
       ·rename_i h2;cases hk;exact .inr ⟨h2,rfl⟩
       ·cases hk
     have hnoU : ∀ u,¬ S.U u:=by
      rintro u ⟨i,o,y,k,_,hk,_,hm⟩
      rcases hval i k hk with ⟨_,s,_,rfl⟩ | ⟨_,rfl⟩ <;> cases hm
     have hbm:S.kd m=some (.bst id' ob):=by rw [hkd,if_neg (Nat.lt_irrefl _),if_pos rfl]
     have hks : ∀ i,i≤m→(ks.map FK.sym).take i=ss.take i:=by
      intro i hi;simp only [ks,List.map_append,List.map_map];have hmm:(FK.sym∘FK.val)=fun s=>s:=rfl
      rw [hmm,List.map_id',List.take_append_of_le_length (by omega)]
     have hsti : ∀ i,i<m→S.sti i=hidB id' (puts (ops.take i) (ss.take i) st) (dp i):=by
      intro i hi;unfold Seg.sti;show puts ((ops.drop 0).take (i-0)) ((ks.map FK.sym).take (i-0)) {st with own:=S.own0 i}=_
      rw [hown0];simp only [List.drop_zero,Nat.sub_zero];rw [hks i (by omega)]
      rw [if_pos hi];exact zxm id' (dp i) _ _ st
     have hstm:S.sti m = {stE with own:=[]}:=by
      unfold Seg.sti;show puts ((ops.drop 0).take (m-0)) ((ks.map FK.sym).take (m-0)) {st with own:=S.own0 m}=_
      rw [hown0,if_neg (by omega)]
      simp only [List.drop_zero,Nat.sub_zero];rw [hks m (Nat.le_refl _),List.take_of_length_le (show ss.length≤m by omega),← hE]
      exact z1o false _ _ st
     have hvm : ∀ y,(S.sti m).val y=stE.val y:=by
      intro y;rw [hstm];cases y <;> rfl
     have cuts : ∀ i,m<i→i<ops.length→cutB ops i=true:=by
      intro i h1 h2;have:=List.all_eq_true.1 hcut i (List.mem_range.2 h2)
      rw [Bool.or_eq_true,Nat.ble_eq] at this;exact this.elim (fun e=>by omega) fun e=>e
     refine RegI.seg (pos:=0) (hi:=m+1) ks S.own0 [] (aset id' ob st.own) ?_ ?_ ?_ ?_
     ·refine ⟨hok,⟨Nat.zero_le _,hml,by simp [hkl]⟩,fun u _ _ hu=>absurd hu (hnoU u),fun i u o m' hc=>absurd ⟨i,o,hc⟩ (hnoU u),?_,?_,?_⟩
      ·intro a b id ob1 ob2 h1 h2
       rcases hval a _ h1 with ⟨_,s,_,e⟩ | ⟨e1,_⟩
       ·cases e
       ·rcases hval b _ h2 with ⟨_,s,_,e⟩ | ⟨e2,_⟩
        ·cases e
        ·omega
      ·intro i id o ho
       have ho:zab (S.own0 i) id=some o:=ho
       rw [hown0] at ho;split at ho
       ·split at ho
        case isFalse hdp=>
         rw [zsw] at ho;split at ho
         ·cases ho
         ·rename_i hne
          refine ⟨ho,fun m' ob' hk=>?_⟩
          rcases hval m' _ hk with ⟨_,s,_,e⟩ | ⟨e1,e2⟩
          ·cases e
          ·cases e2;exact absurd rfl hne
        rename_i hb0 hb1;have hb:i<m∧dp i=true:=⟨hb0,hb1⟩
        refine ⟨ho,fun m' ob' hk=>?_⟩
        rcases hval m' _ hk with ⟨_,s,_,e⟩ | ⟨e1,_⟩
        ·cases e
        ·subst e1
         exact ⟨4,hb.2⟩
       ·simp [zab] at ho
      ·intro i o k ho hk
       have ho:ops[i]?=some o:=ho
       have hk:S.kd i=some k:=hk
       rcases hval i k hk with ⟨hi,s,hs,rfl⟩ | ⟨rfl,rfl⟩
       ·obtain ⟨s',e1,e2,e3,e4⟩:=hstep i o (by rw [List.getElem?_take,if_pos hi];exact ho)
        rw [hs] at e1;cases e1;refine ⟨e2,fun u _=>hnoU u,?_,e4⟩
        show DStep P ops o (S.sti i) s
        rw [hsti i hi];rw [Nat.zero_add,List.take_take,Nat.min_eq_left (by omega)] at e3
        exact e3
       ·rw [hso] at ho;cases ho
        refine ⟨by rw [hdn];rfl,hg,hdn,fun u _=>hnoU u,hcond.2.2,_,hlk0,?_⟩
        intro st' K hkn hlk' hK';unfold dop;rw [hop];simp only;rw [hdn,hti];simp only;unfold zlj;have hva:st'.val (.tmp j) = .bp id' off:=by
         have hq:=hvm (.tmp j);rw [had] at hq;rw [hkn.2 (.tmp j) (by rw [hop];simp [Op.operands]) (by rw [hq];simp),hq]
        have hvx:zbd (st'.val x)=some l:=by
         have hq:=hvm x;have hnj:stE.val x≠.junk:=by intro e;rw [e] at hl;simp [zbd] at hl
         rw [hkn.2 x (by rw [hop];simp [Op.operands]) (by rw [hq];exact hnj),hq]
         exact hl
        rw [hva];simp only;rw [hlk'];simp only;rw [hvx];simp only;exact ⟨hcond.1,hcond.2.1,hK'⟩
     ·have hmem:id'∈st.own.map (·.1):=List.mem_map.2 ⟨_,zaw hlk0,rfl⟩
      refine ⟨fun u ob' hm=>by simp at hm,by simp,zil hmem,fun hn id o hio=>?_⟩
      rcases zji hkeys hio with ⟨e1,e2⟩ | ⟨hne,hio⟩
      ·subst e1;subst e2;exact .inl ⟨m,hbm⟩
      ·refine .inr ⟨zi1 hkeys hio,fun i ob' hk=>?_⟩
       rcases hval i _ hk with ⟨_,s,_,e⟩ | ⟨_,e⟩
       ·cases e
       ·cases e;exact hne rfl
     ·rcases Nat.eq_or_lt_of_le (show m+1≤ops.length from hml) with e | e
      ·exact .inr e
      ·exact .inl (cuts (m+1) (Nat.lt_succ_self m) e)
     ·have hfin:Seg.fin ⟨ops,0,m+1,ks,st,S.own0⟩ [] (aset id' ob st.own) = {st with slots:=stE.slots,own:=aset id' ob st.own}:=by
       unfold Seg.fin;have hs:(Seg.sti ⟨ops,0,m+1,ks,st,S.own0⟩ (m+1)).slots=stE.slots:=by
        unfold Seg.sti;simp only [List.drop_zero,Nat.sub_zero];have e1:ops.take (m+1)=ops.take m++[so]:=by
         rw [List.take_add_one,hso];rfl
        have e2:(ks.map FK.sym).take (m+1)=ss++[.junk]:=by
         rw [List.take_of_length_le (by simp [hkl])]
         simp only [ks,List.map_append,List.map_map];have hmm:(FK.sym∘FK.val)=fun s=>s:=rfl
         rw [hmm,List.map_id'];rfl
        rw [e1,e2,zx3 _ _ _ (by rw [htl,hlen]),hdn]
        have e3:({st with own:=S.own0 (m+1)}:St) = {st with own:=S.own0 (m+1)}:=rfl
        have e4 : ∀ (o':List (Nat×Obj')) (l:List Oper) (ss:List Sym) (st:St),(puts l ss {st with own:=o' }).slots=(puts l ss st).slots:=by
         intro o' l;induction l with
         | nil=>intro ss st;simp [puts]
         | cons y r ih=>
          intro ss st;cases ss with
          | nil=>simp [puts]
          | cons s ss=>
           simp only [puts];have:({st with own:=o' }:St).put y.dst s = {(st.put y.dst s) with own:=o' }:=by
            unfold St.put;cases y.dst <;> rfl
           rw [this];exact ih ss (st.put y.dst s)
        show (puts (ops.take m) ss {st with own:=S.own0 (m+1)}).slots=stE.slots
        rw [e4,hE]
       rw [hs];rfl
      rw [hfin];exact zhq hml rfl (fun i h1 h2=>cuts i (by omega) h2) hK
   ·exact hK.elim
  ·exact hK.elim
 ·exact hK.elim
attribute [simp] zzt frdB hidB
end
end Go.V

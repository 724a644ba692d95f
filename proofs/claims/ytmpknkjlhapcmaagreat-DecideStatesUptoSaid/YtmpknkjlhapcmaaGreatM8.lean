/- Contracts and plain laws of this seat: part M8. It needs no conditions. -/
import Derived.Test.YtmpknkjlhapcmaaGreatM7
import Derived.Test.YtmpknkjlhapcmaaGreatM6
set_option linter.unusedVariables false
set_option linter.unusedSimpArgs false
set_option linter.unusedSectionVars false
set_option maxRecDepth 100000
namespace Go.V
open Go Go.Proofs
theorem zyv (g:Lang) (hg:LightF g) (hc:LangC g) (w:List Int) (hw:w.length≤24) {σ:Type} (C:Clo Tryz.prog g w σ) : ∀ f,WalkC g w C f
 | 0=>z88 g hg hc w hw C
 | f+1=>by
  have ih:=zyv g hg hc w hw C f;exact {call:=fun k x tr a s base hI hk ht hl hs hb hkb=>z2i g hg hc w hw C f ih k x tr a s base hI hk ht hl hs hb hkb,inv:=fun k x tr a s base hI hk ht hl _ hb hkb=>yby hg hw ih k x tr a s base hI hk ht hl hb hkb}
section
variable {σ:Type}
def sF (F:σ→List Prt→List Int→σ×Bool):σ×Bool→List (List Prt×List Int)→σ×Bool
 | z,[]=>z
 | z,(p,b)::r=>if z.2=false then z else sF F (F z.1 p b) r
theorem zwm {F:σ→List Prt→List Int→σ×Bool} {z:σ×Bool} (h:z.2=false) : ∀ l,sF F z l=z
 | []=>rfl
 | (p,b)::r=>by unfold sF;rw [if_pos h]
theorem zwn {F:σ→List Prt→List Int→σ×Bool} (z:σ×Bool) (p:List Prt) (b:List Int) (r:List (List Prt×List Int)):sF F z ((p,b)::r)=if z.2=false then z else sF F (F z.1 p b) r:=rfl
theorem zro {F:σ→List Prt→List Int→σ×Bool} : ∀ (z:σ×Bool) (l r:List (List Prt×List Int)),sF F z (l++r)=sF F (sF F z l) r
 | z,[],r=>rfl
 | z,(p,b)::l,r=>by
  rw [List.cons_append,zwn,zwn];by_cases h:z.2=false
  ·rw [if_pos h,if_pos h]
   exact (zwm h r).symm
  ·rw [if_neg h,if_neg h]
   exact zro _ l r
theorem zwo {F:σ→List Prt→List Int→σ×Bool} {α β:Type} {pr:β→σ×Bool} {G:β→α→β} {T:α→List (List Prt×List Int)} : ∀ (l:List α) (y:β),(∀ y,∀ e∈l,pr (G y e)=sF F (pr y) (T e))→pr (l.foldl G y)=sF F (pr y) (l.flatMap T)
 | [],y,_=>rfl
 | e::l,y,h=>by
  rw [List.foldl_cons,List.flatMap_cons,zro,← h y e (List.mem_cons_self ..)];exact zwo l _ fun y e he=>h y e (List.mem_cons_of_mem _ he)
variable {P:Program} (g:Lang) (w:List Int) (C:Clo P g w σ)
def prS (z:Sst σ):σ×Bool:=(z.1.1,z.2)
def ybz (a:List Prt) (s:Nat) (base:List Int):List (List Prt×List Int):=
 if a≠[]∧s &&& zbe g.net.final≠0∧w.length≤base.length∧zh4 g w base=true then [(a,base)] else []
theorem z5u (x:σ×List (List Int)) (a:List Prt) (s:Nat) (base:List Int):prS (zfu g w C x a s base)=sF C.F (x.1,true) (ybz g w a s base):=by
 unfold zfu ybz
 by_cases h:a≠[]∧s &&& zbe g.net.final≠0∧w.length≤base.length
 ·rw [if_pos h]
  by_cases hf:zh4 g w base=true
  ·rw [if_pos hf,if_pos ⟨h.1,h.2.1,h.2.2,hf⟩];simp [sF,prS]
  ·rw [if_neg hf,if_neg (fun h'=>hf h'.2.2.2)];rfl
 ·rw [if_neg h,if_neg (fun h'=>h ⟨h'.1,h'.2.1,h'.2.2.1⟩)];rfl
theorem z5v : ∀ (f:Nat) (x:σ×List (List Int)) (a:List Prt) (s:Nat) (base:List Int),prS (zav g w C f x a s base)=sF C.F (x.1,true) (ybz g w a s base++walkT g w f a s base)
 | 0,x,a,s,base=>by
  unfold zav walkT;rw [List.append_nil,z5u]
 | f+1,x,a,s,base=>by
  rw [zro,← z5u g w C];unfold zav;by_cases h:(zfu g w C x a s base).2=false
  ·rw [if_pos h,zwm (z:=prS (zfu g w C x a s base)) h]
  rw [if_neg h];have h':(zfu g w C x a s base).2=true:=by simpa using h
  have e0:prS (zfu g w C x a s base)=prS (((zfu g w C x a s base).1,true):Sst σ):=by unfold prS;rw [h']
  rw [e0];unfold walkT;refine zwo (F:=C.F) (pr:=prS) g.lex _ fun y e he=>?_
  unfold entS;by_cases hy:y.2=false
  ·rw [if_pos hy]
   exact (zwm (z:=prS y) hy _).symm
  rw [if_neg hy];by_cases hz:zaw g.net.steps s e.cls=0
  ·rw [if_pos hz,if_neg (fun h=>h hz)];rfl
  rw [if_neg hz,if_pos hz];have hy':y.2=true:=by simpa using hy
  have e1:prS y=prS ((y.1,true):Sst σ):=by unfold prS;rw [hy']
  rw [e1];unfold stepS;refine zwo (F:=C.F) (pr:=prS) _ _ fun z alt ha=>?_
  unfold altS;by_cases hzz:z.2=false
  ·rw [if_pos hzz]
   exact (zwm (z:=prS z) hzz _).symm
  rw [if_neg hzz];split
  ·rfl
  have hz':z.2=true:=by simpa using hzz
  have e2:prS z=(z.1.1,true):=by unfold prS;rw [hz']
  rw [e2,z5v f];unfold ybz;have:(a++[(⟨e.id,(alt:Int),0⟩:Prt)])≠[]:=by simp
  simp only [this,ne_eq,not_false_eq_true,true_and]
end
def zb1 (g:Lang) (w:List Int):List (List Prt):=if w.length=0∨24<w.length then [] else furF g w 4 []
theorem z2j {g:Lang} (hg:LightF g) {w:List Int} (h0:¬ w.length=0) (hw:w.length≤24) {σ:Type} {P:Program} (C:Clo P g w σ) (x:σ) :
  prS (zav g w C 4 (x,[]) [] 1 [])=sF C.F (x,true) ((zb1 g w).map fun b=>(b,zbc g.lex b)):=by
 rw [z5v]
 have h:=z5r hg hw 4 [] rfl (fun p hp=>by cases hp)
 have e1:runS g.net.steps (zas g.lex [])=1:=rfl
 have e2:zbc g.lex []=[]:=rfl
 rw [e1,e2] at h
 unfold zb1
 rw [if_neg (by omega),← h]
 unfold ybz
 rw [if_neg (fun h=>h.1 rfl),List.nil_append]
end Go.V
namespace Go.V
open Go Go.Proofs
theorem zu4 {w:World} {E:Nat→Prop} {β:Nat→Value} {j:Nat} (hj:β j = .slice none 0 0) : ∀ {l:List Sym} {i:Nat} {vs:List Value},l[i]?=some .nils→Sms w E β l vs→Sms w E β (l.set i (.ar j)) vs
 | [],i,vs,hi,_=>by simp at hi
 | s::r,0,vs,hi,h=>by
  simp at hi;subst hi
  simp only [Sms,List.set_cons_zero] at h ⊢;obtain ⟨v,vs',rfl,h1,h2⟩:=h;refine ⟨v,vs',rfl,?_,h2⟩
  simp only [Sm] at h1 ⊢;rw [h1,hj]
 | s::r,i+1,vs,hi,h=>by
  simp only [Sms,List.set_cons_succ] at h ⊢;obtain ⟨v,vs',rfl,h1,h2⟩:=h;exact ⟨v,vs',rfl,h1,zu4 hj (by simpa using hi) h2⟩
theorem yb0 {m:Nat} {s:Sym} (hs:Sym.lo m s) : ∀ {l:List Sym} {i:Nat},Sym.los m l→Sym.los m (l.set i s)
 | [],i,h=>by simp
 | x::r,0,h=>by simp only [List.set_cons_zero,Sym.los] at h ⊢;exact ⟨hs,h.2⟩
 | x::r,i+1,h=>by simp only [List.set_cons_succ,Sym.los] at h ⊢;exact ⟨h.1,yb0 hs h.2⟩
theorem zwp {P:Program} {st:St} {Q:DE→St→Prop} {c:Code} (id i e sz:Nat) {T:Nat} {l:List Sym} (hl:st.look id=some (.box T l)) (hi:l[i]?=some .nils)
  (h:Triple P c Q ((st.new (.arr e sz [])).set id (.box T (l.set i (.ar st.next))))):Triple P c Q st:=by
 intro X w0 β a w hm
 have hm':=hm.zz0 e sz
 have hlt:=(hm.obj hl).1
 have ho':(st.new (.arr e sz [])).look id=some (.box T l):=by
  show zae ((st.next,_)::st.own) id=_
  simp only [zae];rw [if_neg (by omega)]
  exact hl
 obtain ⟨_,hlo,b,vs,h1,h2,h3,h4,h5⟩:=hm'.obj ho'
 refine h X w0 _ a w (hm'.update ho' (b:=b) (w':=w) (by simp only at h1;rw [h1];rfl) h2 (fun _ _=>rfl) rfl rfl rfl rfl (Drw.refl _) ?_ ⟨b,vs,h1,h2,h3,zu4 (by simp) hi h4,h5⟩)
 exact yb0 (by simp [Sym.lo,St.new]) hlo
theorem zcq.args {P:Program} {f:Nat} {args args':List Sym} {own:List (Nat×Obj')} {n:Nat} {s:Sym} {nx:Nat} {own':List (Nat×Obj')} {mv:List Nat}
  (ha : ∀ (w:World) (E:Nat→Prop) (β:Nat→Value) (vs:List Value),Sms w E β args' vs→Sms w E β args vs) (h:zcq P f args own n s nx own' mv):zcq P f args' own n s nx own' mv:=
 ⟨h.1,fun X w0 β w vs hβ hm hs=>h.2 X w0 β w vs hβ hm (ha _ _ _ _ hs)⟩
theorem zwq {w:World} {E:Nat→Prop} {β:Nat→Value} {v:Value} (h:Sm w E β .nils v):Sm w E β (.d (.sl [])) v:=by
 simp only [Sm] at h ⊢
 rw [h]
 simp only [R];exact ⟨none,0,rfl,by simp,Nat.zero_le _,fun _=>rfl,fun h=>absurd rfl h⟩
theorem walk_nil {P:Program} {f:Nat} {a s:Sym} {own:List (Nat×Obj')} {n:Nat} {r:Sym} {nx:Nat} {own':List (Nat×Obj')} {mv:List Nat}
  (h:zcq P f [a,.d (zab []),s,.d (ints [])] own n r nx own' mv):zcq P f [a,.nils,s,.nils] own n r nx own' mv:=by
 refine h.args fun w E β vs hs=>?_
 simp only [Sms] at hs ⊢
 obtain ⟨v1,_,rfl,h1,v2,_,rfl,h2,v3,_,rfl,h3,v4,_,rfl,h4,rfl⟩:=hs
 exact ⟨v1,_,rfl,h1,v2,_,rfl,zwq h2,v3,_,rfl,h3,v4,_,rfl,zwq h4,rfl⟩
end Go.V
namespace Go.V
open Go Go.Proofs
end Go.V
namespace Go.V
open Go Go.Proofs
def posL {α:Type} (lt:α→Bool) (l:List α):Nat→Nat
 | 0=>0
 | i+1=>match l[i]? with
  | some y=>if lt y=true then posL lt l i else i+1
  | none=>i+1
theorem z2k {α:Type} (lt:α→Bool) (l:List α) : ∀ i,posL lt l i≤i
 | 0=>Nat.le_refl _
 | i+1=>by
  unfold posL;split
  ·split
   ·exact Nat.le_succ_of_le (z2k lt l i)
   ·exact Nat.le_refl _
  ·exact Nat.le_refl _
def insL {α:Type} (lt:α→Bool) (x:α) (l:List α):List α:=l.take (posL lt l l.length)++x::l.drop (posL lt l l.length)
def shM (R:List (List D)) (nr:List D) (p L:Nat):List (List D):=
 (R++[nr]).take (p+1)++(((((R++[nr]).drop p).take (L+1-p)).take (L-p))++(R++[nr]).drop (p+1+min (L-p) (L+1-p)))
theorem ykl (R:List (List D)) (nr:List D) {p L:Nat} (hL:R.length=L) (hp:p<L):shM R nr p L=(R++[nr]).take (p+1)++R.drop p:=by
 subst hL
 unfold shM
 have h1:(R++[nr]).drop (p+1+min (R.length-p) (R.length+1-p))=[]:=by
  refine List.drop_eq_nil_of_le ?_
  simp;omega
 have h2:((R++[nr]).drop p).take (R.length-p)=R.drop p:=by
  rw [List.drop_append_of_le_length (by omega),List.take_append_of_le_length (by simp),List.take_of_length_le (by simp)]
 rw [h1,List.append_nil,List.take_take,show min (R.length-p) (R.length+1-p)=R.length-p by omega,h2]
theorem zyw {R:List (List D)} (hR : ∀ r∈R,r.length=1) {nr:List D} (hn:nr.length=1) (x:D) {p L:Nat} (hL:R.length=L) (hp:p<L) :
  (∀ r∈((R++[nr]).drop p).take (L+1-p),r.length=1)∧1≤((shM R nr p L)[p]?.getD []).length ∧
   (shM R nr p L).set p (x::((shM R nr p L)[p]?.getD []).tail)=R.take p++[x]::R.drop p:=by
 have hall : ∀ r∈R++[nr],r.length=1:=by
  intro r h;rcases List.mem_append.1 h with h | h
  ·exact hR r h
  ·rw [List.mem_singleton.1 h];exact hn
 refine ⟨fun r h=>hall r (List.mem_of_mem_drop (List.mem_of_mem_take h)),?_⟩
 rw [ykl R nr hL hp]
 have h1:((R++[nr]).take (p+1)).length=p+1:=by rw [List.length_take];simp;omega
 have hlt:p<((R++[nr]).take (p+1)++R.drop p).length:=by rw [List.length_append];omega
 have hg:((R++[nr]).take (p+1)++R.drop p)[p]?.getD []=R[p]:=by
  rw [List.getElem?_append_left (by omega),List.getElem?_take,if_pos (by omega),List.getElem?_append_left (by omega),List.getElem?_eq_getElem (by omega)];rfl
 rw [hg]
 have hr1:=hR R[p] (List.getElem_mem (by omega))
 refine ⟨by omega,?_⟩
 have ht:(R[p]).tail=[]:=by
  cases h:R[p] with
  | nil=>rfl
  | cons a l=>rw [h] at hr1;simp at hr1;exact hr1
 rw [ht,List.set_append_left _ _ (by omega),List.take_append_of_le_length (by omega),List.take_succ_eq_append_getElem (by omega),List.set_append_right _ _ (by simp;omega)]
 simp
 rw [show p-min p R.length=0 by omega];rfl
noncomputable instance decBytes (k:ByteArray) (l:List ByteArray):Decidable (k∈l):=Classical.propDecidable _
abbrev BasS:=List ByteArray×List (List Int)
noncomputable def basF (x:BasS) (_:List Prt) (base:List Int):BasS×Bool:=(if keyS base∈x.1 then x else (x.1++[keyS base],insL (fun o=>yfd base o) base x.2),true)
theorem zgr {α:Type} {lt:α→Bool} {x y:α} {l:List α}:y∈insL lt x l↔y=x∨y∈l:=by
 unfold insL
 rw [List.mem_append,List.mem_cons]
 constructor
 ·rintro (h | h | h)
  ·exact .inr (List.mem_of_mem_take h)
  ·exact .inl h
  ·exact .inr (List.mem_of_mem_drop h)
 ·rintro (h | h)
  ·exact .inr (.inl h)
  ·rw [← List.take_append_drop (posL lt l l.length) l] at h
   rcases List.mem_append.1 h with h | h
   ·exact .inl h
   ·exact .inr (.inr h)
theorem zmp {α:Type} {lt:α→Bool} {x:α} {l:List α}:(insL lt x l).length=l.length+1:=by
 have:=z2k lt l l.length
 unfold insL
 rw [List.length_append,List.length_take,List.length_cons,List.length_drop]
 omega
end Go.V
namespace Go.V
open Go Go.Proofs
noncomputable def z5w (g:Lang) (w:List Int):List (List Int):=(sF basF (([],[]),true) ((zb1 g w).map fun b=>(b,zbc g.lex b))).1.2
end Go.V

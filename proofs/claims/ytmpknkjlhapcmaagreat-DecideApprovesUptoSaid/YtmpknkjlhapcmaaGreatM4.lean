/- Contracts and plain laws of this seat: part M4. It needs no conditions. -/
import Derived.Test.YtmpknkjlhapcmaaGreatM3
set_option linter.unusedVariables false
set_option linter.unusedSimpArgs false
set_option linter.unusedSectionVars false
set_option maxRecDepth 100000
namespace Go.V
open Go Go.Proofs
def zgj (g:Lang) (ps:List Prt):List Int×Int:=
 if zgv g ps≠0 then ([],zgv g ps) else if (zgu g.inv g.rules (zbt g.lex ps)).length=0 then ([],23) else (zgu g.inv g.rules (zbt g.lex ps),0)
set_option maxHeartbeats 4000000 in
theorem yec (g:Lang) (hg:LangOk g) (ps:List Prt) (hp:ps.length<2^20):zam Tryz.prog 77 [g.d,anaD ps] (.tup [ints (zgj g ps).1,int (zgj g ps).2]):=by
 have hR:=z6b g hg ps hp
 have hB:=z9m g hg.lex ps hp
 have hbl:zgv g ps=0→(zbt g.lex ps).length<2^40:=by
  intro h;unfold zgv at h;repeat' split at h
  all_goals first | omega | skip
 have hL:=fun h=>z9p g.inv (by have:=hg.inv;omega) g.rules hg.rules.1 hg.rules.2 (zbt g.lex ps) (hbl h)
 have hll:=zlt g.inv g.rules (zbt g.lex ps)
 unfold zgj
 generalize zgv g ps=R at hR hL hbl ⊢
 refine zaa mixed Tryz.func77 rfl call_77 ?_
 simp +decide [Tryz.f77,int,Lang.d,anaD,zal]
 refine zaj.pure (by rfl) hR (by simp [Lang.d,anaD,zal,int]) ?_
 by_cases h0:R=0
 ·subst h0
  have hL:=hL rfl;have hbl:=hbl rfl;generalize zgu g.inv g.rules (zbt g.lex ps)=v at hL hll ⊢;simp +decide [int,Lang.d,zal];refine zae (by rfl) (by rfl) hB (by simp [Lang.d,anaD,zal]) ?_
  simp +decide [int,Lang.d,zal,ints];refine zae (by rfl) (by rfl) hL (by simp [Lang.d,anaD,zal,ints]) ?_
  by_cases hv:v.length=0
  ·simp +decide [int,Lang.d,zal,ints,hv,List.length_eq_zero_iff.mp hv]
  ·have hv':v≠[]:=fun h=>hv (by rw [h];rfl)
   simp +decide [int,Lang.d,zal,ints,hv,hv']
 ·simp +decide [int,ints,h0]
set_option maxHeartbeats 4000000 in
theorem z0m (g:Lang) (hg:LangOk g) (w:List Int) (hw:w.length<2^40) (ps:List Prt) (hp:ps.length<2^20):zam Tryz.prog 53 [g.d,ints w,anaD ps] (.bool (decide ((zgj g ps).2=0∧(zgj g ps).1=w))):=by
 have hF:=yec g hg ps hp
 have hE:=z3e (zgj g ps).1 w (by omega)
 generalize zgj g ps=q at hF hE ⊢
 obtain ⟨v,e⟩:=q
 refine zaa mixed Tryz.func53 rfl call_53 ?_
 simp +decide [Tryz.f53,int,Lang.d,anaD,zal]
 refine zaj.pure (by rfl) hF (by simp [Lang.d,anaD,zal,int]) ?_
 by_cases h0:e=0
 ·subst h0
  simp +decide [int,ints];refine zaj.pure (by rfl) hE (by simp [ints]) ?_
  simp +decide [int,ints]
 ·simp +decide [int,ints,h0]
end Go.V
namespace Go.V
open Go Go.Proofs
def wayG (l:List Ent):Nat→Int→List Int
 | 0,_=>[]
 | f+1,id=>if (getE l id).2=true then id::(if (getE l id).1.main=0 then [] else wayG l f (getE l id).1.main) else []
theorem yg2 {l:List Ent} {id:Int} (h:(getE l id).2=true):(getE l id).1.id=id:=by
 unfold getE at h ⊢
 cases hf:l.find? (·.id=id) with
 | none=>rw [hf] at h;cases h
 | some e=>have:=List.find?_some hf;simpa using this
set_option maxHeartbeats 4000000 in
theorem yed (l:List Ent) (id:Int) (hl:l.length<2^40):zam Tryz.prog 125 [lexD l,int id] (ints (wayG l (l.length+1) id)):=by
 refine zaa mixed Tryz.func125 rfl call_125 ?_
 simp +decide [Tryz.f125,int,ints]
 refine zaj.pure (by rfl) (zpo l id (by omega)) (by simp [lexD,int]) ?_
 simp +decide [int,ints]
 refine zaf mixed (fun x:List Int×Int=>{n:=42,next:=2,slots:=[(0,.d (lexD l)),(5,.ar 1),(6,.d (int (zds l x.2)))],own:=[(1,.arr 3 1 (x.1.map fun n=>[int n]))],moved:=[1]})
  (fun x=>x.1++wayG l (l.length+1-x.1.length) x.2=wayG l (l.length+1) id∧x.1.length≤l.length+1) (fun x=>l.length+1-x.1.length) ([],id) (by simp) (by simp +decide [int]) ?_
 rintro ⟨out,x⟩ ⟨hw,hn⟩
 simp only at hw hn
 have hX:zds l x<0→(getE l x).2=false:=by
  intro h;rcases zdd l x with ⟨_,h2⟩ | ⟨j,hj,h1,_⟩
  ·rw [h2]
  ·omega
 by_cases hneg:zds l x<0
 ·have h0:¬ 0≤zds l x:=by omega
  have he:wayG l (l.length+1) id=out:=by
   rw [← hw];have:wayG l (l.length+1-out.length) x=[]:=by
    cases l.length+1-out.length with
    | zero=>rfl
    | succ f=>unfold wayG;rw [if_neg (by rw [hX hneg];decide)]
   rw [this,List.append_nil]
  rw [he];simp +decide [int,ints,h0]
 have h0:0≤zds l x:=by omega
 by_cases hfull:out.length≤l.length
 case neg=>
  have:out.length=l.length+1:=by omega
  have he:wayG l (l.length+1) id=out:=by
   rw [← hw,this,Nat.sub_self];exact List.append_nil _
  rw [he];have hf':¬(out.length:Int)≤l.length:=by omega
  simp +decide [int,ints,h0,lexD,hf']
 rcases zdd l x with ⟨h1,_⟩ | ⟨j,hj,h1,h2⟩
 ·exact absurd h1 (by omega)
 have hid:l[j].id=x:=by have:=yg2 (l:=l) (id:=x) (by rw [h2]);rw [h2] at this;exact this
 obtain ⟨e,ee⟩ : ∃ e,l[j]=e:=⟨_,rfl⟩
 have e1:l[j]?=some e:=by rw [List.getElem?_eq_getElem hj,ee]
 rw [ee] at hid h2
 have hf':(out.length:Int)≤l.length:=by omega
 have hj':(j:Int)<l.length:=by omega
 have hs:wayG l (l.length+1-out.length) x=x::(if e.main=0 then [] else wayG l (l.length+1-(out.length+1)) e.main):=by
  have:l.length+1-out.length=(l.length+1-(out.length+1))+1:=by omega
  rw [this];conv=>lhs;unfold wayG
  rw [if_pos (by rw [h2]),h2]
 rw [hs] at hw
 have hf2:=zpo l e.main (by omega)
 by_cases hm:e.main=0
 ·rw [if_pos hm] at hw
  rw [← hw];simp +decide [int,ints,h0,lexD,hf',h1,hj,hj',e1,ee,hid,hm,I64,Ent.row];exact ⟨by omega,by unfold maxLen;omega⟩
 ·rw [if_neg hm] at hw
  simp +decide [int,ints,h0,lexD,hf',h1,hj,hj',e1,ee,hid,hm,I64,Ent.row];refine ⟨by omega,by unfold maxLen;omega,zaj.pure (by rfl) hf2 (by simp [lexD,int,Ent.row,ints]) ?_⟩
  simp +decide [int,ints,lexD];exact ⟨out++[x],e.main,⟨by rw [List.length_append,List.append_assoc];exact hw,by simp;omega⟩,by simp;omega,rfl,by simp⟩
def senW (l:List Ent):List Int→List Sens
 | []=>[]
 | x::ws=>if (getE l x).1.senses≠[] then (getE l x).1.senses else senW l ws
theorem zuz (l:List Ent) : ∀ f id,(wayR l f id).getD []=senW l (wayG l f id)
 | 0,_=>rfl
 | f+1,id=>by
  have ih:=zuz l f (getE l id).1.main;unfold wayR wayG;by_cases h:(getE l id).2=true
  ·rw [if_pos h,if_pos h]
   by_cases hs:(getE l id).1.senses≠[]
   ·rw [if_pos hs];unfold senW;rw [if_pos hs];rfl
   ·rw [if_neg hs];unfold senW;rw [if_neg hs]
    by_cases hm:(getE l id).1.main=0
    ·rw [if_pos hm,if_pos hm];rfl
    ·rw [if_neg hm,if_neg hm];exact ih
  ·rw [if_neg h,if_neg h];rfl
end Go.V
namespace Go.V
open Go Go.Proofs
theorem zw7 {P:Program} {all:List Oper} {n0:Nat} {vl:List Nat} {K:St→List FK→List (Nat×Obj')→Prop} {o:Oper} {r:List Oper} {st:St} {ks:List FK} {hs:List (Nat×Obj')} :
  fseg P all n0 vl K (o::r) st ks hs=(xdst o.dst st.n=true∧fop P all n0 vl o st hs (fun k hs'=>fseg P all n0 vl K r (st.put o.dst k.sym) (k::ks) hs')):=rfl
end Go.V
namespace Go.V
open Go Go.Proofs
end Go.V
namespace Go.V
open Go Go.Proofs
def bls (S m:Nat):List Bool:=(List.range S).map fun q=>m.testBit q
@[simp] theorem yjt (S m:Nat):(bls S m).length=S:=by simp [bls]
theorem zn7 (m q j:Nat):(m ||| (1 <<< q)).testBit j=(m.testBit j || decide (q=j)):=by
 rw [Nat.testBit_or,Nat.one_shiftLeft,Nat.testBit_two_pow]
structure NetL (n:Nett):Prop where
 lo:1≤n.states
 hi:n.states≤3
 steps : ∀ s∈n.steps,(0≤s.src∧s.src<n.states)∧(0≤s.dst∧s.dst<n.states)∧1≤s.cls
 final : ∀ q∈n.final,0≤q∧q<n.states
 few:n.steps.length<2^40
 few2:n.final.length<2^40
theorem NetL.ok {n:Nett} (h:NetL n):ygz n:=by
 refine ⟨fun s hs=>?_,fun q hq=>?_,h.few,h.few2⟩
 ·have:=h.steps s hs;have:=h.hi;omega
 ·have:=h.final q hq;have:=h.hi;omega
def zlv (m:Nat) (c:Int) (out:Nat) (s:Stp):Nat:=if hasS m s.src=true∧(c=0∨s.cls=c) then zhl out s.dst else out
def zir (l:List Stp) (m:Nat) (c:Int):Nat:=l.foldl (zlv m c) 0
def z0n (S a b:Nat):Bool:=(List.range S).any fun q=>a.testBit q&&b.testBit q
theorem z9q {S m:Nat} {q:Int} (hm:m<2^S) (h0:0≤q) (h1:q<S):zhl m q<2^S:=by
 unfold zhl
 refine Nat.or_lt_two_pow hm ?_
 rw [Nat.one_shiftLeft]
 exact Nat.pow_lt_pow_right (by omega) (by omega)
theorem z9r {n:Nett} (hn:NetL n) (m:Nat) {c:Int} (hc:1≤c):zir n.steps m c=za2 n.steps m c:=by
 unfold zir za2
 congr 1
 funext out s
 unfold zlv zbm
 have:¬ c=0:=by omega
 simp [this]
theorem z3r {m:Nat} {c:Int} {S:Nat} : ∀ (l:List Stp) (out:Nat),(∀ s∈l,0≤s.dst∧s.dst<S)→out<2^S→l.foldl (zbm m c) out<2^S
 | [],out,_,h=>h
 | s::l,out,hl,h=>by
  rw [List.foldl_cons];refine z3r l _ (fun x hx=>hl x (List.mem_cons_of_mem _ hx)) ?_
  have:=hl s (List.mem_cons_self ..)
  unfold zbm;split
  ·exact z9q h this.1 this.2
  ·exact h
theorem zs7 {n:Nett} (hn:NetL n) (m:Nat) (c:Int):za2 n.steps m c<2^n.states.toNat:=
 z3r _ _ (fun s hs=>by have:=(hn.steps s hs).2.1;have:=hn.lo;omega) (Nat.two_pow_pos _)
end Go.V
namespace Go.V
open Go Go.Proofs
structure LangL (g:Lang):Prop extends LangOk g where
 light:NetL g.net
end Go.V
namespace Go.V
open Go Go.Proofs
section
variable {P:Program}
theorem zlw {f:Nat} {fn:Func} {c:Code} (hf:P.funcs[f]?=some fn) (hb:fn.body=some c) (hcall:callable P f=true) {args:List D} {r:D}
  (h:Triple P c (zso (zv4 P fn.results.toList r)) (zgd fn.ntmps args)):zam P f args r:=by
 refine ⟨hcall,fun w E vs hE hr=>?_⟩
 refine calls_of_wp hf hb ?_
 refine wp_mono (h E (.of w) _ _ w (Mods.init hE hr)) ?_
 rintro e a' w' ⟨de,st',β',he,hq,hm'⟩
 cases e <;> cases de <;> simp only [exM] at he
 ·obtain ⟨v,h1,h2⟩:=zec hm' hq
  exact ⟨hm'.defers,v,h1,v,rfl,hm'.below.below,h2⟩
 ·exact hq.elim
 ·obtain ⟨v,h1,h2⟩:=zec hm' hq
  exact ⟨hm'.defers,v,h1,v,rfl,hm'.below.below,h2⟩
end
end Go.V
namespace Go.V
open Go Go.Proofs
structure RuleL (r:Rule):Prop extends RuleOk r where
 once:r.src.Nodup
def yio (w:List Int):Prop:=∀ x∈w,x≠0
structure LangR (g:Lang):Prop extends LangL g where
 rulesL : ∀ r∈g.rules,RuleL r
 nz : ∀ e∈g.lex,∀ w∈e.forms,yio w
theorem zn8 (a b:List Int) (ha:a.length<2^62) (hb:b.length<2^62):zam Tryz.prog 81 [ints a,ints b] (.bool (decide (a=b))):=by
 refine zaa mixed Tryz.func81 rfl call_81 ?_
 by_cases hl:a.length=b.length
 case neg=>
  have:¬ a=b:=fun h=>hl (by rw [h])
  have hl':¬(a.length:Int)=b.length:=by omega
  simp +decide [Tryz.f81,ints,int,hl,hl',this]
 have hl':(a.length:Int)=b.length:=by omega
 simp +decide [Tryz.f81,ints,int,hl,hl']
 refine zaf mixed (fun k:Nat=>{n:=26,next:=0,slots:=[(0,.d (ints a)),(1,.d (ints b)),(12,.d (int b.length)),(13,.d (int k))],own:=[],moved:=[]})
  (fun k=>k≤a.length∧a.take k=b.take k) (fun k=>a.length-k) 0 (by simp) (by simp +decide [int,ints,hl']) ?_
 intro k ⟨hk,hp⟩
 by_cases hlt:k<a.length
 case neg=>
  have:k=a.length:=by omega
  subst this;rw [List.take_length,hl,List.take_length] at hp;subst hp;simp +decide [int,ints]
 have hlt':(k:Int)<a.length:=by omega
 have hlb:k<b.length:=by omega
 have hlb':(k:Int)<b.length:=by omega
 obtain ⟨x,ex⟩ : ∃ x,a[k]=x:=⟨_,rfl⟩
 obtain ⟨y,ey⟩ : ∃ y,b[k]=y:=⟨_,rfl⟩
 have ex1:a[k]?=some x:=by rw [List.getElem?_eq_getElem hlt,ex]
 have ey1:b[k]?=some y:=by rw [List.getElem?_eq_getElem hlb,ey]
 by_cases hxy:x=y
 ·subst hxy
  simp +decide [int,ints,hlt,hlt',hlb,hlb',ex,ey,ex1,ey1];exact ⟨⟨by omega,by omega⟩,k+1,⟨hlt,by rw [zao hlt,zao hlb,hp,ex,ey]⟩,by omega,by omega⟩
 ·have:¬ a=b:=by
   intro h;subst h;exact hxy (by rw [← ex,← ey])
  simp +decide [int,ints,hlt,hlt',hlb,hlb',ex,ey,ex1,ey1,hxy,this]
def licE (g:Lang) (w:List Int) (ps:List Prt):Bool:=decide ((zgj g ps).2=0∧(zgj g ps).1=w)
end Go.V

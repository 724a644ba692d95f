/- Contracts and plain laws of this seat: part M7. It needs no conditions. -/
import Derived.Test.YtgglheknmlfghaaGreatM3
import Derived.Test.YtgglheknmlfghaaGreatM5
import Derived.Test.YtgglheknmlfghaaGreatM1
set_option linter.unusedVariables false
set_option linter.unusedSimpArgs false
set_option linter.unusedSectionVars false
set_option maxRecDepth 100000
namespace Go.V
open Go Go.Proofs
def zd8 (l:List Stp):Nat→Nat→Nat
 | 0,m=>m
 | k+1,m=>zh4 l (zd8 l k m) 0 ||| zd8 l k m
def mixB (S a b k:Nat):List Bool:=(List.range S).map fun q=>if q<k then (a.testBit q || b.testBit q) else a.testBit q
@[simp] theorem ygf (S a b k:Nat):(mixB S a b k).length=S:=by simp [mixB]
def endB (n:Nett) (q:Nat):Bool:=zya n.states.toNat (zd8 n.steps n.states.toNat (zg5 0 (q:Int))) (zbz n.final)
def z6k (n:Nett):Nat:=(List.range n.states.toNat).foldl (fun m q=>if endB n q=true then m ||| (1 <<< q) else m) 0
theorem z0p (f:Nat→Bool) : ∀ (l:List Nat) (m j:Nat),(l.foldl (fun m q=>if f q=true then m ||| (1 <<< q) else m) m).testBit j=(m.testBit j || decide (j∈l∧f j=true))
 | [],m,j=>by simp
 | q::l,m,j=>by
  rw [List.foldl_cons,z0p f l];by_cases hq:f q=true
  ·rw [if_pos hq,znc]
   by_cases e:q=j
   ·subst e;simp [hq]
   ·have e':¬ j=q:=fun h=>e h.symm
    simp [e,e']
  ·rw [if_neg hq]
   by_cases e:j=q
   ·subst e;simp [hq]
   ·simp [e]
def zyl (n:Nett) (cs:List Int) (k:Nat):List Int:=((List.range k).map fun (i:Nat)=>(i:Int)+1).filter fun c=>zya n.states.toNat (zax n.steps (runS n.steps cs) c) (z6k n)
end Go.V
namespace Go.V
open Go Go.Proofs
theorem z6l (m:Nat) (q:Int) (j:Nat):(zg5 m q).testBit j=(m.testBit j || decide (q.toNat=j)):=by unfold zg5;exact znc m q.toNat j
theorem zr2 (m:Nat) (c:Int) (j:Nat) : ∀ (l:List Stp) (out:Nat),(l.foldl (zk3 m c) out).testBit j=(out.testBit j || l.any fun x=>m.testBit x.src.toNat&&(decide (c=0) || decide (x.cls=c))&&decide (x.dst.toNat=j))
 | [],out=>by simp
 | x::l,out=>by
  rw [List.foldl_cons,zr2 m c j l,List.any_cons];unfold zk3 hasS;by_cases h:m.testBit x.src.toNat=true∧(c=0∨x.cls=c)
  ·rw [if_pos h,z6l,h.1]
   have:(decide (c=0) || decide (x.cls=c))=true:=by rcases h.2 with e | e <;> simp [e]
   rw [this,Bool.and_true,Bool.true_and,Bool.or_assoc]
  ·rw [if_neg h]
   have:(m.testBit x.src.toNat&&(decide (c=0) || decide (x.cls=c)))=false:=by
    cases hb:m.testBit x.src.toNat with
    | false=>rfl
    | true=>
     rw [Bool.true_and];have h2:¬(c=0∨x.cls=c):=fun e=>h ⟨hb,e⟩
     simp only [Bool.or_eq_false_iff,decide_eq_false_iff_not];exact ⟨fun e=>h2 (.inl e),fun e=>h2 (.inr e)⟩
   rw [this,Bool.false_and,Bool.false_or]
theorem zd9 (l:List Stp) (m:Nat) (c:Int) (j:Nat):(zh4 l m c).testBit j=l.any fun x=>m.testBit x.src.toNat&&(decide (c=0) || decide (x.cls=c))&&decide (x.dst.toNat=j):=by
 unfold zh4;rw [zr2];simp
def z3f (s0 s1 s2 m:Nat):Nat:=(if m.testBit 0=true then s0 else 0) ||| (if m.testBit 1=true then s1 else 0) ||| (if m.testBit 2=true then s2 else 0)
def zgk (s0 s1 s2:Nat):Nat→Nat→Nat
 | 0,m=>m
 | k+1,m=>z3f s0 s1 s2 (zgk s0 s1 s2 k m) ||| zgk s0 s1 s2 k m
theorem ydx : ∀ s0 m:Fin 2,z3f s0.val 0 0 (zgk s0.val 0 0 1 m.val) ||| zgk s0.val 0 0 1 m.val=zgk s0.val 0 0 1 m.val:=by decide +kernel
theorem closed2 : ∀ s0 s1 m:Fin 4,z3f s0.val s1.val 0 (zgk s0.val s1.val 0 2 m.val) ||| zgk s0.val s1.val 0 2 m.val=zgk s0.val s1.val 0 2 m.val:=by decide +kernel
theorem ydy : ∀ s0 s1 s2 m:Fin 8,z3f s0.val s1.val s2.val (zgk s0.val s1.val s2.val 3 m.val) ||| zgk s0.val s1.val s2.val 3 m.val=zgk s0.val s1.val s2.val 3 m.val:=by decide +kernel
theorem zmg (q j:Nat):(1 <<< q).testBit j=decide (q=j):=by rw [Nat.one_shiftLeft,Nat.testBit_two_pow]
def zjs (l:List Stp) (q:Nat):Nat:=zh4 l (1 <<< q) 0
theorem zo6 (l:List Stp) (hl : ∀ x∈l,0≤x.src∧x.src<3) (m:Nat):zh4 l m 0=z3f (zjs l 0) (zjs l 1) (zjs l 2) m:=by
 apply Nat.eq_of_testBit_eq
 intro j
 have hb : ∀ q,(zjs l q).testBit j=l.any fun x=>decide (q=x.src.toNat)&&decide (x.dst.toNat=j):=by
  intro q;unfold zjs;rw [zd9];congr 1
  funext x
  rw [zmg];simp
 have hi : ∀ q,(if m.testBit q=true then zjs l q else 0).testBit j=(m.testBit q&&l.any fun x=>decide (q=x.src.toNat)&&decide (x.dst.toNat=j)):=by
  intro q;cases h:m.testBit q with
  | true=>rw [if_pos rfl,hb];rfl
  | false=>rw [if_neg (by decide)];simp
 unfold z3f
 rw [Nat.testBit_or,Nat.testBit_or,hi,hi,hi,zd9,Bool.eq_iff_iff]
 simp only [Bool.or_eq_true,Bool.and_eq_true,List.any_eq_true,decide_eq_true_eq]
 constructor
 ·rintro ⟨x,hx,⟨h1,_⟩,h3⟩
  have h4:=hl x hx;have:x.src.toNat=0∨x.src.toNat=1∨x.src.toNat=2:=by omega
  rcases this with e | e | e
  ·rw [e] at h1;exact .inl (.inl ⟨h1,x,hx,e.symm,h3⟩)
  ·rw [e] at h1;exact .inl (.inr ⟨h1,x,hx,e.symm,h3⟩)
  ·rw [e] at h1;exact .inr ⟨h1,x,hx,e.symm,h3⟩
 ·rintro ((⟨h,x,hx,e,h3⟩ | ⟨h,x,hx,e,h3⟩) | ⟨h,x,hx,e,h3⟩) <;> exact ⟨x,hx,⟨by rw [← e];exact h,by simp⟩,h3⟩
theorem zvl (l:List Stp) (hl : ∀ x∈l,0≤x.src∧x.src<3) (m:Nat) : ∀ k,zd8 l k m=zgk (zjs l 0) (zjs l 1) (zjs l 2) k m
 | 0=>rfl
 | k+1=>by unfold zd8 zgk;rw [zvl l hl m k,zo6 l hl]
theorem z6m {m S:Nat} (h : ∀ j,m.testBit j=true→j<S):m<2^S:=by
 apply Nat.lt_pow_two_of_testBit
 intro j hj
 cases hb:m.testBit j with
 | false=>rfl
 | true=>exact absurd (h j hb) (by omega)
theorem zym {n:Nett} (hn:NetL n) (q:Nat):zjs n.steps q<2^n.states.toNat:=by
 apply z6m
 intro j hj
 unfold zjs at hj
 rw [zd9,List.any_eq_true] at hj
 obtain ⟨x,hx,h⟩:=hj
 simp only [Bool.and_eq_true,decide_eq_true_eq] at h
 have:=(hn.steps x hx).2.1
 omega
theorem zvm {n:Nett} (hn:NetL n) {q:Nat} (hq:n.states.toNat≤q):zjs n.steps q=0:=by
 apply Nat.eq_of_testBit_eq
 intro j
 rw [Nat.zero_testBit]
 unfold zjs
 rw [zd9,List.any_eq_false]
 intro x hx h
 rw [zmg] at h
 simp only [Bool.and_eq_true,decide_eq_true_eq] at h
 have:=(hn.steps x hx).1
 omega
theorem ztj {n:Nett} (hn:NetL n) {m:Nat} (hm:m<2^n.states.toNat):zh4 n.steps (zd8 n.steps n.states.toNat m) 0 ||| zd8 n.steps n.states.toNat m=zd8 n.steps n.states.toNat m:=by
 have hl : ∀ x∈n.steps,0≤x.src∧x.src<3:=fun x hx=>by have:=(hn.steps x hx).1;have:=hn.hi;omega
 rw [zo6 _ hl,zvl _ hl]
 have h0:=zym hn 0
 have h1:=zym hn 1
 have h2:=zym hn 2
 have hS:n.states.toNat=1∨n.states.toNat=2∨n.states.toNat=3:=by have:=hn.lo;have:=hn.hi;omega
 have z1:=fun h=>zvm hn (q:=1) h
 have z2:=fun h=>zvm hn (q:=2) h
 generalize zjs n.steps 0=s0 at *
 generalize zjs n.steps 1=s1 at *
 generalize zjs n.steps 2=s2 at *
 rcases hS with e | e | e
 ·rw [e] at h0 hm z1 z2 ⊢
  rw [z1 (by omega),z2 (by omega)]
  exact ydx ⟨s0,h0⟩ ⟨m,hm⟩
 ·rw [e] at h0 h1 hm z2 ⊢
  rw [z2 (by omega)]
  exact closed2 ⟨s0,h0⟩ ⟨s1,h1⟩ ⟨m,hm⟩
 ·rw [e] at h0 h1 h2 hm ⊢
  exact ydy ⟨s0,h0⟩ ⟨s1,h1⟩ ⟨s2,h2⟩ ⟨m,hm⟩
def Sub (a b:Nat):Prop:=∀ j,a.testBit j=true→b.testBit j=true
theorem z6n {l:List Stp} {a b:Nat} {c:Int} (h:Sub a b):Sub (zh4 l a c) (zh4 l b c):=by
 intro j hj
 rw [zd9,List.any_eq_true] at hj ⊢
 obtain ⟨x,hx,h1⟩:=hj
 simp only [Bool.and_eq_true] at h1 ⊢
 exact ⟨x,hx,⟨h _ h1.1.1,h1.1.2⟩,h1.2⟩
theorem zkb (l:List Stp) (m:Nat) : ∀ k,Sub m (zd8 l k m)
 | 0=>fun _ h=>h
 | k+1=>fun j h=>by unfold zd8;rw [Nat.testBit_or,zkb l m k j h,Bool.or_true]
theorem zo7 {l:List Stp} {m R:Nat} (h:Sub m R) (hc:zh4 l R 0 ||| R=R) : ∀ k,Sub (zd8 l k m) R
 | 0=>h
 | k+1=>fun j hj=>by
  unfold zd8 at hj;rw [Nat.testBit_or,Bool.or_eq_true] at hj;rcases hj with hj | hj
  ·have:=z6n (zo7 h hc k) j hj
   rw [← hc,Nat.testBit_or,this,Bool.true_or]
  ·exact zo7 h hc k j hj
theorem sub_one {m q:Nat} (h:m.testBit q=true):Sub (1 <<< q) m:=by
 intro j hj
 rw [zmg,decide_eq_true_eq] at hj
 rw [← hj];exact h
theorem zr3 (q:Nat):zg5 0 (q:Int)=1 <<< q:=by unfold zg5;simp
theorem yfh {q S:Nat} (h:q<S):1 <<< q<2^S:=z6m fun j hj=>by rw [zmg,decide_eq_true_eq] at hj;omega
theorem z6o {n:Nett} (hn:NetL n) {x:Stp} (hx:x∈n.steps) (h:endB n x.dst.toNat=true):endB n x.src.toNat=true:=by
 obtain ⟨⟨s1,s2⟩,⟨d1,d2⟩,_⟩:=hn.steps x hx
 unfold endB at h ⊢
 rw [zr3] at h ⊢
 unfold zya at h ⊢
 rw [List.any_eq_true] at h ⊢
 obtain ⟨j,hj,h1⟩:=h
 rw [Bool.and_eq_true] at h1
 refine ⟨j,hj,?_⟩
 rw [Bool.and_eq_true]
 refine ⟨?_,h1.2⟩
 have hcl:=ztj hn (yfh (S:=n.states.toNat) (q:=x.src.toNat) (by omega))
 have hself:=zkb n.steps (1 <<< x.src.toNat) n.states.toNat x.src.toNat (by rw [zmg];simp)
 generalize zd8 n.steps n.states.toNat (1 <<< x.src.toNat)=R at hcl hself ⊢
 refine zo7 (R:=R) (sub_one ?_) hcl n.states.toNat j h1.1
 rw [← hcl,Nat.testBit_or,zd9,Bool.or_eq_true]
 left
 rw [List.any_eq_true]
 exact ⟨x,hx,by simp [hself]⟩
theorem zvn {n:Nett} {q:Nat} (h:q<n.states.toNat):(z6k n).testBit q=endB n q:=by
 unfold z6k
 rw [z0p]
 simp [h]
def Dead (n:Nett) (s:Nat):Prop:=zya n.states.toNat s (z6k n)=false
theorem ztk {n:Nett} {s:Nat}:Dead n s↔∀ q,q<n.states.toNat→s.testBit q=true→endB n q=false:=by
 unfold Dead zya
 rw [List.any_eq_false]
 constructor
 ·intro h q hq hs
  have:=h q (List.mem_range.2 hq)
  rw [hs,Bool.true_and,zvn hq] at this;simpa using this
 ·intro h q hq
  have hq:=List.mem_range.1 hq;cases hs:s.testBit q with
  | false=>simp
  | true=>rw [zvn hq,h q hq hs];simp
theorem z3g {n:Nett} (hn:NetL n) {s:Nat} (hs:s<2^n.states.toNat) (h:Dead n s) {c:Int} (hc:1≤c):Dead n (zax n.steps s c):=by
 rw [ztk] at h ⊢
 intro q hq hb
 rw [← z5n hn s hc,zd9,List.any_eq_true] at hb
 obtain ⟨x,hx,h1⟩:=hb
 simp only [Bool.and_eq_true,decide_eq_true_eq] at h1
 cases he:endB n q with
 | false=>rfl
 | true=>
  rw [← h1.2] at he;have h2:=z6o hn hx he;have:=(hn.steps x hx).1
  rw [h x.src.toNat (by omega) h1.1.1] at h2
  cases h2
theorem zr4 {n:Nett} (hn:NetL n) {s:Nat} (hs:s<2^n.states.toNat) (h:Dead n s):s &&& zbz n.final=0:=by
 rw [ztk] at h
 apply Nat.eq_of_testBit_eq
 intro j
 rw [Nat.zero_testBit,Nat.testBit_and]
 cases hb:s.testBit j with
 | false=>rfl
 | true=>
  rw [Bool.true_and];cases hf:(zbz n.final).testBit j with
  | false=>rfl
  | true=>
   have hj:j<n.states.toNat:=by
    rcases Nat.lt_or_ge j n.states.toNat with h' | h'
    ·exact h'
    ·have h1:=Nat.testBit_lt_two_pow (i:=j) (Nat.lt_of_lt_of_le hs (Nat.pow_le_pow_right (by omega) h'))
     rw [h1] at hb;cases hb
   have h2:=h j hj hb;unfold endB zya at h2;rw [List.any_eq_false] at h2;have h3:=h2 j (List.mem_range.2 hj);rw [zr3,zkb _ _ _ j (by rw [zmg];simp),hf] at h3
   exact absurd rfl h3
end Go.V
namespace Go.V
open Go Go.Proofs
theorem lex_lt {l:List Ent} (h : ∀ k (h:k+1<l.length),l[k].id<l[k+1].id) : ∀ (d i:Nat) (hj:i+d+1<l.length),l[i].id<l[i+d+1].id
 | 0,i,hj=>h i hj
 | d+1,i,hj=>by
  have h1:=lex_lt h d i (by omega)
  have h2:=h (i+d+1) hj;exact Int.lt_trans h1 h2
theorem ztl {l:List Ent} (h : ∀ k (h:k+1<l.length),l[k].id<l[k+1].id) {e:Ent} (he:e∈l):getE l e.id=(e,true):=by
 obtain ⟨i,hi,ei⟩:=List.mem_iff_getElem.1 he
 unfold getE
 have:l.find? (fun x=>decide (x.id=e.id))=some e:=by
  rw [List.find?_eq_some_iff_getElem];refine ⟨by simp,i,hi,ei,fun j hj=>?_⟩
  have:=lex_lt h (i-j-1) j (by omega)
  have e2:j+(i-j-1)+1=i:=by omega
  simp only [e2] at this;rw [ei] at this;simp
  omega
 rw [this]
theorem zvo {inv:List Phon} {l:List Ent} (hE : ∀ e∈l,EntF inv e) (hM : ∀ e∈l,e.main≠0→0≤zdj l e.main) : ∀ (f:Nat) (id:Int),(wayG l f id).length<f→(getE l id).2=true→senW l (wayG l f id)≠[]
 | 0,id,h,_=>by omega
 | f+1,id,h,hg=>by
  have hmem:=zog hg;unfold wayG at h ⊢;rw [if_pos hg] at h ⊢;unfold senW;by_cases hs:(getE l id).1.senses≠[]
  ·rw [if_pos hs];exact hs
  ·rw [if_neg hs]
   have hm:(getE l id).1.main≠0:=by
    rcases (hE _ hmem).senses with h' | h'
    ·exact absurd h' hs
    ·exact h'
   rw [if_neg hm] at h ⊢;refine zvo hE hM f _ (by simpa using h) ?_
   rcases zc7 l (getE l id).1.main with ⟨h1,_⟩ | ⟨j,hj,_,h2⟩
   ·exact absurd (hM _ hmem hm) (by omega)
   ·rw [h2]
theorem LightF.senses {g:Lang} (h:LightF g) {e:Ent} (he:e∈g.lex):zcp g.lex e.id≠[]:=by
 unfold zcp
 rw [zte]
 refine zvo h.lex.each h.main.main _ _ ?_ (by rw [ztl h.lex.up he])
 have:=h.main.ends e he
 omega
section
variable (g:Lang) (w:List Int)
def zkc:Nat:=if zez g.rules=true then 24 else w.length
def licB (b:List Prt):Bool:=decide (w.length≤(zba g.lex b).length)&&licE g w b
def furF:Nat→List Prt→List (List Prt)
 | 0,_=>[]
 | f+1,a=>g.lex.flatMap fun e=>if e.cls∈zyl g.net (zaz g.lex a) 20 then ((List.range e.forms.length).flatMap fun (alt:Nat)=>
   if zkc g w<(zba g.lex (a++[⟨e.id,alt,0⟩])).length then [] else (if licB g w (a++[⟨e.id,alt,0⟩])=true then [a++[⟨e.id,alt,0⟩]] else [])++furF f (a++[⟨e.id,alt,0⟩])) else []
def zfq (base:List Int):Bool:=decide (zd6 g.inv g.rules base≠[])&&decide (zd6 g.inv g.rules base=w)
def walkT:Nat→List Prt→Nat→List Int→List (List Prt×List Int)
 | 0,_,_,_=>[]
 | f+1,a,s,base=>g.lex.flatMap fun e=>if zax g.net.steps s e.cls≠0 then ((List.range e.forms.length).flatMap fun (alt:Nat)=>
   if zkc g w<(base++e.forms[alt]?.getD []).length then [] else
   (if zax g.net.steps s e.cls &&& zbz g.net.final≠0∧w.length≤(base++e.forms[alt]?.getD []).length∧zfq g w (base++e.forms[alt]?.getD [])=true then [(a++[⟨e.id,alt,0⟩],base++e.forms[alt]?.getD [])] else []) ++
    walkT f (a++[⟨e.id,alt,0⟩]) (zax g.net.steps s e.cls) (base++e.forms[alt]?.getD [])) else []
end
theorem zeo {α β:Type} {f h:α→List β} : ∀ {l:List α},(∀ x∈l,f x=h x)→l.flatMap f=l.flatMap h
 | [],_=>rfl
 | a::l,e=>by
  rw [List.flatMap_cons,List.flatMap_cons,e a (List.mem_cons_self ..),zeo fun x hx=>e x (List.mem_cons_of_mem _ hx)]
theorem zh6 {α β:Type} {l:List α} {f:α→List β} (h : ∀ x∈l,f x=[]):l.flatMap f=[]:=by
 rw [List.flatMap_eq_nil_iff];exact h
theorem zr5 {g:Lang} {w:List Int} (hg:LightF g) : ∀ (f:Nat) (a:List Prt) (s:Nat) (base:List Int),s<2^g.net.states.toNat→Dead g.net s→walkT g w f a s base=[]
 | 0,_,_,_,_,_=>rfl
 | f+1,a,s,base,hs,hd=>by
  unfold walkT;refine zh6 fun e he=>?_
  split
  ·refine zh6 fun alt _=>?_
   have hc:=(hg.lex.each e he).cls;have h1:=z3g hg.net' hs hd hc.1;have hlt:=zrp hg.net' s e.cls;have h2:=zr4 hg.net' hlt h1;split
   ·rfl
   ·rw [if_neg (fun h=>h.1 h2),zr5 hg f _ _ _ hlt h1];rfl
  ·rfl
theorem z6p (n:Nett):Dead n 0:=by
 rw [ztk];intro q _ h;rw [Nat.zero_testBit] at h;cases h
theorem zr6 {g:Lang} (hg:LightF g) (cs:List Int) {c:Int} (h1:1≤c) (h2:c≤20):c∈zyl g.net cs 20↔¬ Dead g.net (zax g.net.steps (runS g.net.steps cs) c):=by
 unfold zyl Dead
 rw [List.mem_filter,List.mem_map]
 constructor
 ·rintro ⟨_,h⟩ h';rw [h'] at h;cases h
 ·intro h
  refine ⟨⟨(c-1).toNat,List.mem_range.2 (by omega),by omega⟩,?_⟩
  cases hb:zya g.net.states.toNat (zax g.net.steps (runS g.net.steps cs) c) (z6k g.net) with
  | true=>rfl
  | false=>exact absurd hb h
theorem zep {g:Lang} (hg:LightF g) {e:Ent} (he:e∈g.lex) {alt:Nat} (ha:alt<e.forms.length):zf6 g.lex ⟨e.id,alt,0⟩=(e,e.forms[alt]?.getD [],true):=by
 have h:=ztl hg.lex.up he
 unfold zf6
 simp only
 rw [if_pos ⟨by rw [h],by omega,by rw [h];show (alt:Int)<e.forms.length;omega⟩,h]
 rfl
theorem zvp {g:Lang} (hg:LightF g) {e:Ent} (he:e∈g.lex) {alt:Nat} (ha:alt<e.forms.length):zh3 g.lex ⟨e.id,alt,0⟩=0:=by
 have hs:0<(zcp g.lex e.id).length:=List.length_pos_iff.2 (hg.senses he)
 unfold zh3
 rw [zep hg he ha,ztl hg.lex.up he]
 simp only [Bool.true_eq_false,if_false]
 rw [if_neg]
 rintro (h | h) <;> omega
theorem zvq {g:Lang} (hg:LightF g) {e:Ent} (he:e∈g.lex) {alt:Nat} (ha:alt<e.forms.length) (a:List Prt):zaz g.lex (a++[⟨e.id,alt,0⟩])=zaz g.lex a++[e.cls]:=by
 unfold zaz
 rw [List.flatMap_append,List.flatMap_singleton,zep hg he ha]
 rfl
theorem z6q {g:Lang} (hg:LightF g) {e:Ent} (he:e∈g.lex) {alt:Nat} (ha:alt<e.forms.length) (a:List Prt):zba g.lex (a++[⟨e.id,alt,0⟩])=zba g.lex a++e.forms[alt]?.getD []:=by
 unfold zba
 rw [List.flatMap_append,List.flatMap_singleton,zep hg he ha]
 rfl
theorem zg8 {l:List Ent} : ∀ {ps:List Prt},(∀ p∈ps,zh3 l p=0)→zfe l ps=0
 | [],_=>rfl
 | p::ps,h=>by
  unfold zfe;rw [if_pos (h p (List.mem_cons_self ..))];exact zg8 fun x hx=>h x (List.mem_cons_of_mem _ hx)
theorem ybc {g:Lang} {w:List Int} {b:List Prt} (hv : ∀ p∈b,zh3 g.lex p=0) (h1:1≤b.length) (h4:b.length≤4) (hb:(zba g.lex b).length≤24) :
  licE g w b=(decide (runS g.net.steps (zaz g.lex b) &&& zbz g.net.final≠0)&&zfq g w (zba g.lex b)):=by
 have hR:zff g b=if zej g.net (zaz g.lex b)=false then 21 else 0:=by
  unfold zff;rw [if_neg (by omega),if_neg (by omega),if_neg (by rw [zg8 hv];simp),if_neg (show ¬ 24<(zba g.lex b).length by omega)]
 unfold licE zb1 zfq
 rw [hR]
 have hacc:zej g.net (zaz g.lex b)=decide (runS g.net.steps (zaz g.lex b) &&& zbz g.net.final≠0):=rfl
 rw [← hacc]
 cases zej g.net (zaz g.lex b) with
 | false=>simp
 | true=>
  simp only [Bool.true_eq_false,if_false,ne_eq,not_true_eq_false,Bool.true_and];by_cases hl:zd6 g.inv g.rules (zba g.lex b)=[]
  ·simp [hl]
  ·have hl':¬(zd6 g.inv g.rules (zba g.lex b)).length=0:=fun h=>hl (List.length_eq_zero_iff.mp h)
   simp [hl,hl']
theorem ybd (n:Nett) (cs:List Int) (c:Int):runS n.steps (cs++[c])=zax n.steps (runS n.steps cs) c:=by unfold runS;rw [List.foldl_append];rfl
theorem ztm {g:Lang} {w:List Int} (hg:LightF g) (hw:w.length≤24) : ∀ (f:Nat) (a:List Prt),a.length+f=4→(∀ p∈a,zh3 g.lex p=0) →
  walkT g w f a (runS g.net.steps (zaz g.lex a)) (zba g.lex a)=(furF g w f a).map fun b=>(b,zba g.lex b)
 | 0,_,_,_=>rfl
 | f+1,a,hl,hv=>by
  have hm:zkc g w≤24:=by unfold zkc;split <;> omega
  unfold walkT furF;rw [List.map_flatMap];refine zeo fun e he=>?_
  have hc:=(hg.lex.each e he).cls;have hlt:=zrp hg.net' (runS g.net.steps (zaz g.lex a)) e.cls;by_cases hd:Dead g.net (zax g.net.steps (runS g.net.steps (zaz g.lex a)) e.cls)
  ·rw [if_neg (fun h=>(zr6 hg _ hc.1 hc.2).1 h hd)]
   have h2:=zr4 hg.net' hlt hd;rw [List.map_nil];split
   ·refine zh6 fun alt _=>?_
    split
    ·rfl
    ·rw [if_neg (fun h=>h.1 h2),zr5 hg f _ _ _ hlt hd];rfl
   ·rfl
  ·rw [if_pos ((zr6 hg _ hc.1 hc.2).2 hd),if_pos (fun h=>hd (by rw [h];exact z6p _)),List.map_flatMap]
   refine zeo fun alt ha=>?_
   have ha:=List.mem_range.1 ha;rw [← z6q hg he ha a];by_cases hmo:zkc g w<(zba g.lex (a++[⟨e.id,(alt:Int),0⟩])).length
   ·rw [if_pos hmo,if_pos hmo];rfl
   ·rw [if_neg hmo,if_neg hmo,List.map_append]
    have hv2 : ∀ p∈a++[⟨e.id,(alt:Int),0⟩],zh3 g.lex p=0:=by
     intro p hp;rcases List.mem_append.1 hp with h | h
     ·exact hv p h
     ·rw [List.mem_singleton] at h;rw [h];exact zvp hg he ha
    have hr:zax g.net.steps (runS g.net.steps (zaz g.lex a)) e.cls=runS g.net.steps (zaz g.lex (a++[⟨e.id,(alt:Int),0⟩])):=by rw [zvq hg he ha,ybd]
    have hli:=ybc (w:=w) hv2 (by simp) (by simp;omega) (by omega)
    rw [hr,ztm hg hw f _ (by simp;omega) hv2]
    congr 1
    unfold licB;rw [hli];by_cases h1:runS g.net.steps (zaz g.lex (a++[⟨e.id,(alt:Int),0⟩])) &&& zbz g.net.final≠0
    ·by_cases h2:w.length≤(zba g.lex (a++[⟨e.id,(alt:Int),0⟩])).length
     ·cases h3:zfq g w (zba g.lex (a++[⟨e.id,(alt:Int),0⟩])) with
      | true=>rw [if_pos ⟨h1,h2,rfl⟩,if_pos (by simp [h1,h2])];rfl
      | false=>rw [if_neg (fun h=>by cases h.2.2),if_neg (by simp)];rfl
     ·rw [if_neg (fun h=>h2 h.2.1),if_neg (by simp [h2])];rfl
    ·rw [if_neg (fun h=>h1 h.1),if_neg (by simp only [ne_eq,Decidable.not_not] at h1;simp [h1])];rfl
end Go.V
namespace Go.V
open Go Go.Proofs
def orE:List Int→Int
 | []=>0
 | x::r=>if x=0 then orE r else x
theorem ybe {l:List Int} {k:Nat} (h:k<l.length):orE (l.drop k)=if l[k]=0 then orE (l.drop (k+1)) else l[k]:=by
 rw [List.drop_eq_getElem_cons h];rfl
theorem ygj (l:List Int) (hl:l.length<2^40):zay Tryz.prog 105 [ints l] (int (orE l)):=by
 refine zaa mixed Tryz.func105 rfl call_105 ?_
 simp +decide [Tryz.f105,int,ints]
 refine zaf mixed (fun k:Nat=>{n:=18,next:=0,slots:=[(3,.d (int 0)),(6,.d (ints l)),(7,.d (int l.length)),(8,.d (int k))],own:=[]})
  (fun k=>k≤l.length∧orE (l.drop k)=orE l) (fun k=>l.length-k) 0 (by simp) (by simp +decide [int,ints]) ?_
 intro k ⟨hk,hp⟩
 by_cases hlt:k<l.length
 case neg=>
  have:k=l.length:=by omega
  subst this;rw [List.drop_length] at hp;simp +decide [int,ints,← hp,orE]
 have hlt':(k:Int)<l.length:=by omega
 rw [ybe hlt] at hp
 obtain ⟨x,ex⟩ : ∃ x,l[k]=x:=⟨_,rfl⟩
 have e1:l[k]?=some x:=by rw [List.getElem?_eq_getElem hlt,ex]
 rw [ex] at hp
 by_cases hx:x=0
 ·rw [if_pos hx] at hp
  simp +decide [int,ints,hlt,hlt',e1,ex,hx,I64];exact ⟨⟨by omega,by omega⟩,k+1,⟨hlt,hp⟩,by omega,by omega⟩
 ·rw [if_neg hx] at hp
  simp +decide [int,ints,hlt,hlt',e1,ex,hx,I64,← hp]
def cmpP (a b:Prt):Int:=orE [cmpI a.entry b.entry,cmpI a.alt b.alt,cmpI a.sense b.sense]
theorem zfg {a b:Int}:cmpI a b=0↔a=b:=by unfold cmpI;split;omega;split <;> omega
theorem ztn {a b:Int}:cmpI a b<0↔a<b:=by unfold cmpI;split;omega;split <;> omega
theorem zvr {a b:Prt}:cmpP a b=0↔a=b:=by
 unfold cmpP orE orE orE orE
 constructor
 ·intro h
  split at h
  ·rename_i h1
   split at h
   ·rename_i h2
    split at h
    ·rename_i h3
     obtain ⟨a1,a2,a3⟩:=a;obtain ⟨b1,b2,b3⟩:=b;rw [zfg] at h1 h2 h3;simp only at h1 h2 h3
     rw [h1,h2,h3]
    ·contradiction
   ·contradiction
  ·contradiction
 ·intro h
  subst h;simp [cmpI]
theorem ybf {a b:Prt}:decide (cmpP a b<0)=zmb a b:=by
 unfold cmpP orE orE orE orE zmb
 by_cases h1:a.entry=b.entry
 ·rw [if_pos (zfg.2 h1),if_pos h1]
  by_cases h2:a.alt=b.alt
  ·rw [if_pos (zfg.2 h2),if_pos h2]
   by_cases h3:a.sense=b.sense
   ·rw [if_pos (zfg.2 h3)];simp [h3]
   ·rw [if_neg (fun h=>h3 (zfg.1 h))];simp [ztn]
  ·rw [if_neg (fun h=>h2 (zfg.1 h)),if_neg h2];simp [ztn]
 ·rw [if_neg (fun h=>h1 (zfg.1 h)),if_neg h1];simp [ztn]
theorem z3h (a b:Prt):zay Tryz.prog 65 [.agg a.row,.agg b.row] (int (cmpP a b)):=by
 have h1:=zl9 a.entry b.entry
 have h2:=zl9 a.alt b.alt
 have h3:=zl9 a.sense b.sense
 have ho:=ygj [cmpI a.entry b.entry,cmpI a.alt b.alt,cmpI a.sense b.sense] (by simp)
 refine zaa mixed Tryz.func65 rfl call_65 ?_
 simp +decide [Tryz.f65,int,Prt.row]
 refine zah (by rfl) (by rfl) h1 (by simp [int]) ?_
 simp +decide [int,Prt.row]
 refine zah (by rfl) (by rfl) h2 (by simp [int]) ?_
 simp +decide [int,Prt.row]
 refine zah (by rfl) (by rfl) h3 (by simp [int]) ?_
 simp +decide [int,Prt.row]
 refine zah (by rfl) (by rfl) ho (by simp [int,ints]) ?_
 simp +decide [int,Prt.row,cmpP]
def cmpA:List Prt→List Prt→Int
 | [],[]=>0
 | [],_::_=>-1
 | _::_,[]=>1
 | a::l,b::m=>if cmpP a b=0 then cmpA l m else cmpP a b
theorem z0q : ∀ {a b:List Prt},decide (cmpA a b<0)=zdk a b
 | [],[]=>rfl
 | [],_::_=>rfl
 | _::_,[]=>rfl
 | a::l,b::m=>by
  unfold cmpA zdk;by_cases h:a=b
  ·rw [if_pos (zvr.2 h),if_pos h];exact z0q
  ·rw [if_neg (fun h'=>h (zvr.1 h')),if_neg h];exact ybf
theorem z6r {a b:List Prt} {k:Nat} (h:k<a.length) (h':k<b.length):cmpA (a.drop k) (b.drop k)=if cmpP a[k] b[k]=0 then cmpA (a.drop (k+1)) (b.drop (k+1)) else cmpP a[k] b[k]:=by
 rw [List.drop_eq_getElem_cons h,List.drop_eq_getElem_cons h'];rfl
theorem zyn (a b:List Prt) (ha:a.length<2^40) (hb:b.length<2^40) :
  zay Tryz.prog 64 [zad a,zad b,.fn 65 []] (int (cmpA a b)):=by
 refine zaa mixed Tryz.func64 rfl call_64 ?_
 simp +decide [Tryz.f64,int,zad]
 refine zaf mixed (fun k:Nat=>{n:=39,next:=0,slots:=[(0,.d (zad a)),(1,.d (zad b)),(2,.d (.fn 65 [])),(11,.d (zad a)),(12,.d (int a.length)),(13,.d (int k))],own:=[]})
  (fun k=>k≤a.length∧k≤b.length∧cmpA (a.drop k) (b.drop k)=cmpA a b) (fun k=>a.length-k) 0 (by simp) (by simp +decide [int,zad]) ?_
 intro k ⟨hk,hkb,hp⟩
 by_cases hlt:k<a.length
 case neg=>
  have:k=a.length:=by omega
  subst this;rw [List.drop_length] at hp;by_cases hb2:a.length<b.length
  ·have hb':(a.length:Int)<b.length:=by omega
   rw [List.drop_eq_getElem_cons hb2] at hp;simp +decide [int,zad,hb',← hp,cmpA]
  ·have hb':¬(a.length:Int)<b.length:=by omega
   rw [show a.length=b.length by omega,List.drop_length] at hp
   simp +decide [int,zad,hb',← hp,cmpA]
 have hlt':(k:Int)<a.length:=by omega
 obtain ⟨x,ex⟩ : ∃ x,a[k]=x:=⟨_,rfl⟩
 have e1:a[k]?=some x:=by rw [List.getElem?_eq_getElem hlt,ex]
 by_cases hlb:k<b.length
 case neg=>
  have hlb':(b.length:Int)≤k:=by omega
  have:b.drop k=[]:=List.drop_eq_nil_of_le (by omega)
  rw [this,List.drop_eq_getElem_cons hlt] at hp;simp +decide [int,zad,Prt.row,hlt,hlt',e1,ex,hlb',← hp,cmpA,I64]
 have hlb':¬(b.length:Int)≤k:=by omega
 obtain ⟨y,ey⟩ : ∃ y,b[k]=y:=⟨_,rfl⟩
 have e2:b[k]?=some y:=by rw [List.getElem?_eq_getElem hlb,ey]
 rw [z6r hlt hlb,ex,ey] at hp
 simp +decide [int,zad,Prt.row,hlt,hlt',hlb,e1,ex,e2,ey,hlb',I64]
 refine zal.pure (by rfl) (z3h x y) (by simp [Prt.row,int]) ?_
 by_cases hx:cmpP x y=0
 ·rw [if_pos hx] at hp
  simp +decide [int,zad,Prt.row,hx,I64];exact ⟨⟨by omega,by omega⟩,k+1,⟨hlt,hlb,hp⟩,by omega,by omega⟩
 ·rw [if_neg hx] at hp
  simp +decide [int,zad,Prt.row,hx,I64,← hp]
theorem ybg (a b:List Prt) (ha:a.length<2^40) (hb:b.length<2^40):zay Tryz.prog 30 [anaD a,anaD b] (.bool (zdk a b)):=by
 refine zaa mixed Tryz.func30 rfl call_30 ?_
 simp +decide [Tryz.f30,anaD,zad]
 refine zal.pure (by rfl) (zyn a b ha hb) (by simp [zad,int]) ?_
 simp +decide [int]
 exact z0q
theorem ybh (inv:List Phon) (s:Int):zay Tryz.prog 91 [int s,.ptr [invD inv]] (.bool (!zcn inv s)):=by
 refine zaa mixed Tryz.func91 rfl call_91 ?_
 simp +decide [Tryz.f91,int]
 refine zal.pure (by rfl) (zrm inv s) (by simp [invD,int]) ?_
 simp +decide [int]
def badW (inv:List Phon) (w:List Int):Int:=match w.findIdx? (fun s=>!zcn inv s) with
 | some k=>k
 | none=>-1
theorem z6s (inv:List Phon) (w:List Int) (hl:w.length<2^40):zay Tryz.prog 137 [ints w,.fn 91 [.ptr [invD inv]]] (int (badW inv w)):=by
 refine zaa mixed Tryz.func137 rfl call_137 ?_
 simp +decide [Tryz.f137,ints]
 refine zaf mixed (fun k:Nat=>{n:=19,next:=0,slots:=[(0,.d (ints w)),(1,.d (.fn 91 [.ptr [invD inv]])),(6,.d (ints w)),(7,.d (.int .i64 w.length)),(8,.d (.int .i64 k))],own:=[]})
  (fun k=>k≤w.length∧∀ e∈w.take k,zcn inv e=true) (fun k=>w.length-k) 0 (by simp) (by simp [ints]) ?_
 intro k ⟨hk,hp⟩
 by_cases hlt:k<w.length
 ·have hlt':(k:Int)<w.length:=by omega
  obtain ⟨e,ee⟩ : ∃ e,w[k]=e:=⟨_,rfl⟩;have e1:w[k]?=some e:=by rw [List.getElem?_eq_getElem hlt,ee]
  simp +decide [ints,int,e1,ee,hlt,hlt',I64];refine zal.pure (by rfl) (ybh inv e) (by simp [int,invD]) ?_
  cases he:zcn inv e with
  | false=>
   have:w.findIdx? (fun s=>!zcn inv s)=some k:=by
    rw [List.findIdx?_eq_some_iff_getElem];refine ⟨hlt,by rw [ee,he];rfl,fun j hj=>?_⟩
    have:=hp w[j] (by rw [List.mem_take_iff_getElem];exact ⟨j,by omega,rfl⟩)
    rw [this];decide
   simp +decide [ints,int,he,I64,badW,this]
  | true=>
   simp +decide [ints,int,he,I64];refine ⟨⟨by omega,by omega⟩,k+1,⟨hlt,?_⟩,by omega,by omega⟩
   intro x hx;rw [List.take_succ_eq_append_getElem hlt] at hx;rcases List.mem_append.1 hx with h | h
   ·exact hp x h
   ·rw [List.mem_singleton] at h;rw [h,ee];exact he
 ·have:k=w.length:=by omega
  subst this;have:w.findIdx? (fun s=>!zcn inv s)=none:=by
   rw [List.findIdx?_eq_none_iff];intro x hx;rw [hp x (by simpa using hx)];rfl
  simp +decide [ints,int,badW,this]
theorem ydz (inv:List Phon) (w:List Int) (hw:w.length<2^40):zay Tryz.prog 48 [.agg [invD inv],ints w] (int (zg6 inv w)):=by
 have hI:=z6s inv w hw
 refine zaa mixed Tryz.func48 rfl call_48 ?_
 obtain ⟨R,hR⟩ : ∃ R,zg6 inv w=R:=⟨_,rfl⟩
 rw [hR]
 unfold zg6 at hR
 have hC:zay Tryz.prog 90 [ints w,.fn 91 [.ptr [invD inv]]] (.bool (decide (0≤badW inv w))):=by
  refine zaa mixed Tryz.func90 rfl call_90 ?_
  simp +decide [Tryz.f90,ints];refine zal.pure (by rfl) hI (by simp [int,invD]) ?_
  simp +decide [int]
 by_cases h0:w.length=0
 ·rw [if_pos h0] at hR
  subst hR;have h0':(w.length:Int)=0:=by omega
  simp +decide [Tryz.f48,int,ints,h0,h0'];done
 rw [if_neg h0] at hR
 have h0':¬(w.length:Int)=0:=by omega
 by_cases h1:24<w.length
 ·rw [if_pos h1] at hR
  subst hR;have h1':(24:Int)<w.length:=by omega
  simp +decide [Tryz.f48,int,ints,h0,h0',h1,h1'];done
 rw [if_neg h1] at hR
 have h1':¬(24:Int)<w.length:=by omega
 simp +decide [Tryz.f48,int,ints,h0,h0',h1,h1']
 refine zal.pure (by rfl) hC (by simp [D.scalar]) ?_
 by_cases hall:(w.all fun x=>zcn inv x)=true
 ·rw [if_pos hall] at hR
  have hb:badW inv w = -1:=by
   unfold badW;have:w.findIdx? (fun s=>!zcn inv s)=none:=by
    rw [List.findIdx?_eq_none_iff];intro x hx;rw [List.all_eq_true.1 hall x hx];rfl
   rw [this]
  simp +decide [int,hb,← hR]
 ·rw [if_neg hall] at hR
  have hb:0≤badW inv w:=by
   unfold badW;cases h:w.findIdx? (fun s=>!zcn inv s) with
   | none=>
    rw [List.findIdx?_eq_none_iff] at h;exact absurd (List.all_eq_true.2 fun x hx=>by simpa using h x hx) hall
   | some k=>simp
  simp +decide [int,hb,← hR]
end Go.V

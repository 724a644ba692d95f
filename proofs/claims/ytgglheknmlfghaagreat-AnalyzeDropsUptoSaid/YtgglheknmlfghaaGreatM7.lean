/- Contracts and plain laws of this seat: part M7. It needs no conditions. -/
import Derived.Test.YtgglheknmlfghaaGreatM3
import Derived.Test.YtgglheknmlfghaaGreatM5
import Derived.Test.YtgglheknmlfghaaGreatM1
set_option linter.unusedVariables false
set_option linter.unusedSimpArgs false
set_option linter.unusedSectionVars false
set_option maxRecDepth 100000
namespace Go.V
open Go Go.Proofs
def zd4 (l:List Stp):Nat→Nat→Nat
 | 0,m=>m
 | k+1,m=>zhs l (zd4 l k m) 0 ||| zd4 l k m
def mixB (S a b k:Nat):List Bool:=(List.range S).map fun q=>if q<k then (a.testBit q || b.testBit q) else a.testBit q
@[simp] theorem ye6 (S a b k:Nat):(mixB S a b k).length=S:=by simp [mixB]
def endB (n:Nett) (q:Nat):Bool:=zxr n.states.toNat (zd4 n.steps n.states.toNat (zjb 0 (q:Int))) (zb1 n.final)
def z5h (n:Nett):Nat:=(List.range n.states.toNat).foldl (fun m q=>if endB n q=true then m ||| (1 <<< q) else m) 0
theorem zz6 (f:Nat→Bool) : ∀ (l:List Nat) (m j:Nat),(l.foldl (fun m q=>if f q=true then m ||| (1 <<< q) else m) m).testBit j=(m.testBit j || decide (j∈l∧f j=true))
 | [],m,j=>by simp
 | q::l,m,j=>by
  rw [List.foldl_cons,zz6 f l];by_cases hq:f q=true
  ·rw [if_pos hq,zms]
   by_cases e:q=j
   ·subst e;simp [hq]
   ·have e':¬ j=q:=fun h=>e h.symm
    simp [e,e']
  ·rw [if_neg hq]
   by_cases e:j=q
   ·subst e;simp [hq]
   ·simp [e]
def zx2 (n:Nett) (cs:List Int) (k:Nat):List Int:=((List.range k).map fun (i:Nat)=>(i:Int)+1).filter fun c=>zxr n.states.toNat (za1 n.steps (runS n.steps cs) c) (z5h n)
end Go.V
namespace Go.V
open Go Go.Proofs
theorem z5i (m:Nat) (q:Int) (j:Nat):(zjb m q).testBit j=(m.testBit j || decide (q.toNat=j)):=by unfold zjb;exact zms m q.toNat j
theorem zrh (m:Nat) (c:Int) (j:Nat) : ∀ (l:List Stp) (out:Nat),(l.foldl (zkm m c) out).testBit j=(out.testBit j || l.any fun x=>m.testBit x.src.toNat&&(decide (c=0) || decide (x.cls=c))&&decide (x.dst.toNat=j))
 | [],out=>by simp
 | x::l,out=>by
  rw [List.foldl_cons,zrh m c j l,List.any_cons];unfold zkm hasS;by_cases h:m.testBit x.src.toNat=true∧(c=0∨x.cls=c)
  ·rw [if_pos h,z5i,h.1]
   have:(decide (c=0) || decide (x.cls=c))=true:=by rcases h.2 with e | e <;> simp [e]
   rw [this,Bool.and_true,Bool.true_and,Bool.or_assoc]
  ·rw [if_neg h]
   have:(m.testBit x.src.toNat&&(decide (c=0) || decide (x.cls=c)))=false:=by
    cases hb:m.testBit x.src.toNat with
    | false=>rfl
    | true=>
     rw [Bool.true_and];have h2:¬(c=0∨x.cls=c):=fun e=>h ⟨hb,e⟩
     simp only [Bool.or_eq_false_iff,decide_eq_false_iff_not];exact ⟨fun e=>h2 (.inl e),fun e=>h2 (.inr e)⟩
   rw [this,Bool.false_and,Bool.false_or]
theorem zd5 (l:List Stp) (m:Nat) (c:Int) (j:Nat):(zhs l m c).testBit j=l.any fun x=>m.testBit x.src.toNat&&(decide (c=0) || decide (x.cls=c))&&decide (x.dst.toNat=j):=by
 unfold zhs;rw [zrh];simp
def z19 (s0 s1 s2 m:Nat):Nat:=(if m.testBit 0=true then s0 else 0) ||| (if m.testBit 1=true then s1 else 0) ||| (if m.testBit 2=true then s2 else 0)
def zgc (s0 s1 s2:Nat):Nat→Nat→Nat
 | 0,m=>m
 | k+1,m=>z19 s0 s1 s2 (zgc s0 s1 s2 k m) ||| zgc s0 s1 s2 k m
theorem yct : ∀ s0 m:Fin 2,z19 s0.val 0 0 (zgc s0.val 0 0 1 m.val) ||| zgc s0.val 0 0 1 m.val=zgc s0.val 0 0 1 m.val:=by decide +kernel
theorem closed2 : ∀ s0 s1 m:Fin 4,z19 s0.val s1.val 0 (zgc s0.val s1.val 0 2 m.val) ||| zgc s0.val s1.val 0 2 m.val=zgc s0.val s1.val 0 2 m.val:=by decide +kernel
theorem ycu : ∀ s0 s1 s2 m:Fin 8,z19 s0.val s1.val s2.val (zgc s0.val s1.val s2.val 3 m.val) ||| zgc s0.val s1.val s2.val 3 m.val=zgc s0.val s1.val s2.val 3 m.val:=by decide +kernel
theorem zlw (q j:Nat):(1 <<< q).testBit j=decide (q=j):=by rw [Nat.one_shiftLeft,Nat.testBit_two_pow]
def zjd (l:List Stp) (q:Nat):Nat:=zhs l (1 <<< q) 0
theorem zok (l:List Stp) (hl : ∀ x∈l,0≤x.src∧x.src<3) (m:Nat):zhs l m 0=z19 (zjd l 0) (zjd l 1) (zjd l 2) m:=by
 apply Nat.eq_of_testBit_eq
 intro j
 have hb : ∀ q,(zjd l q).testBit j=l.any fun x=>decide (q=x.src.toNat)&&decide (x.dst.toNat=j):=by
  intro q;unfold zjd;rw [zd5];congr 1
  funext x
  rw [zlw];simp
 have hi : ∀ q,(if m.testBit q=true then zjd l q else 0).testBit j=(m.testBit q&&l.any fun x=>decide (q=x.src.toNat)&&decide (x.dst.toNat=j)):=by
  intro q;cases h:m.testBit q with
  | true=>rw [if_pos rfl,hb];rfl
  | false=>rw [if_neg (by decide)];simp
 unfold z19
 rw [Nat.testBit_or,Nat.testBit_or,hi,hi,hi,zd5,Bool.eq_iff_iff]
 simp only [Bool.or_eq_true,Bool.and_eq_true,List.any_eq_true,decide_eq_true_eq]
 constructor
 ·rintro ⟨x,hx,⟨h1,_⟩,h3⟩
  have h4:=hl x hx;have:x.src.toNat=0∨x.src.toNat=1∨x.src.toNat=2:=by omega
  rcases this with e | e | e
  ·rw [e] at h1;exact .inl (.inl ⟨h1,x,hx,e.symm,h3⟩)
  ·rw [e] at h1;exact .inl (.inr ⟨h1,x,hx,e.symm,h3⟩)
  ·rw [e] at h1;exact .inr ⟨h1,x,hx,e.symm,h3⟩
 ·rintro ((⟨h,x,hx,e,h3⟩ | ⟨h,x,hx,e,h3⟩) | ⟨h,x,hx,e,h3⟩) <;> exact ⟨x,hx,⟨by rw [← e];exact h,by simp⟩,h3⟩
theorem zu4 (l:List Stp) (hl : ∀ x∈l,0≤x.src∧x.src<3) (m:Nat) : ∀ k,zd4 l k m=zgc (zjd l 0) (zjd l 1) (zjd l 2) k m
 | 0=>rfl
 | k+1=>by unfold zd4 zgc;rw [zu4 l hl m k,zok l hl]
theorem z5j {m S:Nat} (h : ∀ j,m.testBit j=true→j<S):m<2^S:=by
 apply Nat.lt_pow_two_of_testBit
 intro j hj
 cases hb:m.testBit j with
 | false=>rfl
 | true=>exact absurd (h j hb) (by omega)
theorem zx3 {n:Nett} (hn:NetL n) (q:Nat):zjd n.steps q<2^n.states.toNat:=by
 apply z5j
 intro j hj
 unfold zjd at hj
 rw [zd5,List.any_eq_true] at hj
 obtain ⟨x,hx,h⟩:=hj
 simp only [Bool.and_eq_true,decide_eq_true_eq] at h
 have:=(hn.steps x hx).2.1
 omega
theorem zu5 {n:Nett} (hn:NetL n) {q:Nat} (hq:n.states.toNat≤q):zjd n.steps q=0:=by
 apply Nat.eq_of_testBit_eq
 intro j
 rw [Nat.zero_testBit]
 unfold zjd
 rw [zd5,List.any_eq_false]
 intro x hx h
 rw [zlw] at h
 simp only [Bool.and_eq_true,decide_eq_true_eq] at h
 have:=(hn.steps x hx).1
 omega
theorem zsu {n:Nett} (hn:NetL n) {m:Nat} (hm:m<2^n.states.toNat):zhs n.steps (zd4 n.steps n.states.toNat m) 0 ||| zd4 n.steps n.states.toNat m=zd4 n.steps n.states.toNat m:=by
 have hl : ∀ x∈n.steps,0≤x.src∧x.src<3:=fun x hx=>by have:=(hn.steps x hx).1;have:=hn.hi;omega
 rw [zok _ hl,zu4 _ hl]
 have h0:=zx3 hn 0
 have h1:=zx3 hn 1
 have h2:=zx3 hn 2
 have hS:n.states.toNat=1∨n.states.toNat=2∨n.states.toNat=3:=by have:=hn.lo;have:=hn.hi;omega
 have z1:=fun h=>zu5 hn (q:=1) h
 have z2:=fun h=>zu5 hn (q:=2) h
 generalize zjd n.steps 0=s0 at *
 generalize zjd n.steps 1=s1 at *
 generalize zjd n.steps 2=s2 at *
 rcases hS with e | e | e
 ·rw [e] at h0 hm z1 z2 ⊢
  rw [z1 (by omega),z2 (by omega)]
  exact yct ⟨s0,h0⟩ ⟨m,hm⟩
 ·rw [e] at h0 h1 hm z2 ⊢
  rw [z2 (by omega)]
  exact closed2 ⟨s0,h0⟩ ⟨s1,h1⟩ ⟨m,hm⟩
 ·rw [e] at h0 h1 h2 hm ⊢
  exact ycu ⟨s0,h0⟩ ⟨s1,h1⟩ ⟨s2,h2⟩ ⟨m,hm⟩
def Sub (a b:Nat):Prop:=∀ j,a.testBit j=true→b.testBit j=true
theorem z5k {l:List Stp} {a b:Nat} {c:Int} (h:Sub a b):Sub (zhs l a c) (zhs l b c):=by
 intro j hj
 rw [zd5,List.any_eq_true] at hj ⊢
 obtain ⟨x,hx,h1⟩:=hj
 simp only [Bool.and_eq_true] at h1 ⊢
 exact ⟨x,hx,⟨h _ h1.1.1,h1.1.2⟩,h1.2⟩
theorem zjs (l:List Stp) (m:Nat) : ∀ k,Sub m (zd4 l k m)
 | 0=>fun _ h=>h
 | k+1=>fun j h=>by unfold zd4;rw [Nat.testBit_or,zjs l m k j h,Bool.or_true]
theorem zol {l:List Stp} {m R:Nat} (h:Sub m R) (hc:zhs l R 0 ||| R=R) : ∀ k,Sub (zd4 l k m) R
 | 0=>h
 | k+1=>fun j hj=>by
  unfold zd4 at hj;rw [Nat.testBit_or,Bool.or_eq_true] at hj;rcases hj with hj | hj
  ·have:=z5k (zol h hc k) j hj
   rw [← hc,Nat.testBit_or,this,Bool.true_or]
  ·exact zol h hc k j hj
theorem sub_one {m q:Nat} (h:m.testBit q=true):Sub (1 <<< q) m:=by
 intro j hj
 rw [zlw,decide_eq_true_eq] at hj
 rw [← hj];exact h
theorem zri (q:Nat):zjb 0 (q:Int)=1 <<< q:=by unfold zjb;simp
theorem yeb {q S:Nat} (h:q<S):1 <<< q<2^S:=z5j fun j hj=>by rw [zlw,decide_eq_true_eq] at hj;omega
theorem z5l {n:Nett} (hn:NetL n) {x:Stp} (hx:x∈n.steps) (h:endB n x.dst.toNat=true):endB n x.src.toNat=true:=by
 obtain ⟨⟨s1,s2⟩,⟨d1,d2⟩,_⟩:=hn.steps x hx
 unfold endB at h ⊢
 rw [zri] at h ⊢
 unfold zxr at h ⊢
 rw [List.any_eq_true] at h ⊢
 obtain ⟨j,hj,h1⟩:=h
 rw [Bool.and_eq_true] at h1
 refine ⟨j,hj,?_⟩
 rw [Bool.and_eq_true]
 refine ⟨?_,h1.2⟩
 have hcl:=zsu hn (yeb (S:=n.states.toNat) (q:=x.src.toNat) (by omega))
 have hself:=zjs n.steps (1 <<< x.src.toNat) n.states.toNat x.src.toNat (by rw [zlw];simp)
 generalize zd4 n.steps n.states.toNat (1 <<< x.src.toNat)=R at hcl hself ⊢
 refine zol (R:=R) (sub_one ?_) hcl n.states.toNat j h1.1
 rw [← hcl,Nat.testBit_or,zd5,Bool.or_eq_true]
 left
 rw [List.any_eq_true]
 exact ⟨x,hx,by simp [hself]⟩
theorem zu6 {n:Nett} {q:Nat} (h:q<n.states.toNat):(z5h n).testBit q=endB n q:=by
 unfold z5h
 rw [zz6]
 simp [h]
def Dead (n:Nett) (s:Nat):Prop:=zxr n.states.toNat s (z5h n)=false
theorem zsv {n:Nett} {s:Nat}:Dead n s↔∀ q,q<n.states.toNat→s.testBit q=true→endB n q=false:=by
 unfold Dead zxr
 rw [List.any_eq_false]
 constructor
 ·intro h q hq hs
  have:=h q (List.mem_range.2 hq)
  rw [hs,Bool.true_and,zu6 hq] at this;simpa using this
 ·intro h q hq
  have hq:=List.mem_range.1 hq;cases hs:s.testBit q with
  | false=>simp
  | true=>rw [zu6 hq,h q hq hs];simp
theorem z2a {n:Nett} (hn:NetL n) {s:Nat} (hs:s<2^n.states.toNat) (h:Dead n s) {c:Int} (hc:1≤c):Dead n (za1 n.steps s c):=by
 rw [zsv] at h ⊢
 intro q hq hb
 rw [← z4k hn s hc,zd5,List.any_eq_true] at hb
 obtain ⟨x,hx,h1⟩:=hb
 simp only [Bool.and_eq_true,decide_eq_true_eq] at h1
 cases he:endB n q with
 | false=>rfl
 | true=>
  rw [← h1.2] at he;have h2:=z5l hn hx he;have:=(hn.steps x hx).1
  rw [h x.src.toNat (by omega) h1.1.1] at h2
  cases h2
theorem zrj {n:Nett} (hn:NetL n) {s:Nat} (hs:s<2^n.states.toNat) (h:Dead n s):s &&& zb1 n.final=0:=by
 rw [zsv] at h
 apply Nat.eq_of_testBit_eq
 intro j
 rw [Nat.zero_testBit,Nat.testBit_and]
 cases hb:s.testBit j with
 | false=>rfl
 | true=>
  rw [Bool.true_and];cases hf:(zb1 n.final).testBit j with
  | false=>rfl
  | true=>
   have hj:j<n.states.toNat:=by
    rcases Nat.lt_or_ge j n.states.toNat with h' | h'
    ·exact h'
    ·have h1:=Nat.testBit_lt_two_pow (i:=j) (Nat.lt_of_lt_of_le hs (Nat.pow_le_pow_right (by omega) h'))
     rw [h1] at hb;cases hb
   have h2:=h j hj hb;unfold endB zxr at h2;rw [List.any_eq_false] at h2;have h3:=h2 j (List.mem_range.2 hj);rw [zri,zjs _ _ _ j (by rw [zlw];simp),hf] at h3
   exact absurd rfl h3
end Go.V
namespace Go.V
open Go Go.Proofs
theorem lex_lt {l:List Ent} (h : ∀ k (h:k+1<l.length),l[k].id<l[k+1].id) : ∀ (d i:Nat) (hj:i+d+1<l.length),l[i].id<l[i+d+1].id
 | 0,i,hj=>h i hj
 | d+1,i,hj=>by
  have h1:=lex_lt h d i (by omega)
  have h2:=h (i+d+1) hj;exact Int.lt_trans h1 h2
theorem zsw {l:List Ent} (h : ∀ k (h:k+1<l.length),l[k].id<l[k+1].id) {e:Ent} (he:e∈l):getE l e.id=(e,true):=by
 obtain ⟨i,hi,ei⟩:=List.mem_iff_getElem.1 he
 unfold getE
 have:l.find? (fun x=>decide (x.id=e.id))=some e:=by
  rw [List.find?_eq_some_iff_getElem];refine ⟨by simp,i,hi,ei,fun j hj=>?_⟩
  have:=lex_lt h (i-j-1) j (by omega)
  have e2:j+(i-j-1)+1=i:=by omega
  simp only [e2] at this;rw [ei] at this;simp
  omega
 rw [this]
theorem zu7 {inv:List Phon} {l:List Ent} (hE : ∀ e∈l,EntF inv e) (hM : ∀ e∈l,e.main≠0→0≤zdk l e.main) : ∀ (f:Nat) (id:Int),(wayG l f id).length<f→(getE l id).2=true→senW l (wayG l f id)≠[]
 | 0,id,h,_=>by omega
 | f+1,id,h,hg=>by
  have hmem:=zkk hg;unfold wayG at h ⊢;rw [if_pos hg] at h ⊢;unfold senW;by_cases hs:(getE l id).1.senses≠[]
  ·rw [if_pos hs];exact hs
  ·rw [if_neg hs]
   have hm:(getE l id).1.main≠0:=by
    rcases (hE _ hmem).senses with h' | h'
    ·exact absurd h' hs
    ·exact h'
   rw [if_neg hm] at h ⊢;refine zu7 hE hM f _ (by simpa using h) ?_
   rcases zcv l (getE l id).1.main with ⟨h1,_⟩ | ⟨j,hj,_,h2⟩
   ·exact absurd (hM _ hmem hm) (by omega)
   ·rw [h2]
theorem LightF.senses {g:Lang} (h:LightF g) {e:Ent} (he:e∈g.lex):zcf g.lex e.id≠[]:=by
 unfold zcf
 rw [zsp]
 refine zu7 h.lex.each h.main.main _ _ ?_ (by rw [zsw h.lex.up he])
 have:=h.main.ends e he
 omega
section
variable (g:Lang) (w:List Int)
def zjt:Nat:=if zfj g.rules=true then 24 else w.length
def licB (b:List Prt):Bool:=decide (w.length≤(zb3 g.lex b).length)&&licE g w b
def furF:Nat→List Prt→List (List Prt)
 | 0,_=>[]
 | f+1,a=>g.lex.flatMap fun e=>if e.cls∈zx2 g.net (zba g.lex a) 20 then ((List.range e.forms.length).flatMap fun (alt:Nat)=>
   if zjt g w<(zb3 g.lex (a++[⟨e.id,alt,0⟩])).length then [] else (if licB g w (a++[⟨e.id,alt,0⟩])=true then [a++[⟨e.id,alt,0⟩]] else [])++furF f (a++[⟨e.id,alt,0⟩])) else []
def zfh (base:List Int):Bool:=decide (zgx g.inv g.rules base≠[])&&decide (zgx g.inv g.rules base=w)
def walkT:Nat→List Prt→Nat→List Int→List (List Prt×List Int)
 | 0,_,_,_=>[]
 | f+1,a,s,base=>g.lex.flatMap fun e=>if za1 g.net.steps s e.cls≠0 then ((List.range e.forms.length).flatMap fun (alt:Nat)=>
   if zjt g w<(base++e.forms[alt]?.getD []).length then [] else
   (if za1 g.net.steps s e.cls &&& zb1 g.net.final≠0∧w.length≤(base++e.forms[alt]?.getD []).length∧zfh g w (base++e.forms[alt]?.getD [])=true then [(a++[⟨e.id,alt,0⟩],base++e.forms[alt]?.getD [])] else []) ++
    walkT f (a++[⟨e.id,alt,0⟩]) (za1 g.net.steps s e.cls) (base++e.forms[alt]?.getD [])) else []
end
theorem zcn {α β:Type} {f h:α→List β} : ∀ {l:List α},(∀ x∈l,f x=h x)→l.flatMap f=l.flatMap h
 | [],_=>rfl
 | a::l,e=>by
  rw [List.flatMap_cons,List.flatMap_cons,e a (List.mem_cons_self ..),zcn fun x hx=>e x (List.mem_cons_of_mem _ hx)]
theorem zhu {α β:Type} {l:List α} {f:α→List β} (h : ∀ x∈l,f x=[]):l.flatMap f=[]:=by
 rw [List.flatMap_eq_nil_iff];exact h
theorem zrk {g:Lang} {w:List Int} (hg:LightF g) : ∀ (f:Nat) (a:List Prt) (s:Nat) (base:List Int),s<2^g.net.states.toNat→Dead g.net s→walkT g w f a s base=[]
 | 0,_,_,_,_,_=>rfl
 | f+1,a,s,base,hs,hd=>by
  unfold walkT;refine zhu fun e he=>?_
  split
  ·refine zhu fun alt _=>?_
   have hc:=(hg.lex.each e he).cls;have h1:=z2a hg.net' hs hd hc.1;have hlt:=zq5 hg.net' s e.cls;have h2:=zrj hg.net' hlt h1;split
   ·rfl
   ·rw [if_neg (fun h=>h.1 h2),zrk hg f _ _ _ hlt h1];rfl
  ·rfl
theorem z5m (n:Nett):Dead n 0:=by
 rw [zsv];intro q _ h;rw [Nat.zero_testBit] at h;cases h
theorem zrl {g:Lang} (hg:LightF g) (cs:List Int) {c:Int} (h1:1≤c) (h2:c≤20):c∈zx2 g.net cs 20↔¬ Dead g.net (za1 g.net.steps (runS g.net.steps cs) c):=by
 unfold zx2 Dead
 rw [List.mem_filter,List.mem_map]
 constructor
 ·rintro ⟨_,h⟩ h';rw [h'] at h;cases h
 ·intro h
  refine ⟨⟨(c-1).toNat,List.mem_range.2 (by omega),by omega⟩,?_⟩
  cases hb:zxr g.net.states.toNat (za1 g.net.steps (runS g.net.steps cs) c) (z5h g.net) with
  | true=>rfl
  | false=>exact absurd hb h
theorem zhv {g:Lang} (hg:LightF g) {e:Ent} (he:e∈g.lex) {alt:Nat} (ha:alt<e.forms.length):zur g.lex ⟨e.id,alt,0⟩=(e,e.forms[alt]?.getD [],true):=by
 have h:=zsw hg.lex.up he
 unfold zur
 simp only
 rw [if_pos ⟨by rw [h],by omega,by rw [h];show (alt:Int)<e.forms.length;omega⟩,h]
 rfl
theorem zu8 {g:Lang} (hg:LightF g) {e:Ent} (he:e∈g.lex) {alt:Nat} (ha:alt<e.forms.length):zoc g.lex ⟨e.id,alt,0⟩=0:=by
 have hs:0<(zcf g.lex e.id).length:=List.length_pos_iff.2 (hg.senses he)
 unfold zoc
 rw [zhv hg he ha,zsw hg.lex.up he]
 simp only [Bool.true_eq_false,if_false]
 rw [if_neg]
 rintro (h | h) <;> omega
theorem zu9 {g:Lang} (hg:LightF g) {e:Ent} (he:e∈g.lex) {alt:Nat} (ha:alt<e.forms.length) (a:List Prt):zba g.lex (a++[⟨e.id,alt,0⟩])=zba g.lex a++[e.cls]:=by
 unfold zba
 rw [List.flatMap_append,List.flatMap_singleton,zhv hg he ha]
 rfl
theorem z5n {g:Lang} (hg:LightF g) {e:Ent} (he:e∈g.lex) {alt:Nat} (ha:alt<e.forms.length) (a:List Prt):zb3 g.lex (a++[⟨e.id,alt,0⟩])=zb3 g.lex a++e.forms[alt]?.getD []:=by
 unfold zb3
 rw [List.flatMap_append,List.flatMap_singleton,zhv hg he ha]
 rfl
theorem zg0 {l:List Ent} : ∀ {ps:List Prt},(∀ p∈ps,zoc l p=0)→zuu l ps=0
 | [],_=>rfl
 | p::ps,h=>by
  unfold zuu;rw [if_pos (h p (List.mem_cons_self ..))];exact zg0 fun x hx=>h x (List.mem_cons_of_mem _ hx)
theorem yae {g:Lang} {w:List Int} {b:List Prt} (hv : ∀ p∈b,zoc g.lex p=0) (h1:1≤b.length) (h4:b.length≤4) (hb:(zb3 g.lex b).length≤24) :
  licE g w b=(decide (runS g.net.steps (zba g.lex b) &&& zb1 g.net.final≠0)&&zfh g w (zb3 g.lex b)):=by
 have hR:zuv g b=if zns g.net (zba g.lex b)=false then 21 else 0:=by
  unfold zuv;rw [if_neg (by omega),if_neg (by omega),if_neg (by rw [zg0 hv];simp),if_neg (show ¬ 24<(zb3 g.lex b).length by omega)]
 unfold licE zqe zfh
 rw [hR]
 have hacc:zns g.net (zba g.lex b)=decide (runS g.net.steps (zba g.lex b) &&& zb1 g.net.final≠0):=rfl
 rw [← hacc]
 cases zns g.net (zba g.lex b) with
 | false=>simp
 | true=>
  simp only [Bool.true_eq_false,if_false,ne_eq,not_true_eq_false,Bool.true_and];by_cases hl:zgx g.inv g.rules (zb3 g.lex b)=[]
  ·simp [hl]
  ·have hl':¬(zgx g.inv g.rules (zb3 g.lex b)).length=0:=fun h=>hl (List.length_eq_zero_iff.mp h)
   simp [hl,hl']
theorem yaf (n:Nett) (cs:List Int) (c:Int):runS n.steps (cs++[c])=za1 n.steps (runS n.steps cs) c:=by unfold runS;rw [List.foldl_append];rfl
theorem znu {g:Lang} {w:List Int} (hg:LightF g) (hw:w.length≤24) : ∀ (f:Nat) (a:List Prt),a.length+f=4→(∀ p∈a,zoc g.lex p=0) →
  walkT g w f a (runS g.net.steps (zba g.lex a)) (zb3 g.lex a)=(furF g w f a).map fun b=>(b,zb3 g.lex b)
 | 0,_,_,_=>rfl
 | f+1,a,hl,hv=>by
  have hm:zjt g w≤24:=by unfold zjt;split <;> omega
  unfold walkT furF;rw [List.map_flatMap];refine zcn fun e he=>?_
  have hc:=(hg.lex.each e he).cls;have hlt:=zq5 hg.net' (runS g.net.steps (zba g.lex a)) e.cls;by_cases hd:Dead g.net (za1 g.net.steps (runS g.net.steps (zba g.lex a)) e.cls)
  ·rw [if_neg (fun h=>(zrl hg _ hc.1 hc.2).1 h hd)]
   have h2:=zrj hg.net' hlt hd;rw [List.map_nil];split
   ·refine zhu fun alt _=>?_
    split
    ·rfl
    ·rw [if_neg (fun h=>h.1 h2),zrk hg f _ _ _ hlt hd];rfl
   ·rfl
  ·rw [if_pos ((zrl hg _ hc.1 hc.2).2 hd),if_pos (fun h=>hd (by rw [h];exact z5m _)),List.map_flatMap]
   refine zcn fun alt ha=>?_
   have ha:=List.mem_range.1 ha;rw [← z5n hg he ha a];by_cases hmo:zjt g w<(zb3 g.lex (a++[⟨e.id,(alt:Int),0⟩])).length
   ·rw [if_pos hmo,if_pos hmo];rfl
   ·rw [if_neg hmo,if_neg hmo,List.map_append]
    have hv2 : ∀ p∈a++[⟨e.id,(alt:Int),0⟩],zoc g.lex p=0:=by
     intro p hp;rcases List.mem_append.1 hp with h | h
     ·exact hv p h
     ·rw [List.mem_singleton] at h;rw [h];exact zu8 hg he ha
    have hr:za1 g.net.steps (runS g.net.steps (zba g.lex a)) e.cls=runS g.net.steps (zba g.lex (a++[⟨e.id,(alt:Int),0⟩])):=by rw [zu9 hg he ha,yaf]
    have hli:=yae (w:=w) hv2 (by simp) (by simp;omega) (by omega)
    rw [hr,znu hg hw f _ (by simp;omega) hv2]
    congr 1
    unfold licB;rw [hli];by_cases h1:runS g.net.steps (zba g.lex (a++[⟨e.id,(alt:Int),0⟩])) &&& zb1 g.net.final≠0
    ·by_cases h2:w.length≤(zb3 g.lex (a++[⟨e.id,(alt:Int),0⟩])).length
     ·cases h3:zfh g w (zb3 g.lex (a++[⟨e.id,(alt:Int),0⟩])) with
      | true=>rw [if_pos ⟨h1,h2,rfl⟩,if_pos (by simp [h1,h2])];rfl
      | false=>rw [if_neg (fun h=>by cases h.2.2),if_neg (by simp)];rfl
     ·rw [if_neg (fun h=>h2 h.2.1),if_neg (by simp [h2])];rfl
    ·rw [if_neg (fun h=>h1 h.1),if_neg (by simp only [ne_eq,Decidable.not_not] at h1;simp [h1])];rfl
end Go.V
namespace Go.V
open Go Go.Proofs
def orE:List Int→Int
 | []=>0
 | x::r=>if x=0 then orE r else x
theorem yag {l:List Int} {k:Nat} (h:k<l.length):orE (l.drop k)=if l[k]=0 then orE (l.drop (k+1)) else l[k]:=by
 rw [List.drop_eq_getElem_cons h];rfl
theorem yfa (l:List Int) (hl:l.length<2^40):za2 Tryz.prog 105 [ints l] (int (orE l)):=by
 refine zab mixed Tryz.func105 rfl call_105 ?_
 simp +decide [Tryz.f105,int,ints]
 refine zaf mixed (fun k:Nat=>{n:=18,next:=0,slots:=[(3,.d (int 0)),(6,.d (ints l)),(7,.d (int l.length)),(8,.d (int k))],own:=[]})
  (fun k=>k≤l.length∧orE (l.drop k)=orE l) (fun k=>l.length-k) 0 (by simp) (by simp +decide [int,ints]) ?_
 intro k ⟨hk,hp⟩
 by_cases hlt:k<l.length
 case neg=>
  have:k=l.length:=by omega
  subst this;rw [List.drop_length] at hp;simp +decide [int,ints,← hp,orE]
 have hlt':(k:Int)<l.length:=by omega
 rw [yag hlt] at hp
 obtain ⟨x,ex⟩ : ∃ x,l[k]=x:=⟨_,rfl⟩
 have e1:l[k]?=some x:=by rw [List.getElem?_eq_getElem hlt,ex]
 rw [ex] at hp
 by_cases hx:x=0
 ·rw [if_pos hx] at hp
  simp +decide [int,ints,hlt,hlt',e1,ex,hx,I64];exact ⟨⟨by omega,by omega⟩,k+1,⟨hlt,hp⟩,by omega,by omega⟩
 ·rw [if_neg hx] at hp
  simp +decide [int,ints,hlt,hlt',e1,ex,hx,I64,← hp]
def cmpP (a b:Prt):Int:=orE [cmpI a.entry b.entry,cmpI a.alt b.alt,cmpI a.sense b.sense]
theorem ze6 {a b:Int}:cmpI a b=0↔a=b:=by unfold cmpI;split;omega;split <;> omega
theorem zsx {a b:Int}:cmpI a b<0↔a<b:=by unfold cmpI;split;omega;split <;> omega
theorem zva {a b:Prt}:cmpP a b=0↔a=b:=by
 unfold cmpP orE orE orE orE
 constructor
 ·intro h
  split at h
  ·rename_i h1
   split at h
   ·rename_i h2
    split at h
    ·rename_i h3
     obtain ⟨a1,a2,a3⟩:=a;obtain ⟨b1,b2,b3⟩:=b;rw [ze6] at h1 h2 h3;simp only at h1 h2 h3
     rw [h1,h2,h3]
    ·contradiction
   ·contradiction
  ·contradiction
 ·intro h
  subst h;simp [cmpI]
theorem yah {a b:Prt}:decide (cmpP a b<0)=zgw a b:=by
 unfold cmpP orE orE orE orE zgw
 by_cases h1:a.entry=b.entry
 ·rw [if_pos (ze6.2 h1),if_pos h1]
  by_cases h2:a.alt=b.alt
  ·rw [if_pos (ze6.2 h2),if_pos h2]
   by_cases h3:a.sense=b.sense
   ·rw [if_pos (ze6.2 h3)];simp [h3]
   ·rw [if_neg (fun h=>h3 (ze6.1 h))];simp [zsx]
  ·rw [if_neg (fun h=>h2 (ze6.1 h)),if_neg h2];simp [zsx]
 ·rw [if_neg (fun h=>h1 (ze6.1 h)),if_neg h1];simp [zsx]
theorem z2c (a b:Prt):za2 Tryz.prog 65 [.agg a.row,.agg b.row] (int (cmpP a b)):=by
 have h1:=zlq a.entry b.entry
 have h2:=zlq a.alt b.alt
 have h3:=zlq a.sense b.sense
 have ho:=yfa [cmpI a.entry b.entry,cmpI a.alt b.alt,cmpI a.sense b.sense] (by simp)
 refine zab mixed Tryz.func65 rfl call_65 ?_
 simp +decide [Tryz.f65,int,Prt.row]
 refine zah (by rfl) (by rfl) h1 (by simp [int]) ?_
 simp +decide [int,Prt.row]
 refine zah (by rfl) (by rfl) h2 (by simp [int]) ?_
 simp +decide [int,Prt.row]
 refine zah (by rfl) (by rfl) h3 (by simp [int]) ?_
 simp +decide [int,Prt.row]
 refine zah (by rfl) (by rfl) ho (by simp [int,ints]) ?_
 simp +decide [int,Prt.row,cmpP]
def cmpA:List Prt→List Prt→Int
 | [],[]=>0
 | [],_::_=>-1
 | _::_,[]=>1
 | a::l,b::m=>if cmpP a b=0 then cmpA l m else cmpP a b
theorem zz7 : ∀ {a b:List Prt},decide (cmpA a b<0)=zbu a b
 | [],[]=>rfl
 | [],_::_=>rfl
 | _::_,[]=>rfl
 | a::l,b::m=>by
  unfold cmpA zbu;by_cases h:a=b
  ·rw [if_pos (zva.2 h),if_pos h];exact zz7
  ·rw [if_neg (fun h'=>h (zva.1 h')),if_neg h];exact yah
theorem z5o {a b:List Prt} {k:Nat} (h:k<a.length) (h':k<b.length):cmpA (a.drop k) (b.drop k)=if cmpP a[k] b[k]=0 then cmpA (a.drop (k+1)) (b.drop (k+1)) else cmpP a[k] b[k]:=by
 rw [List.drop_eq_getElem_cons h,List.drop_eq_getElem_cons h'];rfl
theorem zx4 (a b:List Prt) (ha:a.length<2^40) (hb:b.length<2^40) :
  za2 Tryz.prog 64 [zae a,zae b,.fn 65 []] (int (cmpA a b)):=by
 refine zab mixed Tryz.func64 rfl call_64 ?_
 simp +decide [Tryz.f64,int,zae]
 refine zaf mixed (fun k:Nat=>{n:=39,next:=0,slots:=[(0,.d (zae a)),(1,.d (zae b)),(2,.d (.fn 65 [])),(11,.d (zae a)),(12,.d (int a.length)),(13,.d (int k))],own:=[]})
  (fun k=>k≤a.length∧k≤b.length∧cmpA (a.drop k) (b.drop k)=cmpA a b) (fun k=>a.length-k) 0 (by simp) (by simp +decide [int,zae]) ?_
 intro k ⟨hk,hkb,hp⟩
 by_cases hlt:k<a.length
 case neg=>
  have:k=a.length:=by omega
  subst this;rw [List.drop_length] at hp;by_cases hb2:a.length<b.length
  ·have hb':(a.length:Int)<b.length:=by omega
   rw [List.drop_eq_getElem_cons hb2] at hp;simp +decide [int,zae,hb',← hp,cmpA]
  ·have hb':¬(a.length:Int)<b.length:=by omega
   rw [show a.length=b.length by omega,List.drop_length] at hp
   simp +decide [int,zae,hb',← hp,cmpA]
 have hlt':(k:Int)<a.length:=by omega
 obtain ⟨x,ex⟩ : ∃ x,a[k]=x:=⟨_,rfl⟩
 have e1:a[k]?=some x:=by rw [List.getElem?_eq_getElem hlt,ex]
 by_cases hlb:k<b.length
 case neg=>
  have hlb':(b.length:Int)≤k:=by omega
  have:b.drop k=[]:=List.drop_eq_nil_of_le (by omega)
  rw [this,List.drop_eq_getElem_cons hlt] at hp;simp +decide [int,zae,Prt.row,hlt,hlt',e1,ex,hlb',← hp,cmpA,I64]
 have hlb':¬(b.length:Int)≤k:=by omega
 obtain ⟨y,ey⟩ : ∃ y,b[k]=y:=⟨_,rfl⟩
 have e2:b[k]?=some y:=by rw [List.getElem?_eq_getElem hlb,ey]
 rw [z5o hlt hlb,ex,ey] at hp
 simp +decide [int,zae,Prt.row,hlt,hlt',hlb,e1,ex,e2,ey,hlb',I64]
 refine zam.pure (by rfl) (z2c x y) (by simp [Prt.row,int]) ?_
 by_cases hx:cmpP x y=0
 ·rw [if_pos hx] at hp
  simp +decide [int,zae,Prt.row,hx,I64];exact ⟨⟨by omega,by omega⟩,k+1,⟨hlt,hlb,hp⟩,by omega,by omega⟩
 ·rw [if_neg hx] at hp
  simp +decide [int,zae,Prt.row,hx,I64,← hp]
theorem yai (a b:List Prt) (ha:a.length<2^40) (hb:b.length<2^40):za2 Tryz.prog 30 [anaD a,anaD b] (.bool (zbu a b)):=by
 refine zab mixed Tryz.func30 rfl call_30 ?_
 simp +decide [Tryz.f30,anaD,zae]
 refine zam.pure (by rfl) (zx4 a b ha hb) (by simp [zae,int]) ?_
 simp +decide [int]
 exact zz7
theorem yaj (inv:List Phon) (s:Int):za2 Tryz.prog 91 [int s,.ptr [invD inv]] (.bool (!zdj inv s)):=by
 refine zab mixed Tryz.func91 rfl call_91 ?_
 simp +decide [Tryz.f91,int]
 refine zam.pure (by rfl) (zq2 inv s) (by simp [invD,int]) ?_
 simp +decide [int]
def badW (inv:List Phon) (w:List Int):Int:=match w.findIdx? (fun s=>!zdj inv s) with
 | some k=>k
 | none=>-1
theorem z5p (inv:List Phon) (w:List Int) (hl:w.length<2^40):za2 Tryz.prog 137 [ints w,.fn 91 [.ptr [invD inv]]] (int (badW inv w)):=by
 refine zab mixed Tryz.func137 rfl call_137 ?_
 simp +decide [Tryz.f137,ints]
 refine zaf mixed (fun k:Nat=>{n:=19,next:=0,slots:=[(0,.d (ints w)),(1,.d (.fn 91 [.ptr [invD inv]])),(6,.d (ints w)),(7,.d (.int .i64 w.length)),(8,.d (.int .i64 k))],own:=[]})
  (fun k=>k≤w.length∧∀ e∈w.take k,zdj inv e=true) (fun k=>w.length-k) 0 (by simp) (by simp [ints]) ?_
 intro k ⟨hk,hp⟩
 by_cases hlt:k<w.length
 ·have hlt':(k:Int)<w.length:=by omega
  obtain ⟨e,ee⟩ : ∃ e,w[k]=e:=⟨_,rfl⟩;have e1:w[k]?=some e:=by rw [List.getElem?_eq_getElem hlt,ee]
  simp +decide [ints,int,e1,ee,hlt,hlt',I64];refine zam.pure (by rfl) (yaj inv e) (by simp [int,invD]) ?_
  cases he:zdj inv e with
  | false=>
   have:w.findIdx? (fun s=>!zdj inv s)=some k:=by
    rw [List.findIdx?_eq_some_iff_getElem];refine ⟨hlt,by rw [ee,he];rfl,fun j hj=>?_⟩
    have:=hp w[j] (by rw [List.mem_take_iff_getElem];exact ⟨j,by omega,rfl⟩)
    rw [this];decide
   simp +decide [ints,int,he,I64,badW,this]
  | true=>
   simp +decide [ints,int,he,I64];refine ⟨⟨by omega,by omega⟩,k+1,⟨hlt,?_⟩,by omega,by omega⟩
   intro x hx;rw [List.take_succ_eq_append_getElem hlt] at hx;rcases List.mem_append.1 hx with h | h
   ·exact hp x h
   ·rw [List.mem_singleton] at h;rw [h,ee];exact he
 ·have:k=w.length:=by omega
  subst this;have:w.findIdx? (fun s=>!zdj inv s)=none:=by
   rw [List.findIdx?_eq_none_iff];intro x hx;rw [hp x (by simpa using hx)];rfl
  simp +decide [ints,int,badW,this]
theorem ycw (inv:List Phon) (w:List Int) (hw:w.length<2^40):za2 Tryz.prog 48 [.agg [invD inv],ints w] (int (zho inv w)):=by
 have hI:=z5p inv w hw
 refine zab mixed Tryz.func48 rfl call_48 ?_
 obtain ⟨R,hR⟩ : ∃ R,zho inv w=R:=⟨_,rfl⟩
 rw [hR]
 unfold zho at hR
 have hC:za2 Tryz.prog 90 [ints w,.fn 91 [.ptr [invD inv]]] (.bool (decide (0≤badW inv w))):=by
  refine zab mixed Tryz.func90 rfl call_90 ?_
  simp +decide [Tryz.f90,ints];refine zam.pure (by rfl) hI (by simp [int,invD]) ?_
  simp +decide [int]
 by_cases h0:w.length=0
 ·rw [if_pos h0] at hR
  subst hR;have h0':(w.length:Int)=0:=by omega
  simp +decide [Tryz.f48,int,ints,h0,h0'];done
 rw [if_neg h0] at hR
 have h0':¬(w.length:Int)=0:=by omega
 by_cases h1:24<w.length
 ·rw [if_pos h1] at hR
  subst hR;have h1':(24:Int)<w.length:=by omega
  simp +decide [Tryz.f48,int,ints,h0,h0',h1,h1'];done
 rw [if_neg h1] at hR
 have h1':¬(24:Int)<w.length:=by omega
 simp +decide [Tryz.f48,int,ints,h0,h0',h1,h1']
 refine zam.pure (by rfl) hC (by simp [D.scalar]) ?_
 by_cases hall:(w.all fun x=>zdj inv x)=true
 ·rw [if_pos hall] at hR
  have hb:badW inv w = -1:=by
   unfold badW;have:w.findIdx? (fun s=>!zdj inv s)=none:=by
    rw [List.findIdx?_eq_none_iff];intro x hx;rw [List.all_eq_true.1 hall x hx];rfl
   rw [this]
  simp +decide [int,hb,← hR]
 ·rw [if_neg hall] at hR
  have hb:0≤badW inv w:=by
   unfold badW;cases h:w.findIdx? (fun s=>!zdj inv s) with
   | none=>
    rw [List.findIdx?_eq_none_iff] at h;exact absurd (List.all_eq_true.2 fun x hx=>by simpa using h x hx) hall
   | some k=>simp
  simp +decide [int,hb,← hR]
end Go.V

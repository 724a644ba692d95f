/- Contracts and plain laws of this seat: part MB. It needs no conditions. -/
import Derived.Test.YtgglheknmlfghaaGreatMA
import Derived.Test.YtgglheknmlfghaaGreatM6
set_option linter.unusedVariables false
set_option linter.unusedSimpArgs false
set_option linter.unusedSectionVars false
set_option maxRecDepth 100000
namespace Go.V
open Go Go.Proofs
end Go.V
namespace Go.V
open Go Go.Proofs
def allT (g:Lang) (w:List Int):List (List Prt):=(zby g w).flatMap fun a=>sprT g a.length a 0
theorem z5x (g:Lang) : ∀ (l:List (List Prt)) (f:List Prt→List Int) (z:AllS×Bool),sF (allF g) z (l.map fun b=>(b,f b))=zdu addF z (l.flatMap fun a=>sprT g a.length a 0)
 | [],f,z=>rfl
 | a::l,f,z=>by
  rw [List.map_cons,zop,List.flatMap_cons,zfn];by_cases h:z.2=false
  ·rw [if_pos h,zgg h,zgg h]
  ·rw [if_neg h,z5x g l f]
   have h':z.2=true:=by simpa using h
   unfold allF;obtain ⟨x,b⟩:=z;simp only at h'
   subst h';rfl
theorem z0f : ∀ (l:List (List Prt)) (out:List (List Prt)) (b:Bool),out.length+l.length≤200→zdu addF ((out,b),true) l=((l.foldl (fun o a=>insL (fun x=>zbu a x) a o) out,b),true)
 | [],_,_,_=>rfl
 | a::l,out,b,h=>by
  rw [List.length_cons] at h;have e:addF (out,b) a=((insL (fun x=>zbu a x) a out,b),true):=by
   unfold addF;rw [if_neg (by show ¬ out.length=200;omega)]
  rw [ze0,if_neg (by simp),List.foldl_cons,e]
  exact z0f l _ b (by rw [zkv];omega)
theorem zvm : ∀ (l:List (List Prt)) (out:List (List Prt)) (b:Bool),out.length≤200→200<out.length+l.length→(zdu addF ((out,b),true) l).1.2=true
 | [],out,b,h,h'=>by rw [List.length_nil] at h';omega
 | a::l,out,b,h,h'=>by
  rw [List.length_cons] at h';rw [ze0,if_neg (by simp)]
  by_cases e:out.length=200
  ·have e1:addF (out,b) a=((out,true),false):=by unfold addF;rw [if_pos e]
   rw [e1,zgg rfl]
  ·have e1:addF (out,b) a=((insL (fun x=>zbu a x) a out,b),true):=by unfold addF;rw [if_neg e]
   rw [e1];exact zvm l _ b (by rw [zkv];omega) (by rw [zkv];omega)
def insT (l:List (List Prt)):List (List Prt):=l.foldl (fun o a=>insL (fun x=>zbu a x) a o) []
theorem zyb (g:Lang) (w:List Int):allE g w=if zho g.inv w≠0 then ([],zho g.inv w) else if 200<(allT g w).length then ([],11) else (insT (allT g w),0):=by
 unfold allE z5w
 rw [z5x,show (zby g w).flatMap (fun a=>sprT g a.length a 0)=allT g w from rfl]
 by_cases h0:zho g.inv w≠0
 ·rw [if_pos h0,if_pos h0]
 rw [if_neg h0,if_neg h0]
 by_cases h:200<(allT g w).length
 ·rw [if_pos h,if_pos (zvm _ _ _ (by simp) (by simpa using h))]
 ·rw [if_neg h,z0f _ _ _ (by simp;omega),if_neg (by simp)]
  rfl
theorem zkw {a b:Prt}:zgw a b=true↔a.entry<b.entry∨(a.entry=b.entry∧(a.alt<b.alt∨(a.alt=b.alt∧a.sense<b.sense))):=by
 unfold zgw
 by_cases h1:a.entry=b.entry
 ·rw [if_pos h1]
  by_cases h2:a.alt=b.alt
  ·rw [if_pos h2,decide_eq_true_eq];omega
  ·rw [if_neg h2,decide_eq_true_eq];omega
 ·rw [if_neg h1,decide_eq_true_eq];omega
theorem Prt.ext' {a b:Prt} (h1:a.entry=b.entry) (h2:a.alt=b.alt) (h3:a.sense=b.sense):a=b:=by
 cases a;cases b;simp only at h1 h2 h3;rw [h1,h2,h3]
theorem z5y (a:Prt):zgw a a=false:=by
 cases h:zgw a a with
 | false=>rfl
 | true=>rw [zkw] at h;omega
theorem zyc {a b c:Prt} (h1:zgw a b=true) (h2:zgw b c=true):zgw a c=true:=by
 rw [zkw] at h1 h2 ⊢;omega
theorem z5z {a b:Prt} (h:a≠b):zgw a b=true∨zgw b a=true:=by
 rw [zkw,zkw]
 have:¬(a.entry=b.entry∧a.alt=b.alt∧a.sense=b.sense):=fun ⟨h1,h2,h3⟩=>h (Prt.ext' h1 h2 h3)
 omega
theorem zlx {a b:Prt} {l m:List Prt}:zbu (a::l) (b::m)=if a=b then zbu l m else zgw a b:=rfl
theorem zot : ∀ {a b c:List Prt},zbu a b=true→zbu b c=true→zbu a c=true
 | [],[],_,h,_=>by simp [zbu] at h
 | [],_::_,[],_,h=>by simp [zbu] at h
 | [],_::_,_::_,_,_=>rfl
 | _::_,[],_,h,_=>by simp [zbu] at h
 | _::_,_::_,[],_,h=>by simp [zbu] at h
 | a::l,b::m,c::n,h1,h2=>by
  rw [zlx] at h1 h2 ⊢;by_cases e1:a=b
  ·subst e1
   rw [if_pos rfl] at h1;by_cases e2:a=c
   ·subst e2
    rw [if_pos rfl] at h2 ⊢;exact zot h1 h2
   ·rw [if_neg e2] at h2 ⊢;exact h2
  ·rw [if_neg e1] at h1
   by_cases e2:b=c
   ·subst e2
    rw [if_neg e1];exact h1
   ·rw [if_neg e2] at h2
    have h3:=zyc h1 h2;by_cases e3:a=c
    ·subst e3;rw [z5y] at h3;cases h3
    ·rw [if_neg e3];exact h3
theorem zvn : ∀ {a b:List Prt},a≠b→zbu a b=true∨zbu b a=true
 | [],[],h=>absurd rfl h
 | [],_::_,_=>.inl rfl
 | _::_,[],_=>.inr rfl
 | a::l,b::m,h=>by
  rw [zlx,zlx];by_cases e:a=b
  ·subst e
   rw [if_pos rfl,if_pos rfl];exact zvn fun e=>h (by rw [e])
  ·rw [if_neg e,if_neg (fun e'=>e e'.symm)]
   exact z5z e
section
variable {α:Type}
theorem zvo {lt:α→Bool} {l:List α} : ∀ n,n≤l.length→(∀ i,posL lt l n≤i→i<n→∀ h:i<l.length,lt l[i]=true)∧(∀ h:0<posL lt l n,∃ h':posL lt l n-1<l.length,lt l[posL lt l n-1]=false)
 | 0,_=>⟨fun i _ h=>absurd h (by omega),fun h=>absurd h (by simp [posL])⟩
 | n+1,hn=>by
  have ih:=zvo (lt:=lt) (l:=l) n (by omega)
  have e1:l[n]?=some l[n]:=List.getElem?_eq_getElem (by omega)
  by_cases c:lt l[n]=true
  ·have e2:posL lt l (n+1)=posL lt l n:=by rw [posL,e1];simp only;rw [if_pos c]
   rw [e2];refine ⟨fun i h1 h2 h=>?_,ih.2⟩
   by_cases e:i=n
   ·subst e;exact c
   ·exact ih.1 i h1 (by omega) h
  ·have e2:posL lt l (n+1)=n+1:=by rw [posL,e1];simp only;rw [if_neg c]
   rw [e2];refine ⟨fun i h1 h2 h=>by omega,fun _=>⟨by omega,?_⟩⟩
   show lt l[n+1-1]=false
   simpa using c
theorem zyd {lt:α→α→Bool} (tr : ∀ {a b c},lt a b=true→lt b c=true→lt a c=true) (tot : ∀ {a b},a≠b→lt a b=true∨lt b a=true) {x:α} {l:List α}
  (hs:l.Pairwise fun a b=>lt a b=true) (hx:x∉l):(insL (fun o=>lt x o) x l).Pairwise fun a b=>lt a b=true:=by
 have hsp:=zvo (lt:=fun o=>lt x o) (l:=l) l.length (Nat.le_refl _)
 have hle:=zx8 (fun o=>lt x o) l l.length
 unfold insL
 generalize posL (fun o=>lt x o) l l.length=p at hsp hle
 have hup : ∀ b∈l.drop p,lt x b=true:=by
  intro b hb;obtain ⟨i,hi,e⟩:=List.mem_iff_getElem.1 hb;rw [List.length_drop] at hi;rw [List.getElem_drop] at e;have:=hsp.1 (p+i) (by omega) (by omega) (by omega)
  rw [← e];exact this
 have hdn : ∀ a∈l.take p,lt a x=true:=by
  intro a ha;obtain ⟨i,hi,e⟩:=List.mem_take_iff_getElem.1 ha;have hp:0<p:=by omega
  obtain ⟨h',hf⟩:=hsp.2 hp;have hne:l[p-1]≠x:=fun e=>hx (e▸List.getElem_mem h')
  have hl:lt l[p-1] x=true:=by
   rcases tot hne with h | h
   ·exact h
   ·rw [h] at hf;cases hf
  rw [← e];by_cases hi2:i=p-1
  ·subst hi2;exact hl
  ·exact tr (List.pairwise_iff_getElem.1 hs i (p-1) (by omega) h' (by omega)) hl
 rw [List.pairwise_append]
 refine ⟨hs.sublist (List.take_sublist _ _),List.pairwise_cons.2 ⟨hup,hs.sublist (List.drop_sublist _ _)⟩,fun a ha b hb=>?_⟩
 rcases List.mem_cons.1 hb with e | e
 ·rw [e];exact hdn a ha
 ·exact tr (hdn a ha) (hup b e)
end
theorem z0g {a:List Prt} : ∀ (l out:List (List Prt)),a∈l.foldl (fun o a=>insL (fun x=>zbu a x) a o) out↔a∈l∨a∈out
 | [],out=>by simp
 | b::l,out=>by
  rw [List.foldl_cons,z0g l,zfm,List.mem_cons];constructor
  ·rintro (h | h | h)
   ·exact .inl (.inr h)
   ·exact .inl (.inl h)
   ·exact .inr h
  ·rintro ((h | h) | h)
   ·exact .inr (.inl h)
   ·exact .inl h
   ·exact .inr (.inr h)
theorem zs9 {a:List Prt} {l:List (List Prt)}:a∈insT l↔a∈l:=by unfold insT;rw [z0g];simp
theorem zou : ∀ (l out:List (List Prt)),(out.Pairwise fun a b=>zbu a b=true)→l.Nodup→(∀ a∈l,a∉out)→(l.foldl (fun o a=>insL (fun x=>zbu a x) a o) out).Pairwise fun a b=>zbu a b=true
 | [],out,h,_,_=>h
 | b::l,out,h,hn,hd=>by
  rw [List.nodup_cons] at hn;rw [List.foldl_cons];refine zou l _ (zyd (lt:=zbu) zot zvn h (hd b (List.mem_cons_self ..))) hn.2 fun a ha hm=>?_
  rcases zfm.1 hm with e | e
  ·subst e;exact hn.1 ha
  ·exact hd a (List.mem_cons_of_mem _ ha) e
theorem zye {l:List (List Prt)} (h:l.Nodup):(insT l).Pairwise fun a b=>zbu a b=true:=zou l [] List.Pairwise.nil h fun _ _ h=>by cases h
theorem z0h : ∀ (l out:List (List Prt)),(l.foldl (fun o a=>insL (fun x=>zbu a x) a o) out).length=out.length+l.length
 | [],out=>rfl
 | b::l,out=>by rw [List.foldl_cons,z0h l,zkv,List.length_cons];omega
theorem yaq (l:List (List Prt)):(insT l).length=l.length:=by unfold insT;rw [z0h];simp
def sprL (g:Lang):List Prt→List (List Prt)
 | []=>[[]]
 | p::ps=>(List.range (zcf g.lex p.entry).length).flatMap fun (k:Nat)=>(sprL g ps).map fun t=>(⟨p.entry,p.alt,k⟩:Prt)::t
theorem z6a (g:Lang) : ∀ (f:Nat) (p:List Prt) (i:Nat),i+f=p.length→sprT g f p i=(sprL g (p.drop i)).map fun t=>p.take i++t
 | 0,p,i,h=>by
  rw [sprT,List.drop_eq_nil_of_le (by omega),List.take_of_length_le (by omega)]
  simp [sprL]
 | f+1,p,i,h=>by
  have hi:i<p.length:=by omega
  have eg:p.getD i ⟨0,0,0⟩=p[i]:=by rw [List.getD_eq_getElem?_getD,List.getElem?_eq_getElem hi];rfl
  rw [sprT,eg,List.drop_eq_getElem_cons hi,sprL,List.map_flatMap];refine zcn fun k _=>?_
  rw [z6a g f _ (i+1) (by rw [List.length_set];omega),List.map_map]
  have e1:(p.set i ⟨p[i].entry,p[i].alt,(k:Int)⟩).drop (i+1)=p.drop (i+1):=by rw [List.drop_set];rw [if_pos (by omega)]
  have e2:(p.set i ⟨p[i].entry,p[i].alt,(k:Int)⟩).take (i+1)=p.take i++[⟨p[i].entry,p[i].alt,(k:Int)⟩]:=by
   rw [List.take_succ_eq_append_getElem (by rw [List.length_set];exact hi),List.getElem_set_self,List.take_set_of_le (by omega)]
  rw [e1,e2];congr 1
  funext t
  simp
theorem yar (g:Lang) (a:List Prt):sprT g a.length a 0=sprL g a:=by
 rw [z6a g a.length a 0 (by omega)]
 simp
def Choice (g:Lang):List Prt→List Prt→Prop
 | [],[]=>True
 | p::ps,q::qs=>(q.entry=p.entry∧q.alt=p.alt∧0≤q.sense∧q.sense<(zcf g.lex p.entry).length)∧Choice g ps qs
 | _,_=>False
theorem ziu (g:Lang) : ∀ {a q:List Prt},q∈sprL g a↔Choice g a q
 | [],q=>by
  rw [sprL,List.mem_singleton];cases q with
  | nil=>simp [Choice]
  | cons _ _=>simp [Choice]
 | p::ps,q=>by
  rw [sprL,List.mem_flatMap];constructor
  ·rintro ⟨k,hk,h⟩
   obtain ⟨t,ht,rfl⟩:=List.mem_map.1 h;have:=List.mem_range.1 hk
   exact ⟨⟨rfl,rfl,by show (0:Int)≤(k:Int);omega,by show (k:Int)<_;omega⟩,(ziu g).1 ht⟩
  ·intro h
   cases q with
   | nil=>simp [Choice] at h
   | cons x t=>
    obtain ⟨⟨h1,h2,h3,h4⟩,h5⟩:=h;refine ⟨x.sense.toNat,List.mem_range.2 (by omega),List.mem_map.2 ⟨t,(ziu g).2 h5,?_⟩⟩
    congr 1
    exact Prt.ext' h1.symm h2.symm (by show ((x.sense.toNat:Nat):Int)=x.sense;omega)
theorem zrr (g:Lang) : ∀ a:List Prt,(sprL g a).Nodup
 | []=>by rw [sprL];simp
 | p::ps=>by
  have ih:=zrr g ps;rw [sprL];unfold List.Nodup at ih ⊢;rw [List.pairwise_flatMap];refine ⟨fun k _=>?_,?_⟩
  ·rw [List.pairwise_map]
   exact ih.imp fun h e=>h (List.cons.inj e).2
  ·refine List.Pairwise.imp ?_ List.pairwise_lt_range
   intro i j hij x hx y hy e;obtain ⟨t,_,rfl⟩:=List.mem_map.1 hx;obtain ⟨u,_,rfl⟩:=List.mem_map.1 hy;have:=(List.cons.inj e).1
   have:=congrArg Prt.sense this
   simp only at this
   omega
def bare (a:List Prt):List Prt:=a.map fun p=>⟨p.entry,p.alt,0⟩
theorem ze8 {g:Lang} : ∀ {a q:List Prt},Choice g a q→bare q=bare a
 | [],[],_=>rfl
 | [],_::_,h=>h.elim
 | _::_,[],h=>h.elim
 | p::ps,q::qs,h=>by
  obtain ⟨⟨h1,h2,_⟩,h5⟩:=h;have:=ze8 h5
  unfold bare at this ⊢;rw [List.map_cons,List.map_cons,this,h1,h2]
theorem ycz {a:List Prt} (h : ∀ p∈a,p.sense=0):bare a=a:=by
 unfold bare
 conv=>rhs;rw [← List.map_id a]
 refine List.map_congr_left fun p hp=>?_
 exact Prt.ext' rfl rfl (h p hp).symm
end Go.V
namespace Go.V
open Go Go.Proofs
def zqh (g:Lang) (p:Prt):Prop:=∃ e∈g.lex,p.entry=e.id∧p.sense=0∧∃ alt:Nat,alt<e.forms.length∧p.alt=alt
theorem zqh.ok {g:Lang} (hg:LightF g) {p:Prt} (h:zqh g p) : ∃ e∈g.lex,∃ alt:Nat,alt<e.forms.length∧p=⟨e.id,alt,0⟩:=by
 obtain ⟨e,he,h1,h2,alt,h3,h4⟩:=h
 exact ⟨e,he,alt,h3,Prt.ext' h1 h4 h2⟩
theorem zta {g:Lang} {w:List Int} : ∀ (f:Nat) (a b:List Prt),b∈furF g w f a→∃ t,b=a++t∧t≠[]∧t.length≤f∧(∀ p∈t,zqh g p)∧licB g w b=true
 | 0,a,b,h=>by simp [furF] at h
 | f+1,a,b,h=>by
  unfold furF at h;rw [List.mem_flatMap] at h;obtain ⟨e,he,h⟩:=h;split at h
  ·rw [List.mem_flatMap] at h
   obtain ⟨alt,ha,h⟩:=h;have ha:=List.mem_range.1 ha;have hp:zqh g ⟨e.id,(alt:Int),0⟩:=⟨e,he,rfl,rfl,alt,ha,rfl⟩
   split at h
   ·cases h
   ·rcases List.mem_append.1 h with h | h
    ·split at h
     ·rename_i hl
      rw [List.mem_singleton] at h;subst h;exact ⟨[⟨e.id,(alt:Int),0⟩],rfl,by simp,by simp,(by intro p hp';rw [List.mem_singleton] at hp';rw [hp'];exact hp),hl⟩
     ·cases h
    ·obtain ⟨t,rfl,h1,h2,h3,h4⟩:=zta f _ b h
     exact ⟨⟨e.id,(alt:Int),0⟩::t,by simp,by simp,by simp;omega,(fun p hm=>(List.mem_cons.1 hm).elim (fun e=>e▸hp) (h3 p)),h4⟩
  ·cases h
theorem z6b {g:Lang} (hg:LightF g):g.lex.Pairwise fun e e'=>e.id<e'.id:=by
 rw [List.pairwise_iff_getElem]
 intro i j hi hj hij
 have:=lex_lt hg.lex.up (j-i-1) i (by omega)
 simpa [show i+(j-i-1)+1=j by omega] using this
theorem ziv {g:Lang} {w:List Int} {f:Nat} {a x:List Prt} {p:Prt} (h:x∈(if zjt g w<(zb3 g.lex (a++[p])).length then [] else (if licB g w (a++[p])=true then [a++[p]] else [])++furF g w f (a++[p]))) : ∃ t,x=a++p::t:=by
 split at h
 ·cases h
 ·rcases List.mem_append.1 h with h | h
  ·split at h
   ·rw [List.mem_singleton] at h;exact ⟨[],h⟩
   ·cases h
  ·obtain ⟨t,e,_⟩:=zta f _ x h
   exact ⟨t,by rw [e];simp⟩
theorem zvp {g:Lang} (hg:LightF g) (w:List Int) : ∀ (f:Nat) (a:List Prt),(furF g w f a).Nodup
 | 0,_=>by simp [furF]
 | f+1,a=>by
  unfold furF List.Nodup;rw [List.pairwise_flatMap];refine ⟨fun e he=>?_,?_⟩
  ·split
   ·rw [List.pairwise_flatMap]
    refine ⟨fun alt ha=>?_,?_⟩
    ·split
     ·exact List.Pairwise.nil
     ·rw [List.pairwise_append]
      refine ⟨by split <;> simp,zvp hg w f _,fun x hx y hy e=>?_⟩
      subst e;obtain ⟨t,e,h1,_⟩:=zta f _ x hy;split at hx
      ·rw [List.mem_singleton] at hx
       rw [hx] at e;have:=congrArg List.length e
       simp only [List.length_append,List.length_cons,List.length_nil] at this;exact h1 (List.length_eq_zero_iff.1 (by omega))
      ·cases hx
    ·refine List.Pairwise.imp ?_ List.pairwise_lt_range
     intro i j hij x hx y hy e;obtain ⟨t,rfl⟩:=ziv hx;obtain ⟨u,rfl⟩:=ziv hy;have:=(List.cons.inj (List.append_cancel_left e)).1
     have:=congrArg Prt.alt this
     simp only at this
     omega
   ·exact List.Pairwise.nil
  ·refine List.Pairwise.imp ?_ (z6b hg)
   intro e e' hlt x hx y hy heq;split at hx
   ·split at hy
    ·rw [List.mem_flatMap] at hx hy
     obtain ⟨_,_,hx⟩:=hx;obtain ⟨_,_,hy⟩:=hy;obtain ⟨t,rfl⟩:=ziv hx;obtain ⟨u,rfl⟩:=ziv hy;have:=(List.cons.inj (List.append_cancel_left heq)).1
     have:=congrArg Prt.entry this
     simp only at this
     omega
    ·cases hy
   ·cases hx
structure PlainF (g:Lang) (w:List Int) (b:List Prt):Prop where
 pos:b≠[]
 len:b.length≤4
 parts : ∀ p∈b,zqh g p
 lic:licE g w b=true
theorem ze9 {g:Lang} {w:List Int} {b:List Prt} (h:b∈zby g w):PlainF g w b:=by
 unfold zby at h
 split at h
 ·cases h
 ·obtain ⟨t,rfl,h1,h2,h3,h4⟩:=zta 4 [] b h
  unfold licB at h4;rw [Bool.and_eq_true] at h4;exact ⟨h1,h2,h3,h4.2⟩
theorem zyf {g:Lang} (hg:LightF g) (w:List Int):(zby g w).Nodup:=by
 unfold zby
 split
 ·simp
 ·exact zvp hg w 4 []
theorem PlainF.bare {g:Lang} {w:List Int} {b:List Prt} (h:PlainF g w b):bare b=b:=ycz fun p hp=>by obtain ⟨_,_,_,h2,_⟩:=h.parts p hp;exact h2
theorem ztb (g:Lang) (w:List Int):allT g w=(zby g w).flatMap (sprL g):=by
 unfold allT
 refine zcn fun a _=>?_
 rw [yar]
theorem ztc {g:Lang} {w:List Int} {q:List Prt}:q∈allT g w↔∃ a∈zby g w,Choice g a q:=by
 rw [ztb,List.mem_flatMap]
 constructor
 ·rintro ⟨a,h1,h2⟩;exact ⟨a,h1,(ziu g).1 h2⟩
 ·rintro ⟨a,h1,h2⟩;exact ⟨a,h1,(ziu g).2 h2⟩
theorem z2h {g:Lang} (hg:LightF g) (w:List Int):(allT g w).Nodup:=by
 rw [ztb]
 unfold List.Nodup
 rw [List.pairwise_flatMap]
 refine ⟨fun a _=>zrr g a,List.Pairwise.imp_of_mem ?_ (zyf hg w)⟩
 intro a b ha hb hne x hx y hy e
 subst e
 have h1:=ze8 ((ziu g).1 hx)
 have h2:=ze8 ((ziu g).1 hy)
 rw [(ze9 ha).bare] at h1
 rw [(ze9 hb).bare] at h2
 exact hne (h1.symm.trans h2)
theorem zly {g:Lang} : ∀ {a q:List Prt},Choice g a q→q.length=a.length
 | [],[],_=>rfl
 | [],_::_,h=>h.elim
 | _::_,[],h=>h.elim
 | p::ps,q::qs,h=>by rw [List.length_cons,List.length_cons,zly h.2]
theorem zmx (l:List Ent) (a:List Prt):zba l (bare a)=zba l a:=by
 unfold zba bare
 rw [List.flatMap_map]
 rfl
theorem zvq (l:List Ent) (a:List Prt):zb3 l (bare a)=zb3 l a:=by
 unfold zb3 bare
 rw [List.flatMap_map]
 rfl
theorem zov {g:Lang} {a q:List Prt} (h:Choice g a q):zb3 g.lex q=zb3 g.lex a:=by rw [← zvq,ze8 h,zvq]
theorem zqi {g:Lang} {a q:List Prt} (h:Choice g a q):zba g.lex q=zba g.lex a:=by rw [← zmx,ze8 h,zmx]
theorem zmy {g:Lang} (hg:LightF g) : ∀ {a q:List Prt},Choice g a q→(∀ p∈a,zqh g p)→∀ p∈q,zoc g.lex p=0
 | [],[],_,_,p,hp=>by cases hp
 | [],_::_,h,_,_,_=>h.elim
 | _::_,[],h,_,_,_=>h.elim
 | p::ps,q::qs,h,hv,x,hx=>by
  rcases List.mem_cons.1 hx with e | hx
  ·subst e
   obtain ⟨⟨h1,h2,h3,h4⟩,_⟩:=h;obtain ⟨e,he,alt,ha,rfl⟩:=(hv p (List.mem_cons_self ..)).ok hg;simp only at h1 h2 h4
   have hf:=zhv hg he ha;have hf':zur g.lex x=(e,e.forms[alt]?.getD [],true):=by
    obtain ⟨x1,x2,x3⟩:=x;simp only at h1 h2
    subst h1;subst h2;exact hf
   unfold zoc;rw [hf',h1,zsw hg.lex.up he];simp only [Bool.true_eq_false,if_false];rw [if_neg (by omega)]
  ·exact zmy hg h.2 (fun y hy=>hv y (List.mem_cons_of_mem _ hy)) x hx
theorem zyg {g:Lang} (hg:LightF g) {a:List Prt} (h : ∀ p∈a,zqh g p) : ∀ p∈a,zoc g.lex p=0:=by
 intro p hp
 obtain ⟨e,he,alt,ha,rfl⟩:=(h p hp).ok hg
 exact zu8 hg he ha
theorem zyh {g:Lang} (hg:LightF g) {a q:List Prt} (h:Choice g a q) (hv : ∀ p∈a,zqh g p):zqe g q=zqe g a:=by
 have h1:=zg0 (zmy hg h hv)
 have h2:=zg0 (zyg hg hv)
 unfold zqe zuv
 rw [zly h,zov h,zqi h,h1,h2]
theorem z6c {g:Lang} (hg:LightF g) {w:List Int} {q:List Prt} (h:q∈allT g w):(zqe g q).2=0∧(zqe g q).1=w∧q.length≤4:=by
 obtain ⟨a,ha,hc⟩:=ztc.1 h
 have hp:=ze9 ha
 rw [zyh hg hc hp.parts,zly hc]
 have:=hp.lic
 unfold licE at this
 rw [decide_eq_true_eq] at this
 exact ⟨this.1,this.2,hp.len⟩
theorem zow {g:Lang} (hg:LightF g) : ∀ {a:List Prt},(∀ p∈a,zqh g p)→Choice g a a
 | [],_=>trivial
 | p::ps,h=>by
  refine ⟨?_,zow hg fun x hx=>h x (List.mem_cons_of_mem _ hx)⟩
  obtain ⟨e,he,alt,ha,rfl⟩:=(h p (List.mem_cons_self ..)).ok hg;have hs:0<(zcf g.lex e.id).length:=List.length_pos_iff.2 (hg.senses he)
  exact ⟨rfl,rfl,Int.le_refl _,by show (0:Int)<((zcf g.lex e.id).length:Int);omega⟩
theorem ztd {g:Lang} (hg:LightF g) : ∀ {a:List Prt},(∀ p∈a,zqh g p)→zbw (zb3 g.lex a)
 | [],_=>fun x hx=>by cases hx
 | p::ps,h=>by
  have ih:=ztd hg fun x hx=>h x (List.mem_cons_of_mem _ hx)
  obtain ⟨e,he,alt,ha,rfl⟩:=(h p (List.mem_cons_self ..)).ok hg;have:zb3 g.lex (⟨e.id,(alt:Int),0⟩::ps)=e.forms[alt]?.getD []++zb3 g.lex ps:=by
   unfold zb3;rw [List.flatMap_cons,zhv hg he ha];rfl
  rw [this];refine zbw.app ?_ ih
  rw [List.getElem?_eq_getElem ha];exact zz8 hg he (List.getElem_mem ha)
structure BasJ (x:BasS):Prop where
 seen : ∀ k∈x.1,∃ b∈x.2,keyS b=k
theorem zte (f:List Prt→List Int) : ∀ (l:List (List Prt)) (x:BasS),BasJ x→BasJ (sF basF (x,true) (l.map fun b=>(b,f b))).1 ∧
  (∀ b∈(sF basF (x,true) (l.map fun b=>(b,f b))).1.2,b∈x.2∨∃ a∈l,f a=b)∧(∀ b∈x.2,b∈(sF basF (x,true) (l.map fun b=>(b,f b))).1.2) ∧
  ∀ a∈l,∃ b∈(sF basF (x,true) (l.map fun b=>(b,f b))).1.2,keyS b=keyS (f a)
 | [],x,h=>⟨h,fun b hb=>.inl hb,fun b hb=>hb,fun a ha=>by cases ha⟩
 | a::l,x,h=>by
  rw [List.map_cons,zop,if_neg (by simp)]
  have hF:basF x a (f a)=((basF x a (f a)).1,true):=rfl
  rw [hF];by_cases hm:keyS (f a)∈x.1
  ·have e:(basF x a (f a)).1=x:=by unfold basF;rw [if_pos hm]
   rw [e];obtain ⟨i1,i2,i3,i4⟩:=zte f l x h;refine ⟨i1,fun b hb=>(i2 b hb).imp id fun ⟨c,hc,e⟩=>⟨c,List.mem_cons_of_mem _ hc,e⟩,i3,fun c hc=>?_⟩
   rcases List.mem_cons.1 hc with e2 | hc
   ·subst e2
    obtain ⟨b,hb,e3⟩:=h.seen _ hm;exact ⟨b,i3 b hb,e3⟩
   ·exact i4 c hc
  ·have e:(basF x a (f a)).1=(x.1++[keyS (f a)],insL (fun o=>z9m (f a) o) (f a) x.2):=by unfold basF;rw [if_neg hm]
   rw [e];obtain ⟨i1,i2,i3,i4⟩:=zte f l (x.1++[keyS (f a)],insL (fun o=>z9m (f a) o) (f a) x.2) ⟨fun k hk=>by
    rcases List.mem_append.1 hk with hk | hk
    ·obtain ⟨b,hb,e⟩:=h.seen k hk
     exact ⟨b,zfm.2 (.inr hb),e⟩
    ·rw [List.mem_singleton] at hk
     exact ⟨f a,zfm.2 (.inl rfl),hk.symm⟩⟩
   refine ⟨i1,fun b hb=>?_,fun b hb=>i3 b (zfm.2 (.inr hb)),fun c hc=>?_⟩
   ·rcases i2 b hb with hb | ⟨c,hc,e⟩
    ·rcases zfm.1 hb with e | hb
     ·exact .inr ⟨a,List.mem_cons_self ..,e.symm⟩
     ·exact .inl hb
    ·exact .inr ⟨c,List.mem_cons_of_mem _ hc,e⟩
   ·rcases List.mem_cons.1 hc with e2 | hc
    ·subst e2
     exact ⟨f c,i3 _ (zfm.2 (.inl rfl)),rfl⟩
    ·exact i4 c hc
theorem zrt {g:Lang} (hg:LightF g) {w:List Int} {b:List Int}:b∈z0c g w↔∃ a∈zby g w,zb3 g.lex a=b:=by
 obtain ⟨_,i2,_,i4⟩:=zte (zb3 g.lex) (zby g w) ([],[]) ⟨fun k hk=>by cases hk⟩
 unfold z0c
 constructor
 ·intro h
  rcases i2 b h with h | h
  ·cases h
  ·exact h
 ·rintro ⟨a,ha,rfl⟩
  obtain ⟨c,hc,e⟩:=i4 a ha;rcases i2 c hc with h | ⟨a2,ha2,e2⟩
  ·cases h
  ·have:=key_inj (by rw [← e2];exact ztd hg (ze9 ha2).parts) (ztd hg (ze9 ha).parts) e
   rw [← this];exact hc
end Go.V
namespace Go.V
open Go Go.Proofs
structure AllOk (g:Lang) (w:List Int) (L:List (List Prt)):Prop where
 few:L.length≤200
 form : ∀ q∈L,(zqe g q).2=0∧(zqe g q).1=w∧q.length≤4
 up:L.Pairwise fun a b=>zbu a b=true
 base : ∀ q∈L,zb3 g.lex q∈z0c g w
 all : ∀ b∈z0c g w,∃ q∈L,zb3 g.lex q=b
theorem yc0 {g:Lang} (hg:LightF g) (w:List Int):((allE g w).2≠0→(allE g w).1=[])∧((allE g w).2=0→AllOk g w (allE g w).1):=by
 rw [zyb]
 by_cases h0:zho g.inv w≠0
 ·rw [if_pos h0]
  exact ⟨fun _=>rfl,fun h=>absurd h h0⟩
 rw [if_neg h0]
 by_cases h:200<(allT g w).length
 ·rw [if_pos h]
  exact ⟨fun _=>rfl,fun h=>by cases h⟩
 rw [if_neg h]
 refine ⟨fun h=>absurd rfl h,fun _=>⟨?_,fun q hq=>z6c hg (zs9.1 hq),zye (z2h hg w),fun q hq=>?_,fun b hb=>?_⟩⟩
 ·show (insT (allT g w)).length≤200
  rw [yaq];omega
 ·obtain ⟨a,ha,hc⟩:=ztc.1 (zs9.1 hq)
  rw [zov hc];exact (zrt hg).2 ⟨a,ha,rfl⟩
 ·obtain ⟨a,ha,rfl⟩:=(zrt hg).1 hb
  exact ⟨a,zs9.2 (ztc.2 ⟨a,ha,zow hg (ze9 ha).parts⟩),rfl⟩
end Go.V
namespace Go.V
open Go Go.Proofs
structure FormF (g:Lang) (w:List Int) (a:List Prt):Prop where
 word:zho g.inv w=0
 plain:bare a∈zby g w
 choice:Choice g (bare a) a
end Go.V
namespace Go.V
open Go Go.Proofs
end Go.V

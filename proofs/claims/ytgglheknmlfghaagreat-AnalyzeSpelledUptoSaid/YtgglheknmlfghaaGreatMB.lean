/- Contracts and plain laws of this seat: part MB. It needs no conditions. -/
import Derived.Test.YtgglheknmlfghaaGreatMA
import Derived.Test.YtgglheknmlfghaaGreatM6
set_option linter.unusedVariables false
set_option linter.unusedSimpArgs false
set_option linter.unusedSectionVars false
set_option maxRecDepth 100000
namespace Go.V
open Go Go.Proofs
end Go.V
namespace Go.V
open Go Go.Proofs
def allT (g:Lang) (w:List Int):List (List Prt):=(zdg g w).flatMap fun a=>sprT g a.length a 0
theorem z6z (g:Lang) : ∀ (l:List (List Prt)) (f:List Prt→List Int) (z:AllS×Bool),sF (allF g) z (l.map fun b=>(b,f b))=zdv addF z (l.flatMap fun a=>sprT g a.length a 0)
 | [],f,z=>rfl
 | a::l,f,z=>by
  rw [List.map_cons,ztu,List.flatMap_cons,zfv];by_cases h:z.2=false
  ·rw [if_pos h,zgo h,zgo h]
  ·rw [if_neg h,z6z g l f]
   have h':z.2=true:=by simpa using h
   unfold allF;obtain ⟨x,b⟩:=z;simp only at h'
   subst h';rfl
theorem z0x : ∀ (l:List (List Prt)) (out:List (List Prt)) (b:Bool),out.length+l.length≤200→zdv addF ((out,b),true) l=((l.foldl (fun o a=>insL (fun x=>zdk a x) a o) out,b),true)
 | [],_,_,_=>rfl
 | a::l,out,b,h=>by
  rw [List.length_cons] at h;have e:addF (out,b) a=((insL (fun x=>zdk a x) a out,b),true):=by
   unfold addF;rw [if_neg (by show ¬ out.length=200;omega)]
  rw [ze8,if_neg (by simp),List.foldl_cons,e]
  exact z0x l _ b (by rw [zlb];omega)
theorem zv4 : ∀ (l:List (List Prt)) (out:List (List Prt)) (b:Bool),out.length≤200→200<out.length+l.length→(zdv addF ((out,b),true) l).1.2=true
 | [],out,b,h,h'=>by rw [List.length_nil] at h';omega
 | a::l,out,b,h,h'=>by
  rw [List.length_cons] at h';rw [ze8,if_neg (by simp)]
  by_cases e:out.length=200
  ·have e1:addF (out,b) a=((out,true),false):=by unfold addF;rw [if_pos e]
   rw [e1,zgo rfl]
  ·have e1:addF (out,b) a=((insL (fun x=>zdk a x) a out,b),true):=by unfold addF;rw [if_neg e]
   rw [e1];exact zv4 l _ b (by rw [zlb];omega) (by rw [zlb];omega)
def insT (l:List (List Prt)):List (List Prt):=l.foldl (fun o a=>insL (fun x=>zdk a x) a o) []
theorem z7a (g:Lang) (w:List Int):allE g w=if zg6 g.inv w≠0 then ([],zg6 g.inv w) else if 200<(allT g w).length then ([],11) else (insT (allT g w),0):=by
 unfold allE z6y
 rw [z6z,show (zdg g w).flatMap (fun a=>sprT g a.length a 0)=allT g w from rfl]
 by_cases h0:zg6 g.inv w≠0
 ·rw [if_pos h0,if_pos h0]
 rw [if_neg h0,if_neg h0]
 by_cases h:200<(allT g w).length
 ·rw [if_pos h,if_pos (zv4 _ _ _ (by simp) (by simpa using h))]
 ·rw [if_neg h,z0x _ _ _ (by simp;omega),if_neg (by simp)]
  rfl
theorem zlc {a b:Prt}:zmb a b=true↔a.entry<b.entry∨(a.entry=b.entry∧(a.alt<b.alt∨(a.alt=b.alt∧a.sense<b.sense))):=by
 unfold zmb
 by_cases h1:a.entry=b.entry
 ·rw [if_pos h1]
  by_cases h2:a.alt=b.alt
  ·rw [if_pos h2,decide_eq_true_eq];omega
  ·rw [if_neg h2,decide_eq_true_eq];omega
 ·rw [if_neg h1,decide_eq_true_eq];omega
theorem Prt.ext' {a b:Prt} (h1:a.entry=b.entry) (h2:a.alt=b.alt) (h3:a.sense=b.sense):a=b:=by
 cases a;cases b;simp only at h1 h2 h3;rw [h1,h2,h3]
theorem z7b (a:Prt):zmb a a=false:=by
 cases h:zmb a a with
 | false=>rfl
 | true=>rw [zlc] at h;omega
theorem zyv {a b c:Prt} (h1:zmb a b=true) (h2:zmb b c=true):zmb a c=true:=by
 rw [zlc] at h1 h2 ⊢;omega
theorem z7c {a b:Prt} (h:a≠b):zmb a b=true∨zmb b a=true:=by
 rw [zlc,zlc]
 have:¬(a.entry=b.entry∧a.alt=b.alt∧a.sense=b.sense):=fun ⟨h1,h2,h3⟩=>h (Prt.ext' h1 h2 h3)
 omega
theorem zmh {a b:Prt} {l m:List Prt}:zdk (a::l) (b::m)=if a=b then zdk l m else zmb a b:=rfl
theorem zpc : ∀ {a b c:List Prt},zdk a b=true→zdk b c=true→zdk a c=true
 | [],[],_,h,_=>by simp [zdk] at h
 | [],_::_,[],_,h=>by simp [zdk] at h
 | [],_::_,_::_,_,_=>rfl
 | _::_,[],_,h,_=>by simp [zdk] at h
 | _::_,_::_,[],_,h=>by simp [zdk] at h
 | a::l,b::m,c::n,h1,h2=>by
  rw [zmh] at h1 h2 ⊢;by_cases e1:a=b
  ·subst e1
   rw [if_pos rfl] at h1;by_cases e2:a=c
   ·subst e2
    rw [if_pos rfl] at h2 ⊢;exact zpc h1 h2
   ·rw [if_neg e2] at h2 ⊢;exact h2
  ·rw [if_neg e1] at h1
   by_cases e2:b=c
   ·subst e2
    rw [if_neg e1];exact h1
   ·rw [if_neg e2] at h2
    have h3:=zyv h1 h2;by_cases e3:a=c
    ·subst e3;rw [z7b] at h3;cases h3
    ·rw [if_neg e3];exact h3
theorem zv5 : ∀ {a b:List Prt},a≠b→zdk a b=true∨zdk b a=true
 | [],[],h=>absurd rfl h
 | [],_::_,_=>.inl rfl
 | _::_,[],_=>.inr rfl
 | a::l,b::m,h=>by
  rw [zmh,zmh];by_cases e:a=b
  ·subst e
   rw [if_pos rfl,if_pos rfl];exact zv5 fun e=>h (by rw [e])
  ·rw [if_neg e,if_neg (fun e'=>e e'.symm)]
   exact z7c e
section
variable {α:Type}
theorem zv6 {lt:α→Bool} {l:List α} : ∀ n,n≤l.length→(∀ i,posL lt l n≤i→i<n→∀ h:i<l.length,lt l[i]=true)∧(∀ h:0<posL lt l n,∃ h':posL lt l n-1<l.length,lt l[posL lt l n-1]=false)
 | 0,_=>⟨fun i _ h=>absurd h (by omega),fun h=>absurd h (by simp [posL])⟩
 | n+1,hn=>by
  have ih:=zv6 (lt:=lt) (l:=l) n (by omega)
  have e1:l[n]?=some l[n]:=List.getElem?_eq_getElem (by omega)
  by_cases c:lt l[n]=true
  ·have e2:posL lt l (n+1)=posL lt l n:=by rw [posL,e1];simp only;rw [if_pos c]
   rw [e2];refine ⟨fun i h1 h2 h=>?_,ih.2⟩
   by_cases e:i=n
   ·subst e;exact c
   ·exact ih.1 i h1 (by omega) h
  ·have e2:posL lt l (n+1)=n+1:=by rw [posL,e1];simp only;rw [if_neg c]
   rw [e2];refine ⟨fun i h1 h2 h=>by omega,fun _=>⟨by omega,?_⟩⟩
   show lt l[n+1-1]=false
   simpa using c
theorem zyw {lt:α→α→Bool} (tr : ∀ {a b c},lt a b=true→lt b c=true→lt a c=true) (tot : ∀ {a b},a≠b→lt a b=true∨lt b a=true) {x:α} {l:List α}
  (hs:l.Pairwise fun a b=>lt a b=true) (hx:x∉l):(insL (fun o=>lt x o) x l).Pairwise fun a b=>lt a b=true:=by
 have hsp:=zv6 (lt:=fun o=>lt x o) (l:=l) l.length (Nat.le_refl _)
 have hle:=zys (fun o=>lt x o) l l.length
 unfold insL
 generalize posL (fun o=>lt x o) l l.length=p at hsp hle
 have hup : ∀ b∈l.drop p,lt x b=true:=by
  intro b hb;obtain ⟨i,hi,e⟩:=List.mem_iff_getElem.1 hb;rw [List.length_drop] at hi;rw [List.getElem_drop] at e;have:=hsp.1 (p+i) (by omega) (by omega) (by omega)
  rw [← e];exact this
 have hdn : ∀ a∈l.take p,lt a x=true:=by
  intro a ha;obtain ⟨i,hi,e⟩:=List.mem_take_iff_getElem.1 ha;have hp:0<p:=by omega
  obtain ⟨h',hf⟩:=hsp.2 hp;have hne:l[p-1]≠x:=fun e=>hx (e▸List.getElem_mem h')
  have hl:lt l[p-1] x=true:=by
   rcases tot hne with h | h
   ·exact h
   ·rw [h] at hf;cases hf
  rw [← e];by_cases hi2:i=p-1
  ·subst hi2;exact hl
  ·exact tr (List.pairwise_iff_getElem.1 hs i (p-1) (by omega) h' (by omega)) hl
 rw [List.pairwise_append]
 refine ⟨hs.sublist (List.take_sublist _ _),List.pairwise_cons.2 ⟨hup,hs.sublist (List.drop_sublist _ _)⟩,fun a ha b hb=>?_⟩
 rcases List.mem_cons.1 hb with e | e
 ·rw [e];exact hdn a ha
 ·exact tr (hdn a ha) (hup b e)
end
theorem z0y {a:List Prt} : ∀ (l out:List (List Prt)),a∈l.foldl (fun o a=>insL (fun x=>zdk a x) a o) out↔a∈l∨a∈out
 | [],out=>by simp
 | b::l,out=>by
  rw [List.foldl_cons,z0y l,zfu,List.mem_cons];constructor
  ·rintro (h | h | h)
   ·exact .inl (.inr h)
   ·exact .inl (.inl h)
   ·exact .inr h
  ·rintro ((h | h) | h)
   ·exact .inr (.inl h)
   ·exact .inl h
   ·exact .inr (.inr h)
theorem zoi {a:List Prt} {l:List (List Prt)}:a∈insT l↔a∈l:=by unfold insT;rw [z0y];simp
theorem zpd : ∀ (l out:List (List Prt)),(out.Pairwise fun a b=>zdk a b=true)→l.Nodup→(∀ a∈l,a∉out)→(l.foldl (fun o a=>insL (fun x=>zdk a x) a o) out).Pairwise fun a b=>zdk a b=true
 | [],out,h,_,_=>h
 | b::l,out,h,hn,hd=>by
  rw [List.nodup_cons] at hn;rw [List.foldl_cons];refine zpd l _ (zyw (lt:=zdk) zpc zv5 h (hd b (List.mem_cons_self ..))) hn.2 fun a ha hm=>?_
  rcases zfu.1 hm with e | e
  ·subst e;exact hn.1 ha
  ·exact hd a (List.mem_cons_of_mem _ ha) e
theorem zyx {l:List (List Prt)} (h:l.Nodup):(insT l).Pairwise fun a b=>zdk a b=true:=zpd l [] List.Pairwise.nil h fun _ _ h=>by cases h
theorem z0z : ∀ (l out:List (List Prt)),(l.foldl (fun o a=>insL (fun x=>zdk a x) a o) out).length=out.length+l.length
 | [],out=>rfl
 | b::l,out=>by rw [List.foldl_cons,z0z l,zlb,List.length_cons];omega
theorem ybn (l:List (List Prt)):(insT l).length=l.length:=by unfold insT;rw [z0z];simp
def sprL (g:Lang):List Prt→List (List Prt)
 | []=>[[]]
 | p::ps=>(List.range (zcp g.lex p.entry).length).flatMap fun (k:Nat)=>(sprL g ps).map fun t=>(⟨p.entry,p.alt,k⟩:Prt)::t
theorem z7d (g:Lang) : ∀ (f:Nat) (p:List Prt) (i:Nat),i+f=p.length→sprT g f p i=(sprL g (p.drop i)).map fun t=>p.take i++t
 | 0,p,i,h=>by
  rw [sprT,List.drop_eq_nil_of_le (by omega),List.take_of_length_le (by omega)]
  simp [sprL]
 | f+1,p,i,h=>by
  have hi:i<p.length:=by omega
  have eg:p.getD i ⟨0,0,0⟩=p[i]:=by rw [List.getD_eq_getElem?_getD,List.getElem?_eq_getElem hi];rfl
  rw [sprT,eg,List.drop_eq_getElem_cons hi,sprL,List.map_flatMap];refine zeo fun k _=>?_
  rw [z7d g f _ (i+1) (by rw [List.length_set];omega),List.map_map]
  have e1:(p.set i ⟨p[i].entry,p[i].alt,(k:Int)⟩).drop (i+1)=p.drop (i+1):=by rw [List.drop_set];rw [if_pos (by omega)]
  have e2:(p.set i ⟨p[i].entry,p[i].alt,(k:Int)⟩).take (i+1)=p.take i++[⟨p[i].entry,p[i].alt,(k:Int)⟩]:=by
   rw [List.take_succ_eq_append_getElem (by rw [List.length_set];exact hi),List.getElem_set_self,List.take_set_of_le (by omega)]
  rw [e1,e2];congr 1
  funext t
  simp
theorem ybo (g:Lang) (a:List Prt):sprT g a.length a 0=sprL g a:=by
 rw [z7d g a.length a 0 (by omega)]
 simp
def Choice (g:Lang):List Prt→List Prt→Prop
 | [],[]=>True
 | p::ps,q::qs=>(q.entry=p.entry∧q.alt=p.alt∧0≤q.sense∧q.sense<(zcp g.lex p.entry).length)∧Choice g ps qs
 | _,_=>False
theorem zi8 (g:Lang) : ∀ {a q:List Prt},q∈sprL g a↔Choice g a q
 | [],q=>by
  rw [sprL,List.mem_singleton];cases q with
  | nil=>simp [Choice]
  | cons _ _=>simp [Choice]
 | p::ps,q=>by
  rw [sprL,List.mem_flatMap];constructor
  ·rintro ⟨k,hk,h⟩
   obtain ⟨t,ht,rfl⟩:=List.mem_map.1 h;have:=List.mem_range.1 hk
   exact ⟨⟨rfl,rfl,by show (0:Int)≤(k:Int);omega,by show (k:Int)<_;omega⟩,(zi8 g).1 ht⟩
  ·intro h
   cases q with
   | nil=>simp [Choice] at h
   | cons x t=>
    obtain ⟨⟨h1,h2,h3,h4⟩,h5⟩:=h;refine ⟨x.sense.toNat,List.mem_range.2 (by omega),List.mem_map.2 ⟨t,(zi8 g).2 h5,?_⟩⟩
    congr 1
    exact Prt.ext' h1.symm h2.symm (by show ((x.sense.toNat:Nat):Int)=x.sense;omega)
theorem zsc (g:Lang) : ∀ a:List Prt,(sprL g a).Nodup
 | []=>by rw [sprL];simp
 | p::ps=>by
  have ih:=zsc g ps;rw [sprL];unfold List.Nodup at ih ⊢;rw [List.pairwise_flatMap];refine ⟨fun k _=>?_,?_⟩
  ·rw [List.pairwise_map]
   exact ih.imp fun h e=>h (List.cons.inj e).2
  ·refine List.Pairwise.imp ?_ List.pairwise_lt_range
   intro i j hij x hx y hy e;obtain ⟨t,_,rfl⟩:=List.mem_map.1 hx;obtain ⟨u,_,rfl⟩:=List.mem_map.1 hy;have:=(List.cons.inj e).1
   have:=congrArg Prt.sense this
   simp only at this
   omega
def bare (a:List Prt):List Prt:=a.map fun p=>⟨p.entry,p.alt,0⟩
theorem zfi {g:Lang} : ∀ {a q:List Prt},Choice g a q→bare q=bare a
 | [],[],_=>rfl
 | [],_::_,h=>h.elim
 | _::_,[],h=>h.elim
 | p::ps,q::qs,h=>by
  obtain ⟨⟨h1,h2,_⟩,h5⟩:=h;have:=zfi h5
  unfold bare at this ⊢;rw [List.map_cons,List.map_cons,this,h1,h2]
theorem yd2 {a:List Prt} (h : ∀ p∈a,p.sense=0):bare a=a:=by
 unfold bare
 conv=>rhs;rw [← List.map_id a]
 refine List.map_congr_left fun p hp=>?_
 exact Prt.ext' rfl rfl (h p hp).symm
end Go.V
namespace Go.V
open Go Go.Proofs
def zld (g:Lang) (p:Prt):Prop:=∃ e∈g.lex,p.entry=e.id∧p.sense=0∧∃ alt:Nat,alt<e.forms.length∧p.alt=alt
theorem zld.ok {g:Lang} (hg:LightF g) {p:Prt} (h:zld g p) : ∃ e∈g.lex,∃ alt:Nat,alt<e.forms.length∧p=⟨e.id,alt,0⟩:=by
 obtain ⟨e,he,h1,h2,alt,h3,h4⟩:=h
 exact ⟨e,he,alt,h3,Prt.ext' h1 h4 h2⟩
theorem zty {g:Lang} {w:List Int} : ∀ (f:Nat) (a b:List Prt),b∈furF g w f a→∃ t,b=a++t∧t≠[]∧t.length≤f∧(∀ p∈t,zld g p)∧licB g w b=true
 | 0,a,b,h=>by simp [furF] at h
 | f+1,a,b,h=>by
  unfold furF at h;rw [List.mem_flatMap] at h;obtain ⟨e,he,h⟩:=h;split at h
  ·rw [List.mem_flatMap] at h
   obtain ⟨alt,ha,h⟩:=h;have ha:=List.mem_range.1 ha;have hp:zld g ⟨e.id,(alt:Int),0⟩:=⟨e,he,rfl,rfl,alt,ha,rfl⟩
   split at h
   ·cases h
   ·rcases List.mem_append.1 h with h | h
    ·split at h
     ·rename_i hl
      rw [List.mem_singleton] at h;subst h;exact ⟨[⟨e.id,(alt:Int),0⟩],rfl,by simp,by simp,(by intro p hp';rw [List.mem_singleton] at hp';rw [hp'];exact hp),hl⟩
     ·cases h
    ·obtain ⟨t,rfl,h1,h2,h3,h4⟩:=zty f _ b h
     exact ⟨⟨e.id,(alt:Int),0⟩::t,by simp,by simp,by simp;omega,(fun p hm=>(List.mem_cons.1 hm).elim (fun e=>e▸hp) (h3 p)),h4⟩
  ·cases h
theorem z7e {g:Lang} (hg:LightF g):g.lex.Pairwise fun e e'=>e.id<e'.id:=by
 rw [List.pairwise_iff_getElem]
 intro i j hi hj hij
 have:=lex_lt hg.lex.up (j-i-1) i (by omega)
 simpa [show i+(j-i-1)+1=j by omega] using this
theorem zi9 {g:Lang} {w:List Int} {f:Nat} {a x:List Prt} {p:Prt} (h:x∈(if zkc g w<(zba g.lex (a++[p])).length then [] else (if licB g w (a++[p])=true then [a++[p]] else [])++furF g w f (a++[p]))) : ∃ t,x=a++p::t:=by
 split at h
 ·cases h
 ·rcases List.mem_append.1 h with h | h
  ·split at h
   ·rw [List.mem_singleton] at h;exact ⟨[],h⟩
   ·cases h
  ·obtain ⟨t,e,_⟩:=zty f _ x h
   exact ⟨t,by rw [e];simp⟩
theorem zv7 {g:Lang} (hg:LightF g) (w:List Int) : ∀ (f:Nat) (a:List Prt),(furF g w f a).Nodup
 | 0,_=>by simp [furF]
 | f+1,a=>by
  unfold furF List.Nodup;rw [List.pairwise_flatMap];refine ⟨fun e he=>?_,?_⟩
  ·split
   ·rw [List.pairwise_flatMap]
    refine ⟨fun alt ha=>?_,?_⟩
    ·split
     ·exact List.Pairwise.nil
     ·rw [List.pairwise_append]
      refine ⟨by split <;> simp,zv7 hg w f _,fun x hx y hy e=>?_⟩
      subst e;obtain ⟨t,e,h1,_⟩:=zty f _ x hy;split at hx
      ·rw [List.mem_singleton] at hx
       rw [hx] at e;have:=congrArg List.length e
       simp only [List.length_append,List.length_cons,List.length_nil] at this;exact h1 (List.length_eq_zero_iff.1 (by omega))
      ·cases hx
    ·refine List.Pairwise.imp ?_ List.pairwise_lt_range
     intro i j hij x hx y hy e;obtain ⟨t,rfl⟩:=zi9 hx;obtain ⟨u,rfl⟩:=zi9 hy;have:=(List.cons.inj (List.append_cancel_left e)).1
     have:=congrArg Prt.alt this
     simp only at this
     omega
   ·exact List.Pairwise.nil
  ·refine List.Pairwise.imp ?_ (z7e hg)
   intro e e' hlt x hx y hy heq;split at hx
   ·split at hy
    ·rw [List.mem_flatMap] at hx hy
     obtain ⟨_,_,hx⟩:=hx;obtain ⟨_,_,hy⟩:=hy;obtain ⟨t,rfl⟩:=zi9 hx;obtain ⟨u,rfl⟩:=zi9 hy;have:=(List.cons.inj (List.append_cancel_left heq)).1
     have:=congrArg Prt.entry this
     simp only at this
     omega
    ·cases hy
   ·cases hx
structure PlainF (g:Lang) (w:List Int) (b:List Prt):Prop where
 pos:b≠[]
 len:b.length≤4
 parts : ∀ p∈b,zld g p
 lic:licE g w b=true
theorem zgp {g:Lang} {w:List Int} {b:List Prt} (h:b∈zdg g w):PlainF g w b:=by
 unfold zdg at h
 split at h
 ·cases h
 ·obtain ⟨t,rfl,h1,h2,h3,h4⟩:=zty 4 [] b h
  unfold licB at h4;rw [Bool.and_eq_true] at h4;exact ⟨h1,h2,h3,h4.2⟩
theorem zyy {g:Lang} (hg:LightF g) (w:List Int):(zdg g w).Nodup:=by
 unfold zdg
 split
 ·simp
 ·exact zv7 hg w 4 []
theorem PlainF.bare {g:Lang} {w:List Int} {b:List Prt} (h:PlainF g w b):bare b=b:=yd2 fun p hp=>by obtain ⟨_,_,_,h2,_⟩:=h.parts p hp;exact h2
theorem z7f (g:Lang) (w:List Int):allT g w=(zdg g w).flatMap (sprL g):=by
 unfold allT
 refine zeo fun a _=>?_
 rw [ybo]
theorem zoj {g:Lang} {w:List Int} {q:List Prt}:q∈allT g w↔∃ a∈zdg g w,Choice g a q:=by
 rw [z7f,List.mem_flatMap]
 constructor
 ·rintro ⟨a,h1,h2⟩;exact ⟨a,h1,(zi8 g).1 h2⟩
 ·rintro ⟨a,h1,h2⟩;exact ⟨a,h1,(zi8 g).2 h2⟩
theorem z3k {g:Lang} (hg:LightF g) (w:List Int):(allT g w).Nodup:=by
 rw [z7f]
 unfold List.Nodup
 rw [List.pairwise_flatMap]
 refine ⟨fun a _=>zsc g a,List.Pairwise.imp_of_mem ?_ (zyy hg w)⟩
 intro a b ha hb hne x hx y hy e
 subst e
 have h1:=zfi ((zi8 g).1 hx)
 have h2:=zfi ((zi8 g).1 hy)
 rw [(zgp ha).bare] at h1
 rw [(zgp hb).bare] at h2
 exact hne (h1.symm.trans h2)
theorem zmi {g:Lang} : ∀ {a q:List Prt},Choice g a q→q.length=a.length
 | [],[],_=>rfl
 | [],_::_,h=>h.elim
 | _::_,[],h=>h.elim
 | p::ps,q::qs,h=>by rw [List.length_cons,List.length_cons,zmi h.2]
theorem zib (l:List Ent) (a:List Prt):zaz l (bare a)=zaz l a:=by
 unfold zaz bare
 rw [List.flatMap_map]
 rfl
theorem zgq (l:List Ent) (a:List Prt):zba l (bare a)=zba l a:=by
 unfold zba bare
 rw [List.flatMap_map]
 rfl
theorem zpe {g:Lang} {a q:List Prt} (h:Choice g a q):zba g.lex q=zba g.lex a:=by rw [← zgq,zfi h,zgq]
theorem zq3 {g:Lang} {a q:List Prt} (h:Choice g a q):zaz g.lex q=zaz g.lex a:=by rw [← zib,zfi h,zib]
theorem zni {g:Lang} (hg:LightF g) : ∀ {a q:List Prt},Choice g a q→(∀ p∈a,zld g p)→∀ p∈q,zh3 g.lex p=0
 | [],[],_,_,p,hp=>by cases hp
 | [],_::_,h,_,_,_=>h.elim
 | _::_,[],h,_,_,_=>h.elim
 | p::ps,q::qs,h,hv,x,hx=>by
  rcases List.mem_cons.1 hx with e | hx
  ·subst e
   obtain ⟨⟨h1,h2,h3,h4⟩,_⟩:=h;obtain ⟨e,he,alt,ha,rfl⟩:=(hv p (List.mem_cons_self ..)).ok hg;simp only at h1 h2 h4
   have hf:=zep hg he ha;have hf':zf6 g.lex x=(e,e.forms[alt]?.getD [],true):=by
    obtain ⟨x1,x2,x3⟩:=x;simp only at h1 h2
    subst h1;subst h2;exact hf
   unfold zh3;rw [hf',h1,ztl hg.lex.up he];simp only [Bool.true_eq_false,if_false];rw [if_neg (by omega)]
  ·exact zni hg h.2 (fun y hy=>hv y (List.mem_cons_of_mem _ hy)) x hx
theorem zyz {g:Lang} (hg:LightF g) {a:List Prt} (h : ∀ p∈a,zld g p) : ∀ p∈a,zh3 g.lex p=0:=by
 intro p hp
 obtain ⟨e,he,alt,ha,rfl⟩:=(h p hp).ok hg
 exact zvp hg he ha
theorem zy0 {g:Lang} (hg:LightF g) {a q:List Prt} (h:Choice g a q) (hv : ∀ p∈a,zld g p):zb1 g q=zb1 g a:=by
 have h1:=zg8 (zni hg h hv)
 have h2:=zg8 (zyz hg hv)
 unfold zb1 zff
 rw [zmi h,zpe h,zq3 h,h1,h2]
theorem z7g {g:Lang} (hg:LightF g) {w:List Int} {q:List Prt} (h:q∈allT g w):(zb1 g q).2=0∧(zb1 g q).1=w∧q.length≤4:=by
 obtain ⟨a,ha,hc⟩:=zoj.1 h
 have hp:=zgp ha
 rw [zy0 hg hc hp.parts,zmi hc]
 have:=hp.lic
 unfold licE at this
 rw [decide_eq_true_eq] at this
 exact ⟨this.1,this.2,hp.len⟩
theorem zpf {g:Lang} (hg:LightF g) : ∀ {a:List Prt},(∀ p∈a,zld g p)→Choice g a a
 | [],_=>trivial
 | p::ps,h=>by
  refine ⟨?_,zpf hg fun x hx=>h x (List.mem_cons_of_mem _ hx)⟩
  obtain ⟨e,he,alt,ha,rfl⟩:=(h p (List.mem_cons_self ..)).ok hg;have hs:0<(zcp g.lex e.id).length:=List.length_pos_iff.2 (hg.senses he)
  exact ⟨rfl,rfl,Int.le_refl _,by show (0:Int)<((zcp g.lex e.id).length:Int);omega⟩
theorem ztz {g:Lang} (hg:LightF g) : ∀ {a:List Prt},(∀ p∈a,zld g p)→zb0 (zba g.lex a)
 | [],_=>fun x hx=>by cases hx
 | p::ps,h=>by
  have ih:=ztz hg fun x hx=>h x (List.mem_cons_of_mem _ hx)
  obtain ⟨e,he,alt,ha,rfl⟩:=(h p (List.mem_cons_self ..)).ok hg;have:zba g.lex (⟨e.id,(alt:Int),0⟩::ps)=e.forms[alt]?.getD []++zba g.lex ps:=by
   unfold zba;rw [List.flatMap_cons,zep hg he ha];rfl
  rw [this];refine zb0.app ?_ ih
  rw [List.getElem?_eq_getElem ha];exact z0r hg he (List.getElem_mem ha)
structure BasJ (x:BasS):Prop where
 seen : ∀ k∈x.1,∃ b∈x.2,keyS b=k
theorem zt0 (f:List Prt→List Int) : ∀ (l:List (List Prt)) (x:BasS),BasJ x→BasJ (sF basF (x,true) (l.map fun b=>(b,f b))).1 ∧
  (∀ b∈(sF basF (x,true) (l.map fun b=>(b,f b))).1.2,b∈x.2∨∃ a∈l,f a=b)∧(∀ b∈x.2,b∈(sF basF (x,true) (l.map fun b=>(b,f b))).1.2) ∧
  ∀ a∈l,∃ b∈(sF basF (x,true) (l.map fun b=>(b,f b))).1.2,keyS b=keyS (f a)
 | [],x,h=>⟨h,fun b hb=>.inl hb,fun b hb=>hb,fun a ha=>by cases ha⟩
 | a::l,x,h=>by
  rw [List.map_cons,ztu,if_neg (by simp)]
  have hF:basF x a (f a)=((basF x a (f a)).1,true):=rfl
  rw [hF];by_cases hm:keyS (f a)∈x.1
  ·have e:(basF x a (f a)).1=x:=by unfold basF;rw [if_pos hm]
   rw [e];obtain ⟨i1,i2,i3,i4⟩:=zt0 f l x h;refine ⟨i1,fun b hb=>(i2 b hb).imp id fun ⟨c,hc,e⟩=>⟨c,List.mem_cons_of_mem _ hc,e⟩,i3,fun c hc=>?_⟩
   rcases List.mem_cons.1 hc with e2 | hc
   ·subst e2
    obtain ⟨b,hb,e3⟩:=h.seen _ hm;exact ⟨b,i3 b hb,e3⟩
   ·exact i4 c hc
  ·have e:(basF x a (f a)).1=(x.1++[keyS (f a)],insL (fun o=>yag (f a) o) (f a) x.2):=by unfold basF;rw [if_neg hm]
   rw [e];obtain ⟨i1,i2,i3,i4⟩:=zt0 f l (x.1++[keyS (f a)],insL (fun o=>yag (f a) o) (f a) x.2) ⟨fun k hk=>by
    rcases List.mem_append.1 hk with hk | hk
    ·obtain ⟨b,hb,e⟩:=h.seen k hk
     exact ⟨b,zfu.2 (.inr hb),e⟩
    ·rw [List.mem_singleton] at hk
     exact ⟨f a,zfu.2 (.inl rfl),hk.symm⟩⟩
   refine ⟨i1,fun b hb=>?_,fun b hb=>i3 b (zfu.2 (.inr hb)),fun c hc=>?_⟩
   ·rcases i2 b hb with hb | ⟨c,hc,e⟩
    ·rcases zfu.1 hb with e | hb
     ·exact .inr ⟨a,List.mem_cons_self ..,e.symm⟩
     ·exact .inl hb
    ·exact .inr ⟨c,List.mem_cons_of_mem _ hc,e⟩
   ·rcases List.mem_cons.1 hc with e2 | hc
    ·subst e2
     exact ⟨f c,i3 _ (zfu.2 (.inl rfl)),rfl⟩
    ·exact i4 c hc
theorem zsd {g:Lang} (hg:LightF g) {w:List Int} {b:List Int}:b∈z0v g w↔∃ a∈zdg g w,zba g.lex a=b:=by
 obtain ⟨_,i2,_,i4⟩:=zt0 (zba g.lex) (zdg g w) ([],[]) ⟨fun k hk=>by cases hk⟩
 unfold z0v
 constructor
 ·intro h
  rcases i2 b h with h | h
  ·cases h
  ·exact h
 ·rintro ⟨a,ha,rfl⟩
  obtain ⟨c,hc,e⟩:=i4 a ha;rcases i2 c hc with h | ⟨a2,ha2,e2⟩
  ·cases h
  ·have:=key_inj (by rw [← e2];exact ztz hg (zgp ha2).parts) (ztz hg (zgp ha).parts) e
   rw [← this];exact hc
end Go.V
namespace Go.V
open Go Go.Proofs
theorem zse {g:Lang} {q:List Prt} (h:(zb1 g q).2=0):zff g q=0:=by
 unfold zb1 at h
 split at h
 ·rename_i h1;exact absurd h h1
 ·rename_i h1;exact Classical.byContradiction h1
theorem zsf {g:Lang} {q:List Prt} (h:zff g q=0):(zba g.lex q).length≤24:=by
 unfold zff at h
 split at h
 ·cases h
 split at h
 ·cases h
 split at h
 ·rename_i h1;exact absurd h h1
 split at h
 ·cases h
 split at h
 ·cases h
 omega
structure AllOk (g:Lang) (w:List Int) (L:List (List Prt)):Prop where
 few:L.length≤200
 form : ∀ q∈L,(zb1 g q).2=0∧(zb1 g q).1=w∧q.length≤4
 up:L.Pairwise fun a b=>zdk a b=true
 base : ∀ q∈L,zba g.lex q∈z0v g w
 all : ∀ b∈z0v g w,∃ q∈L,zba g.lex q=b
theorem yd3 {g:Lang} (hg:LightF g) (w:List Int):((allE g w).2≠0→(allE g w).1=[])∧((allE g w).2=0→AllOk g w (allE g w).1):=by
 rw [z7a]
 by_cases h0:zg6 g.inv w≠0
 ·rw [if_pos h0]
  exact ⟨fun _=>rfl,fun h=>absurd h h0⟩
 rw [if_neg h0]
 by_cases h:200<(allT g w).length
 ·rw [if_pos h]
  exact ⟨fun _=>rfl,fun h=>by cases h⟩
 rw [if_neg h]
 refine ⟨fun h=>absurd rfl h,fun _=>⟨?_,fun q hq=>z7g hg (zoi.1 hq),zyx (z3k hg w),fun q hq=>?_,fun b hb=>?_⟩⟩
 ·show (insT (allT g w)).length≤200
  rw [ybn];omega
 ·obtain ⟨a,ha,hc⟩:=zoj.1 (zoi.1 hq)
  rw [zpe hc];exact (zsd hg).2 ⟨a,ha,rfl⟩
 ·obtain ⟨a,ha,rfl⟩:=(zsd hg).1 hb
  exact ⟨a,zoi.2 (zoj.2 ⟨a,ha,zpf hg (zgp ha).parts⟩),rfl⟩
end Go.V
namespace Go.V
open Go Go.Proofs
theorem zv8 (l:List Stp) (c:Int):zax l 0 c=0:=by
 unfold zax
 induction l with
 | nil=>rfl
 | cons x l ih=>
  rw [List.foldl_cons];have:zbe 0 c 0 x=0:=by
   unfold zbe hasS;rw [if_neg (by simp)]
  rw [this];exact ih
theorem zsg (l:List Stp) : ∀ cs:List Int,cs.foldl (fun m c=>zax l m c) 0=0
 | []=>rfl
 | c::cs=>by rw [List.foldl_cons,zv8];exact zsg l cs
theorem z00 {g:Lang} {w:List Int} (hg:LightF g) : ∀ (t:List Prt) (f:Nat) (a:List Prt) (s:Nat) (base:List Int),t≠[]→t.length≤f→(∀ p∈t,zld g p) →
  (zaz g.lex t).foldl (fun m c=>zax g.net.steps m c) s &&& zbz g.net.final≠0→w.length≤(base++zba g.lex t).length→zfq g w (base++zba g.lex t)=true→(base++zba g.lex t).length≤zkc g w →
  (a++t,base++zba g.lex t)∈walkT g w f a s base
 | [],_,_,_,_,h,_,_,_,_,_,_=>absurd rfl h
 | p::r,0,_,_,_,_,h,_,_,_,_,_=>by simp at h
 | p::r,f+1,a,s,base,_,hl,hv,hfin,hlen,hfit,hmost=>by
  obtain ⟨e,he,alt,ha,rfl⟩:=(hv p (List.mem_cons_self ..)).ok hg;have hb:zba g.lex (⟨e.id,(alt:Int),0⟩::r)=e.forms[alt]?.getD []++zba g.lex r:=by
   unfold zba;rw [List.flatMap_cons,zep hg he ha];rfl
  have hc:zaz g.lex (⟨e.id,(alt:Int),0⟩::r)=e.cls::zaz g.lex r:=by
   unfold zaz;rw [List.flatMap_cons,zep hg he ha];rfl
  rw [hb,← List.append_assoc] at hlen hfit hmost ⊢;rw [hc,List.foldl_cons] at hfin;have hz:zax g.net.steps s e.cls≠0:=by
   intro h;rw [h,zsg] at hfin;simp at hfin
  unfold walkT;rw [List.mem_flatMap];refine ⟨e,he,?_⟩
  rw [if_pos hz,List.mem_flatMap];refine ⟨alt,List.mem_range.2 ha,?_⟩
  rw [if_neg (by rw [List.length_append] at hmost;omega),List.mem_append]
  by_cases hr:r=[]
  ·left
   subst hr;have hb0:zba g.lex []=[]:=rfl
   rw [hb0,List.append_nil] at hlen hfit ⊢;rw [if_pos ⟨hfin,hlen,hfit⟩];exact List.mem_singleton.2 rfl
  ·right
   have:=z00 hg r f (a++[⟨e.id,(alt:Int),0⟩]) (zax g.net.steps s e.cls) (base++e.forms[alt]?.getD []) hr (by simp at hl;omega) (fun x hx=>hv x (List.mem_cons_of_mem _ hx)) hfin hlen hfit hmost
   rw [List.append_assoc] at this;exact this
theorem ybp {inv:List Phon} {r:Rule} (hr:r.dst.length=r.src.length) (h0:0∉r.dst) (w:List Int) (k:Nat) (x:Int) (hk:w[k]?=some x):(segE inv r w k x).length=1:=by
 unfold segE
 by_cases hs:ztd inv r w k=true
 ·rw [if_pos hs]
  unfold ztd at hs;rw [hk,Option.getD_some] at hs;simp only [Bool.and_eq_true,decide_eq_true_eq] at hs;have hm:x∈r.src:=hs.1.1.1.1.1.1
  have hlt:(idxL r.src x).toNat<r.dst.length:=by
   unfold idxL;cases h:r.src.findIdx? (· = x) with
   | none=>rw [List.findIdx?_eq_none_iff] at h;have:=h x hm;simp at this
   | some j=>
    rw [List.findIdx?_eq_some_iff_getElem] at h;have:=h.1
    show ((j:Int)).toNat<_
    omega
  rw [List.getElem?_eq_getElem hlt,Option.getD_some,if_neg]
  ·rfl
  ·intro h;exact h0 (h▸List.getElem_mem hlt)
 ·rw [if_neg hs];rfl
theorem z01 {α β:Type} {f:α→List β} : ∀ {l:List α},(∀ x∈l,(f x).length=1)→(l.map f).flatten.length=l.length
 | [],_=>rfl
 | a::l,h=>by
  rw [List.map_cons,List.flatten_cons,List.length_append,h a (List.mem_cons_self ..),z01 fun x hx=>h x (List.mem_cons_of_mem _ hx),List.length_cons]
  omega
theorem zy1 {inv:List Phon} {r:Rule} (hr:r.dst.length=r.src.length) (h0:0∉r.dst) (w:List Int):(zgh inv r w).length=w.length:=by
 unfold zgh
 rw [z01,List.length_zipIdx]
 intro x hx
 refine ybp hr h0 w x.2 x.1 ?_
 have:=List.mem_zipIdx_iff_getElem?.1 hx
 exact this
theorem zsh {inv:List Phon} : ∀ (rs:List Rule) (w:List Int),(∀ r∈rs,r.dst.length=r.src.length∧0∉r.dst)→(zd6 inv rs w).length=w.length
 | [],w,_=>rfl
 | r::rs,w,h=>by
  have ih:=zsh (inv:=inv) rs (zgh inv r w) fun x hx=>h x (List.mem_cons_of_mem _ hx)
  have h1:=h r (List.mem_cons_self ..);unfold zd6 at ih ⊢;rw [List.foldl_cons,ih,zy1 h1.1 h1.2]
theorem z7h {g:Lang} (hg:LightF g) (h:zez g.rules=false) (w:List Int):(zd6 g.inv g.rules w).length=w.length:=by
 refine zsh _ _ fun r hr=>⟨(hg.rules r hr).dst,fun h0=>?_⟩
 unfold zez at h
 rw [List.any_eq_false] at h
 exact h r hr (decide_eq_true h0)
theorem ybq {inv:List Phon} {r:Rule} (hd:DstF inv r) {w:List Int} {k:Nat} {x:Int} (hx:zcn inv x=true) : ∀ y∈segE inv r w k x,zcn inv y=true:=by
 intro y hy
 unfold segE at hy
 split at hy
 ·split at hy
  ·cases hy
  ·rename_i hne
   rw [List.mem_singleton] at hy;subst hy;cases hj:r.dst[(idxL r.src x).toNat]? with
   | none=>rw [hj] at hne;exact absurd rfl hne
   | some z=>
    rw [Option.getD_some];rw [hj,Option.getD_some] at hne;exact (hd z (List.mem_of_getElem? hj)).resolve_left hne
 ·rw [List.mem_singleton] at hy;rw [hy];exact hx
theorem z3l {inv:List Phon} {r:Rule} (hd:DstF inv r) {w:List Int} (hw : ∀ x∈w,zcn inv x=true) : ∀ y∈zgh inv r w,zcn inv y=true:=by
 intro y hy
 unfold zgh at hy
 rw [List.mem_flatten] at hy
 obtain ⟨l,hl,hy⟩:=hy
 obtain ⟨x,hx,rfl⟩:=List.mem_map.1 hl
 exact ybq hd (hw x.1 (List.fst_mem_of_mem_zipIdx hx)) y hy
theorem zv9 {inv:List Phon} : ∀ (rs:List Rule) (w:List Int),(∀ r∈rs,DstF inv r)→(∀ x∈w,zcn inv x=true)→∀ y∈zd6 inv rs w,zcn inv y=true
 | [],w,_,hw=>hw
 | r::rs,w,hd,hw=>by
  have ih:=zv9 rs (zgh inv r w) (fun x hx=>hd x (List.mem_cons_of_mem _ hx)) (z3l (hd r (List.mem_cons_self ..)) hw)
  unfold zd6 at ih ⊢;rw [List.foldl_cons];exact ih
theorem z7i {g:Lang} (hg:LightF g) {a:List Prt} (hv : ∀ p∈a,zld g p) : ∀ y∈zba g.lex a,zcn g.inv y=true:=by
 intro y hy
 unfold zba at hy
 rw [List.mem_flatMap] at hy
 obtain ⟨p,hp,hy⟩:=hy
 obtain ⟨e,he,alt,ha,rfl⟩:=(hv p hp).ok hg
 rw [zep hg he ha,if_pos rfl,List.getElem?_eq_getElem ha] at hy
 have hE:=hg.lex.each e he
 have hwf:WordF g.inv e.forms[alt]:=by
  rcases List.mem_cons.1 (List.getElem_mem ha) with h1 | h1
  ·rw [h1];exact hE.form
  ·exact hE.alts _ h1
 exact hwf.segs y hy
theorem zsi {l:List Ent} : ∀ {ps:List Prt},zfe l ps=0→∀ p∈ps,zh3 l p=0
 | [],_,p,hp=>by cases hp
 | q::ps,h,p,hp=>by
  unfold zfe at h;split at h
  ·rename_i hq
   rcases List.mem_cons.1 hp with e | hp
   ·rw [e];exact hq
   ·exact zsi h p hp
  ·rename_i hq;exact absurd h hq
theorem zwa {g:Lang} (hg:LightF g) {p:Prt} (h:zh3 g.lex p=0):zld g ⟨p.entry,p.alt,0⟩∧0≤p.sense∧p.sense<(zcp g.lex p.entry).length:=by
 unfold zh3 at h
 split at h
 ·cases h
 rename_i h1
 split at h
 ·cases h
 rename_i h2
 split at h
 ·cases h
 rename_i h3
 have h1':(getE g.lex p.entry).2=true:=by simpa using h1
 have hm:=zog h1'
 refine ⟨⟨(getE g.lex p.entry).1,hm,?_,rfl,?_⟩,by omega,by omega⟩
 ·unfold getE at h1' ⊢
  cases hf:g.lex.find? (·.id=p.entry) with
  | none=>rw [hf] at h1';cases h1'
  | some e=>have:=List.find?_some hf;exact (of_decide_eq_true this).symm
 ·have h2':(zf6 g.lex p).2.2=true:=by simpa using h2
  unfold zf6 at h2';split at h2'
  ·rename_i hc
   obtain ⟨_,c2,c3⟩:=hc;exact ⟨p.alt.toNat,by omega,by show p.alt=_;omega⟩
  ·cases h2'
structure FormF (g:Lang) (w:List Int) (a:List Prt):Prop where
 word:zg6 g.inv w=0
 plain:bare a∈zdg g w
 choice:Choice g (bare a) a
theorem zpg {g:Lang} : ∀ {a:List Prt},(∀ p∈a,0≤p.sense∧p.sense<(zcp g.lex p.entry).length)→Choice g (bare a) a
 | [],_=>trivial
 | p::ps,h=>⟨⟨rfl,rfl,h p (List.mem_cons_self ..)⟩,zpg fun x hx=>h x (List.mem_cons_of_mem _ hx)⟩
theorem z3m {g:Lang} (hg:LightF g) {a:List Prt} (h:(zb1 g a).2=0):FormF g (zb1 g a).1 a:=by
 have hr:=zse h
 have hb24:=zsf hr
 have hlast:¬(zd6 g.inv g.rules (zba g.lex a)).length=0∧(zb1 g a).1=zd6 g.inv g.rules (zba g.lex a):=by
  unfold zb1 at h ⊢;rw [if_neg (by rw [hr];simp)] at h ⊢
  split at h
  ·cases h
  ·rename_i h1;exact ⟨h1,by rw [if_neg h1]⟩
 have hr2:=hr
 unfold zff at hr2
 split at hr2
 ·cases hr2
 rename_i r0
 split at hr2
 ·cases hr2
 rename_i r4
 split at hr2
 ·rename_i r5;exact absurd hr2 r5
 rename_i r5
 split at hr2
 ·cases hr2
 rename_i r6
 have hps:zfe g.lex a=0:=Classical.byContradiction r5
 have hpz:=zsi hps
 have hbv : ∀ p∈bare a,zld g p:=by
  intro p hp;unfold bare at hp;obtain ⟨q,hq,rfl⟩:=List.mem_map.1 hp;exact (zwa hg (hpz q hq)).1
 have hll:=zgi g.inv g.rules (zba g.lex a)
 have hw:=hlast.2
 have hsegs : ∀ y∈(zb1 g a).1,zcn g.inv y=true:=by
  rw [hw,← zgq];exact zv9 _ _ hg.dsts (z7i hg hbv)
 have hwl:(zb1 g a).1.length=(zd6 g.inv g.rules (zba g.lex a)).length:=by rw [hw]
 refine ⟨?_,?_,zpg fun p hp=>(zwa hg (hpz p hp)).2⟩
 ·unfold zg6
  rw [if_neg (by omega),if_neg (by omega),if_pos (List.all_eq_true.2 hsegs)]
 ·have hfit:zfq g (zb1 g a).1 (zba g.lex (bare a))=true:=by
   unfold zfq;rw [zgq,← hw];simp only [decide_true,Bool.and_true,decide_eq_true_eq];intro h;rw [h] at hwl;simp at hwl;omega
  have hacc:zej g.net (zaz g.lex (bare a))=true:=by
   rw [zib];cases h:zej g.net (zaz g.lex a) with
   | true=>rfl
   | false=>exact absurd h r6
  have hmost:(zba g.lex (bare a)).length≤zkc g (zb1 g a).1:=by
   unfold zkc;rw [zgq];split
   ·exact hb24
   ·rename_i hs
    have:=z7h hg (by simpa using hs) (zba g.lex a)
    omega
  have hin:=z00 (w:=(zb1 g a).1) hg (bare a) 4 [] 1 [] (by intro h;have:=congrArg List.length h;simp [bare] at this;rw [this] at r0;exact r0 rfl) (by simp [bare];omega) hbv
   (by unfold zej runS at hacc;simpa using hacc) (by rw [List.nil_append,zgq];omega) (by rw [List.nil_append];exact hfit) (by rw [List.nil_append];exact hmost)
  have hfur:=ztm hg (w:=(zb1 g a).1) (by omega) 4 [] rfl (fun p hp=>by cases hp)
  have e1:runS g.net.steps (zaz g.lex [])=1:=rfl
  have e2:zba g.lex []=[]:=rfl
  rw [e1,e2] at hfur;rw [hfur] at hin;obtain ⟨b,hb,e⟩:=List.mem_map.1 hin;unfold zdg;rw [if_neg (by omega)]
  have:=congrArg Prod.fst e
  simp only [List.nil_append] at this;rw [← this];exact hb
end Go.V
namespace Go.V
open Go Go.Proofs
theorem z3n {g:Lang} (hg:LightF g) {a:List Prt} (h:(zb1 g a).2=0):(allE g (zb1 g a).1).2=11∨((allE g (zb1 g a).1).2=0∧a∈(allE g (zb1 g a).1).1):=by
 have hf:=z3m hg h
 rw [z7a,if_neg (by rw [hf.word];simp)]
 split
 ·exact .inl rfl
 ·exact .inr ⟨rfl,zoi.2 (zoj.2 ⟨_,hf.plain,hf.choice⟩)⟩
end Go.V

/- Contracts and plain laws of this seat: part MB. It needs no conditions. -/
import Derived.Test.YtmpknkjlhapcmaaGreatMA
set_option linter.unusedVariables false
set_option linter.unusedSimpArgs false
set_option linter.unusedSectionVars false
set_option maxRecDepth 100000
namespace Go.V
open Go Go.Proofs
theorem zza {α:Type} {lt:α→α→Bool} (irr : ∀ a,lt a a=false) (tr : ∀ {a b c},lt a b=true→lt b c=true→lt a c=true) : ∀ {l m:List α},(l.Pairwise fun a b=>lt a b=true)→(m.Pairwise fun a b=>lt a b=true)→(∀ x,x∈l↔x∈m)→l=m
 | [],[],_,_,_=>rfl
 | [],y::m,_,_,h=>by have:=(h y).2 (List.mem_cons_self ..);cases this
 | x::l,[],_,_,h=>by have:=(h x).1 (List.mem_cons_self ..);cases this
 | x::l,y::m,hl,hm,h=>by
  rw [List.pairwise_cons] at hl hm;have hxy:x=y:=by
   rcases List.mem_cons.1 ((h x).1 (List.mem_cons_self ..)) with e | e
   ·exact e
   ·rcases List.mem_cons.1 ((h y).2 (List.mem_cons_self ..)) with e2 | e2
    ·exact e2.symm
    ·have h1:=hm.1 x e
     have h2:=hl.1 y e2;have:=tr h1 h2
     rw [irr] at this;cases this
  subst hxy;congr 1
  refine zza irr tr hl.2 hm.2 fun z=>?_
  constructor
  ·intro hz
   rcases List.mem_cons.1 ((h z).1 (List.mem_cons_of_mem _ hz)) with e | e
   ·subst e
    have:=hl.1 z hz
    rw [irr] at this;cases this
   ·exact e
  ·intro hz
   rcases List.mem_cons.1 ((h z).2 (List.mem_cons_of_mem _ hz)) with e | e
   ·subst e
    have:=hm.1 z hz
    rw [irr] at this;cases this
   ·exact e
end Go.V
namespace Go.V
open Go Go.Proofs
def sN (g:Lang) (p:Prt):Nat:=(zcf g.lex p.entry).length
theorem zzb {l:List Ent} (h : ∀ e∈l,e.senses.length≤5) : ∀ ids,(senW l ids).length≤5
 | []=>by simp [senW]
 | x::r=>by
  unfold senW;split
  ·unfold getE
   cases hf:l.find? (·.id=x) with
   | none=>simp [Ent.zero]
   | some e=>exact h e (List.mem_of_find?_eq_some hf)
  ·exact zzb h r
theorem ycl {g:Lang} (hg:LightF g) (p:Prt):sN g p≤5:=by
 unfold sN zcf
 rw [zmf]
 exact zzb (fun e he=>(hg.lex.each e he).fewS) _
theorem zn6 (g:Lang) (hg:LightF g) (hc:LangC g) (p:Prt):zam Tryz.prog 134 [g.d,.agg p.row] (int (sN g p)):=by
 have hR:=hg.zwf hc
 have hS:=zq7 g.lex p.entry hR.lex.len
 refine zaa mixed Tryz.func134 rfl call_134 ?_
 simp +decide [Tryz.f134,int,Prt.row,Lang.d,zai]
 refine zaj.pure (by rfl) hS (by simp [D.scalar]) ?_
 simp +decide [int,zbp,sN]
def zc1 (g:Lang):List Prt→Nat
 | []=>1
 | p::ps=>sN g p*zc1 g ps
theorem zzc (g:Lang) : ∀ a b:List Prt,zc1 g (a++b)=zc1 g a*zc1 g b
 | [],b=>by simp [zc1]
 | p::ps,b=>by rw [List.cons_append,zc1,zc1,zzc g ps b,Nat.mul_assoc]
theorem zn7 {g:Lang} (hg:LightF g) : ∀ a:List Prt,zc1 g a≤5^a.length
 | []=>by simp [zc1]
 | p::ps=>by
  rw [zc1,List.length_cons,Nat.pow_succ,Nat.mul_comm];exact Nat.mul_le_mul (zn7 hg ps) (ycl hg p)
theorem ycm {k:Nat} (h:k≤4):5^k≤625:=by
 have:k=0∨k=1∨k=2∨k=3∨k=4:=by omega
 rcases this with h | h | h | h | h <;> subst h <;> decide
set_option maxHeartbeats 8000000 in
theorem ycn (g:Lang) (hg:LightF g) (hc:LangC g) (a:List Prt) (ha:a.length≤4):zam Tryz.prog 98 [g.d,anaD a] (int (zc1 g a)):=by
 refine zaa mixed Tryz.func98 rfl call_98 ?_
 simp +decide [Tryz.f98,int,anaD,zab,Lang.d,zai]
 refine zaz mixed (fun k:Nat=>{n:=24,next:=2,slots:=[(2,.bp 0 0),(3,.bp 1 0),(5,.d (int (zc1 g (a.take k)))),(6,.d (int k))],own:=[(0,.box 56 (zai g.d)),(1,.box 31 [.d (zab a)])]})
  (fun k=>k≤a.length) (fun k=>a.length-k) 0 (Nat.zero_le _) ?_ ?_
 ·simp +decide [int,ints,anaD,zab,Lang.d,zai,zc1]
 intro k hk
 refine zao mixed ?_
 by_cases hlt:k<a.length
 case neg=>
  have:k=a.length:=by omega
  subst this;rw [List.take_length];simp +decide [int,ints,anaD,zab,Lang.d,zai]
 have hlt':(k:Int)<a.length:=by omega
 obtain ⟨p,ep⟩ : ∃ p,a[k]=p:=⟨_,rfl⟩
 have e1:a[k]?=some p:=by rw [List.getElem?_eq_getElem hlt,ep]
 have hsn:zc1 g (a.take (k+1))=zc1 g (a.take k)*sN g p:=by rw [zal hlt,zzc,ep];simp [zc1]
 have hw1:zc1 g (a.take (k+1))≤625:=Nat.le_trans (zn7 hg _) (ycm (by rw [List.length_take];omega))
 simp +decide [int,ints,anaD,zab,Lang.d,zai,hlt,hlt',ep,e1,Prt.row]
 refine zac (by rfl) (by rfl) (zn6 g hg hc p) (by simp [D.scalar]) ?_
 simp +decide [int,ints,anaD,zab,Lang.d,zai,hlt,hlt',ep,e1,Prt.row,I64]
 have hz:((zc1 g (a.take k):Nat):Int)*((sN g p:Nat):Int)=((zc1 g (a.take (k+1)):Nat):Int):=by rw [hsn,Int.natCast_mul]
 rw [hz]
 exact ⟨by omega,⟨by omega,by omega⟩,k+1,hlt,by omega,rfl,by omega⟩
def zeg (g:Lang):List Prt→Nat→List Prt
 | [],_=>[]
 | p::ps,n=>⟨p.entry,p.alt,((n%sN g p:Nat):Int)⟩::zeg g ps (n/sN g p)
theorem zgg (g:Lang) : ∀ (a:List Prt) (n:Nat),(zeg g a n).length=a.length
 | [],_=>rfl
 | p::ps,n=>by rw [zeg,List.length_cons,List.length_cons,zgg g ps]
def zkw (g:Lang):List Prt→Nat→Nat
 | [],n=>n
 | p::ps,n=>zkw g ps (n/sN g p)
theorem zzd (g:Lang) : ∀ (a b:List Prt) (n:Nat),zkw g (a++b) n=zkw g b (zkw g a n)
 | [],b,n=>rfl
 | p::ps,b,n=>by rw [List.cons_append,zkw,zkw,zzd g ps b]
theorem zze (g:Lang) : ∀ (a b:List Prt) (n:Nat),zeg g (a++b) n=zeg g a n++zeg g b (zkw g a n)
 | [],b,n=>rfl
 | p::ps,b,n=>by rw [List.cons_append,zeg,zeg,zkw,zze g ps b,List.cons_append]
theorem z6e (g:Lang) : ∀ (a:List Prt) (n:Nat),zkw g a n≤n
 | [],n=>Nat.le_refl _
 | p::ps,n=>Nat.le_trans (z6e g ps _) (Nat.div_le_self _ _)
set_option maxHeartbeats 8000000 in
theorem yja (g:Lang) (hg:LightF g) (hc:LangC g) (a:List Prt) (ha:a.length≤4) (hv : ∀ p∈a,0<sN g p) (n:Nat) (hn:n≤2^20):zam Tryz.prog 100 [g.d,anaD a,int n] (anaD (zeg g a n)):=by
 refine zaa mixed Tryz.func100 rfl call_100 ?_
 simp +decide [Tryz.f100,int,anaD,zab,Lang.d,zai]
 refine ⟨fun p _=>rfl,by omega,by unfold maxLen;omega,?_⟩
 refine zaz mixed (fun k:Nat=>{n:=41,next:=4,slots:=[(2,.d (int (zkw g (a.take k) n))),(3,.bp 0 0),(4,.bp 1 0),(6,.bp 2 0),(7,.ar 3),(8,.d (int k))],own:=[(0,.box 56 (zai g.d)),(1,.box 31 [.d (zab a)]),(2,.box 31 [.nils]),(3,.arr 94 3 ((zeg g (a.take k) n++a.drop k).map Prt.row))],moved:=[3]})
  (fun k=>k≤a.length) (fun k=>a.length-k) 0 (Nat.zero_le _) ?_ ?_
 ·simp +decide [int,ints,anaD,zab,Lang.d,zai,zeg,zkw]
 intro k hk
 refine zao mixed ?_
 by_cases hlt:k<a.length
 case neg=>
  have:k=a.length:=by omega
  subst this;rw [List.take_length,List.drop_length,List.append_nil];have hll:=zgg g a n;simp +decide [int,ints,anaD,zab,Lang.d,zai,hll]
 have hlt':(k:Int)<a.length:=by omega
 obtain ⟨p,ep⟩ : ∃ p,a[k]=p:=⟨_,rfl⟩
 have hvp:0<sN g p:=by rw [← ep];exact hv _ (List.getElem_mem hlt)
 have hvp':¬(sN g p:Int)=0:=by omega
 have hs5:=ycl hg p
 have hmk:zkw g (a.take k) n≤n:=z6e g _ _
 have hN:zkw g (a.take (k+1)) n=zkw g (a.take k) n/sN g p:=by rw [zal hlt,zzd,ep];rfl
 have hL:zeg g (a.take (k+1)) n=zeg g (a.take k) n++[⟨p.entry,p.alt,((zkw g (a.take k) n%sN g p:Nat):Int)⟩]:=by rw [zal hlt,zze,ep];rfl
 have hl1:(zeg g (a.take k) n).length=k:=by rw [zgg,List.length_take];omega
 have hd1:a.drop k=p::a.drop (k+1):=by rw [List.drop_eq_getElem_cons hlt,ep]
 rw [hd1]
 generalize zkw g (a.take k) n=m at hN hL hmk
 generalize zeg g (a.take k) n=L1 at hL hl1
 have hlen:(L1++p::a.drop (k+1)).length=a.length:=by simp [hl1];omega
 have hget:(L1++p::a.drop (k+1))[k]?=some p:=by rw [List.getElem?_append_right (by omega),hl1];simp
 have hset:((L1++p::a.drop (k+1)).map Prt.row).set k [int p.entry,int p.alt,int ((m%sN g p:Nat):Int)]=(zeg g (a.take (k+1)) n++a.drop (k+1)).map Prt.row:=by
  rw [hL,List.append_assoc,List.singleton_append,List.map_append,List.map_append,List.map_cons,List.map_cons,List.set_append_right _ _ (by rw [List.length_map];omega)]
  rw [List.length_map,hl1,Nat.sub_self,List.set_cons_zero];rfl
 have hget2:(zeg g (a.take (k+1)) n++a.drop (k+1))[k]?=some ⟨p.entry,p.alt,((m%sN g p:Nat):Int)⟩:=by
  rw [hL,List.append_assoc,List.singleton_append,List.getElem?_append_right (by omega),hl1];simp
 have hlen2:(zeg g (a.take (k+1)) n++a.drop (k+1)).length=a.length:=by rw [List.length_append,zgg,List.length_take,List.length_drop];omega
 have hS1:=zn6 g hg hc p
 have hS2:=zn6 g hg hc ⟨p.entry,p.alt,((m%sN g p:Nat):Int)⟩
 rw [show sN g ⟨p.entry,p.alt,((m%sN g p:Nat):Int)⟩=sN g p from rfl] at hS2
 generalize L1++p::a.drop (k+1)=L2 at hlen hget hset
 generalize hL3:zeg g (a.take (k+1)) n++a.drop (k+1)=L3 at hset hget2 hlen2
 generalize sN g p=sn at hvp hvp' hs5 hN hS1 hS2 hset hget2
 have htm:(m:Int).tmod (sn:Int)=((m%sn:Nat):Int):=(Int.ofNat_tmod m sn).symm
 have htd:(m:Int).tdiv (sn:Int)=((m/sn:Nat):Int):=(Int.ofNat_tdiv m sn).symm
 have hmq:m/sn≤m:=Nat.div_le_self _ _
 have hvpN:¬ sn=0:=by omega
 generalize m%sn=mm at htm hS2 hset hget2
 generalize m/sn=mq at htd hN hmq
 have hkL:k<L2.length:=by omega
 have hkL':(k:Int)<L2.length:=by omega
 have hkL3:k<L3.length:=by omega
 have hgE:L2[k]=p:=by rw [List.getElem?_eq_getElem hkL] at hget;exact Option.some.inj hget
 simp +decide [int,ints,anaD,zab,Lang.d,zai,hlt,hlt',hkL,hkL',hgE]
 refine yih mixed 12 (by rfl) rfl rfl rfl rfl (by rfl) (by simp) ?_
 simp +decide [int,ints,anaD,zab,Lang.d,zai,hlt,hlt',hkL,hkL',hgE,Prt.row]
 refine zac (by rfl) (by rfl) hS1 (by simp [D.scalar]) ?_
 simp +decide [int,ints,anaD,zab,Lang.d,zai,hlt,hlt',hkL,hkL',hgE,Prt.row,hvp',htm]
 refine ⟨hvpN,?_⟩
 refine zac (by rfl) (by rfl) hS2 (by simp [D.scalar]) ?_
 simp +decide [int,ints,anaD,zab,Lang.d,zai,hlt,hlt',hkL,hkL',hgE,Prt.row,hvp',htm,htd,hvpN,I64]
 exact ⟨by omega,⟨by omega,by omega⟩,k+1,hlt,by omega,⟨by rw [hN],by omega⟩,by rw [← List.map_drop,← List.map_append,hL3];exact hset⟩
set_option maxHeartbeats 8000000 in
theorem ygw (l:List (List Prt)) (a:List Prt) (hl:l.length≤200) (hb : ∀ b∈l,b.length≤4) (ha:a.length≤4):zam Tryz.prog 99 [za1 l,anaD a] (za1 (insL (fun o=>zbq a o) a l)):=by
 refine zaa mixed Tryz.func99 rfl call_99 ?_
 simp +decide [Tryz.f99,int,anaD,zab,za1]
 have hrow : ∀ r∈l.map (fun a=>[D.sl (a.map Prt.row)]),r.length=1:=fun r hr=>by obtain ⟨_,_,rfl⟩:=List.mem_map.1 hr;rfl
 refine zaz mixed (fun k:Nat=>{n:=33,next:=1,slots:=[(0,.d (za1 l)),(3,.bp 0 0),(5,.d (int k))],own:=[(0,.box 31 [.d (zab a)])]})
  (fun k=>k≤l.length∧posL (fun o=>zbq a o) l k=posL (fun o=>zbq a o) l l.length) (fun k=>k) l.length ⟨Nat.le_refl _,rfl⟩ ?_ ?_
 ·simp +decide [int,ints,anaD,zab,za1]
 intro k ⟨hk,hpos⟩
 cases k with
 | zero=>
  refine zao mixed ?_
  simp +decide [int,ints,anaD,zab,za1];refine z0s mixed 12 [27] (by rfl) (by rfl) (by rfl) (by rfl) ?_
  simp +decide [int,ints,anaD,zab,za1];refine ⟨⟨fun r hr=>hrow r (List.mem_of_mem_take hr),by omega,by unfold maxLen;omega⟩,by rfl,?_⟩
  rw [insL,← hpos,posL];simp only [List.take_zero,List.drop_zero,List.nil_append,List.map_cons];rw [List.take_of_length_le (by simp)]
 | succ k=>
  obtain ⟨o,eo⟩ : ∃ o,l[k]=o:=⟨_,rfl⟩;have e1:l[k]?=some o:=by rw [List.getElem?_eq_getElem hk,eo]
  have hol:=hb l[k] (List.getElem_mem hk);rw [eo] at hol;have hLs:=zma a o (by omega) (by omega)
  rw [posL,e1] at hpos;simp only at hpos
  have hk1:(0:Int)<(k:Int)+1:=by omega
  refine zao mixed ?_
  simp +decide [int,ints,anaD,zab,za1,hk,e1,eo,hk1,I64];refine ⟨by omega,hk,?_⟩
  refine zac (by rfl) (by rfl) hLs (by simp [D.scalar]) ?_
  cases hl:zbq a o with
  | true=>
   rw [hl,if_pos rfl] at hpos;simp +decide [int,ints,anaD,zab,za1,hk,e1,eo,hk1,hl,I64];exact ⟨by omega,k,⟨by omega,hpos⟩,by omega,rfl⟩
  | false=>
   rw [hl,if_neg (by decide)] at hpos
   simp +decide [int,ints,anaD,zab,za1,hk,e1,eo,hk1,hl,I64];refine z0s mixed 12 [27] (by rfl) (by rfl) (by rfl) (by rfl) ?_
   simp +decide [int,ints,anaD,zab,za1];refine ⟨by omega,⟨fun r hr=>hrow r (List.mem_of_mem_take hr),by omega,by unfold maxLen;omega⟩,⟨by omega,by unfold maxLen;omega⟩,by omega,⟨fun r hr=>hrow r (List.mem_of_mem_take (List.mem_of_mem_drop hr)),by omega,by unfold maxLen;omega⟩,by rfl,?_⟩
   rw [insL,← hpos,List.map_append,List.map_cons,List.map_take,List.map_drop];congr 3
   rw [List.take_of_length_le (by simp)]
end Go.V
namespace Go.V
open Go Go.Proofs
theorem zrx {g:Lang} : ∀ {a:List Prt} {n:Nat},(∀ p∈a,0<sN g p)→Choice g a (zeg g a n)
 | [],_,_=>trivial
 | p::ps,n,h=>by
  have hp:=h p (List.mem_cons_self ..);have:=Nat.mod_lt n hp
  exact ⟨⟨rfl,rfl,by show (0:Int)≤((n%sN g p:Nat):Int);omega,by show ((n%sN g p:Nat):Int)<(sN g p:Int);omega⟩,zrx fun x hx=>h x (List.mem_cons_of_mem _ hx)⟩
theorem z6f {g:Lang} : ∀ {a q:List Prt},Choice g a q→∃ n,n<zc1 g a∧zeg g a n=q
 | [],[],_=>⟨0,by simp [zc1],rfl⟩
 | [],_::_,h=>h.elim
 | _::_,[],h=>h.elim
 | p::ps,q::qs,h=>by
  obtain ⟨⟨h1,h2,h3,h4⟩,h5⟩:=h;obtain ⟨m,hm,e⟩:=z6f h5;have h4':q.sense.toNat<sN g p:=by unfold sN;omega
  refine ⟨q.sense.toNat+sN g p*m,?_,?_⟩
  ·rw [zc1]
   have:sN g p*(m+1)≤sN g p*zc1 g ps:=Nat.mul_le_mul_left _ hm
   rw [Nat.mul_add,Nat.mul_one] at this;omega
  ·rw [zeg,Nat.add_mul_mod_self_left,Nat.mod_eq_of_lt h4',Nat.add_mul_div_left _ _ (by omega),Nat.div_eq_of_lt h4',Nat.zero_add,e]
   congr 1
   exact Prt.ext' h1.symm h2.symm (by show ((q.sense.toNat:Nat):Int)=q.sense;omega)
theorem z6g {g:Lang} : ∀ {a:List Prt} {n m:Nat},n<zc1 g a→m<zc1 g a→zeg g a n=zeg g a m→n=m
 | [],n,m,hn,hm,_=>by simp [zc1] at hn hm;omega
 | p::ps,n,m,hn,hm,h=>by
  rw [zeg,zeg] at h;obtain ⟨h1,h2⟩:=List.cons.inj h;have h1:=congrArg Prt.sense h1;simp only at h1
  rw [zc1] at hn hm;have h3:=z6g (Nat.div_lt_of_lt_mul hn) (Nat.div_lt_of_lt_mul hm) h2;have e1:=Nat.div_add_mod n (sN g p);have e2:=Nat.div_add_mod m (sN g p);have h4:n%sN g p=m%sN g p:=by omega
  rw [h3,h4] at e1;omega
def zww (g:Lang) (a:List Prt):List (List Prt):=(List.range (zc1 g a)).map fun n=>zeg g a n
theorem zmr {g:Lang} {a q:List Prt} (h : ∀ p∈a,0<sN g p):q∈zww g a↔Choice g a q:=by
 unfold zww
 rw [List.mem_map]
 constructor
 ·rintro ⟨n,_,rfl⟩;exact zrx h
 ·intro hq
  obtain ⟨n,hn,e⟩:=z6f hq;exact ⟨n,List.mem_range.2 hn,e⟩
theorem z3c (g:Lang) (a:List Prt):(zww g a).Nodup:=by
 unfold zww List.Nodup
 rw [List.pairwise_map]
 refine List.Pairwise.imp_of_mem ?_ List.nodup_range
 intro n m hn hm hne e
 exact hne (z6g (List.mem_range.1 hn) (List.mem_range.1 hm) e)
theorem z6h (g:Lang) : ∀ a:List Prt,(sprL g a).length=zc1 g a
 | []=>rfl
 | p::ps=>by
  rw [sprL,zc1,List.length_flatMap];have:(List.map (fun (k:Nat)=>((sprL g ps).map fun t=>(⟨p.entry,p.alt,(k:Int)⟩:Prt)::t).length) (List.range (zcf g.lex p.entry).length))=List.map (fun _=>zc1 g ps) (List.range (zcf g.lex p.entry).length):=by
   refine List.map_congr_left fun k _=>?_
   rw [List.length_map,z6h g ps]
  rw [this];show (List.map (fun _=>zc1 g ps) (List.range (sN g p))).sum=_
  generalize sN g p=n;induction n with
  | zero=>simp
  | succ n ih=>rw [List.range_succ,List.map_append,List.sum_append,ih];simp [Nat.add_mul]
def sumW (g:Lang) (l:List (List Prt)):Nat:=(l.map fun a=>zc1 g a).sum
theorem ygx (g:Lang) (w:List Int):(allT g w).length=sumW g (zb1 g w):=by
 rw [z2q,List.length_flatMap]
 unfold sumW
 congr 1
 exact List.map_congr_left fun a _=>z6h g a
theorem PlainF.pos' {g:Lang} (hg:LightF g) {w:List Int} {b:List Prt} (h:PlainF g w b) : ∀ p∈b,0<sN g p:=by
 intro p hp
 obtain ⟨e,he,alt,ha,rfl⟩:=(h.parts p hp).ok hg
 exact List.length_pos_iff.2 (hg.senses he)
def refT (g:Lang) (w:List Int):List (List Prt):=(zb1 g w).flatMap (zww g)
theorem ygy {g:Lang} (hg:LightF g) {w:List Int} {q:List Prt}:q∈refT g w↔q∈allT g w:=by
 rw [zqh]
 unfold refT
 rw [List.mem_flatMap]
 constructor
 ·rintro ⟨a,ha,hq⟩;exact ⟨a,ha,(zmr ((zcs ha).pos' hg)).1 hq⟩
 ·rintro ⟨a,ha,hq⟩;exact ⟨a,ha,(zmr ((zcs ha).pos' hg)).2 hq⟩
theorem z9b {g:Lang} (hg:LightF g) (w:List Int):(refT g w).Nodup:=by
 unfold refT List.Nodup
 rw [List.pairwise_flatMap]
 refine ⟨fun a _=>z3c g a,List.Pairwise.imp_of_mem ?_ (zrr hg w)⟩
 intro a b ha hb hne x hx y hy e
 subst e
 have h1:=zd9 ((zmr ((zcs ha).pos' hg)).1 hx)
 have h2:=zd9 ((zmr ((zcs hb).pos' hg)).1 hy)
 rw [(zcs ha).bare] at h1
 rw [(zcs hb).bare] at h2
 exact hne (h1.symm.trans h2)
theorem ygz {g:Lang} (hg:LightF g) (w:List Int):insT (refT g w)=insT (allT g w):=
 zza (lt:=zbq) zy1 zlm (zln (z9b hg w)) (zln (zu6 hg w)) fun q=>by rw [zkb,zkb,ygy hg]
end Go.V
namespace Go.V
open Go Go.Proofs
theorem yco (l:List (List Prt)) (a:List Prt):insT (l++[a])=insL (fun x=>zbq a x) a (insT l):=by
 unfold insT;rw [List.foldl_append];rfl
theorem z6i (g:Lang) (a b:List (List Prt)):sumW g (a++b)=sumW g a+sumW g b:=by
 unfold sumW;rw [List.map_append,List.sum_append]
theorem sumW_snoc (g:Lang) {l:List (List Prt)} {i:Nat} (h:i<l.length):sumW g (l.take (i+1))=sumW g (l.take i)+zc1 g l[i]:=by
 rw [zal h,z6i];simp [sumW]
theorem zzf (g:Lang) (l:List (List Prt)) (i:Nat):sumW g (l.take i)≤sumW g l:=by
 have:=z6i g (l.take i) (l.drop i)
 rw [List.take_append_drop] at this
 omega
def preT (g:Lang) (l:List (List Prt)) (i k:Nat):List (List Prt):=(l.take i).flatMap (zww g)++(List.range k).map fun n=>zeg g (l.getD i []) n
theorem yg0 (g:Lang) (l:List (List Prt)) (i k:Nat):(preT g l i k).length=sumW g (l.take i)+k:=by
 unfold preT sumW
 rw [List.length_append,List.length_flatMap,List.length_map,List.length_range]
 congr 2
 refine List.map_congr_left fun a _=>?_
 simp [zww]
theorem z9c {g:Lang} {l:List (List Prt)} (h : ∀ a∈l,a.length≤4) {i k:Nat} {q:List Prt} (hq:q∈preT g l i k):q.length≤4:=by
 unfold preT at hq
 rcases List.mem_append.1 hq with hq | hq
 ·obtain ⟨a,ha,hq⟩:=List.mem_flatMap.1 hq
  unfold zww at hq;obtain ⟨n,_,rfl⟩:=List.mem_map.1 hq;rw [zgg];exact h a (List.mem_of_mem_take ha)
 ·obtain ⟨n,_,rfl⟩:=List.mem_map.1 hq
  rw [zgg];by_cases hi:i<l.length
  ·rw [List.getD_eq_getElem?_getD,List.getElem?_eq_getElem hi];exact h _ (List.getElem_mem hi)
  ·rw [List.getD_eq_getElem?_getD,List.getElem?_eq_none (by omega)];simp
theorem ycp {g:Lang} {l:List (List Prt)} {i:Nat} (h:i<l.length):preT g l i (zc1 g l[i])=preT g l (i+1) 0:=by
 unfold preT
 rw [zal h,List.flatMap_append,List.flatMap_singleton,List.getD_eq_getElem?_getD,List.getElem?_eq_getElem h]
 simp [zww]
theorem ycq {g:Lang} {l:List (List Prt)} {i k:Nat} (h:i<l.length):preT g l i (k+1)=preT g l i k++[zeg g l[i] k]:=by
 unfold preT
 rw [List.range_succ,List.map_append,List.getD_eq_getElem?_getD,List.getElem?_eq_getElem h,List.append_assoc]
 rfl
theorem yg1 (g:Lang) (w:List Int):preT g (zb1 g w) (zb1 g w).length 0=refT g w:=by
 unfold preT refT
 rw [List.take_length]
 simp
theorem yg2 {g:Lang} (hg:LightF g) (w:List Int):allE g w=if zg3 g.inv w≠0 then ([],zg3 g.inv w) else if 200<sumW g (zb1 g w) then ([],11) else (insT (refT g w),0):=by
 rw [yb4,ygx,ygz hg]
set_option maxHeartbeats 16000000 in
theorem ycr (g:Lang) (hg:LightF g) (hc:LangC g) (w:List Int) (hw:w.length≤30):zam Tryz.prog 75 [g.d,ints w] (.tup [za1 (allE g w).1,int (allE g w).2]):=by
 have hP:=z3b g hg hc w hw
 have hW:=zrg g.inv w (by omega)
 have hp4 : ∀ a∈zb1 g w,a.length≤4:=fun a ha=>(zcs ha).len
 have hpv : ∀ a∈zb1 g w,∀ p∈a,0<sN g p:=fun a ha=>(zcs ha).pos' hg
 have hpl:=ycf hg w
 have hall:=yg1 g w
 rw [yg2 hg,← hall]
 generalize zb1 g w=L at hP hp4 hpv hpl
 refine zaa mixed Tryz.func75 rfl call_75 ?_
 generalize zg3 g.inv w=e at hW
 by_cases he:e=0
 case neg=>
  rw [if_pos he];simp +decide [Tryz.f75,zai,Lang.d,int,ints];refine zaj.pure (by rfl) hW (by simp [D.scalar]) ?_
  simp +decide [int,ints,za1,he]
 subst he
 rw [if_neg (by simp)]
 simp +decide [Tryz.f75,zai,Lang.d,int,ints]
 refine zaj.pure (by rfl) hW (by simp [D.scalar]) ?_
 simp +decide [int,ints]
 refine zaj.pure (by rfl) hP (by simp [D.scalar]) ?_
 simp +decide [int,ints,za1]
 refine zaz mixed (fun i:Nat=>{n:=70,next:=1,slots:=[(2,.bp 0 0),(7,.d (za1 L)),(8,.d (int (sumW g (L.take i)))),(9,.d (int i))],own:=[(0,.box 56 (zai g.d))]})
  (fun i=>i≤L.length∧sumW g (L.take i)≤825) (fun i=>L.length-i) 0 ⟨Nat.zero_le _,by simp [sumW]⟩ ?_ ?_
 ·simp +decide [int,ints,za1,sumW,zai,Lang.d]
 intro i ⟨hi,hs⟩
 have htk:=zzf g L i
 refine zao mixed ?_
 by_cases hbig:200<sumW g (L.take i)
 case pos=>
  have hb1:¬((sumW g (L.take i):Nat):Int)≤200:=by omega
  have hb2:(200:Int)<((sumW g (L.take i):Nat):Int):=by omega
  have hb3:200<sumW g L:=by omega
  rw [if_pos hb3];by_cases hlt:i<L.length
  ·have hlt':(i:Int)<L.length:=by omega
   simp +decide [int,ints,za1,hlt,hlt',hb1,hb2,hbig,I64]
  ·have hlt':¬(i:Int)<L.length:=by omega
   simp +decide [int,ints,za1,hlt,hlt',hb1,hb2,hbig,I64]
 have hb1:((sumW g (L.take i):Nat):Int)≤200:=by omega
 have hb2:¬(200:Int)<((sumW g (L.take i):Nat):Int):=by omega
 by_cases hlt:i<L.length
 case pos=>
  have hlt':(i:Int)<L.length:=by omega
  obtain ⟨a,ea⟩ : ∃ a,L[i]=a:=⟨_,rfl⟩;have e1:L[i]?=some a:=by rw [List.getElem?_eq_getElem hlt,ea]
  have ha4:=hp4 L[i] (List.getElem_mem hlt);rw [ea] at ha4;have hsn:=sumW_snoc g hlt;rw [ea] at hsn;have hw5:=Nat.le_trans (zn7 hg a) (ycm ha4);have hWy:=ycn g hg hc a ha4;simp +decide [int,ints,za1,zai,Lang.d,hlt,hlt',hb1,hb2,ea,e1,I64];refine zac (by rfl) (by rfl) hWy (by simp [D.scalar]) ?_
  simp +decide [int,ints,za1,zai,Lang.d,hlt,hlt',hb1,hb2,ea,e1,I64];have hz:((sumW g (L.take i):Nat):Int)+((zc1 g a:Nat):Int)=((sumW g (L.take (i+1)):Nat):Int):=by omega
  rw [hz];exact ⟨by omega,⟨by omega,by omega⟩,i+1,⟨hlt,by omega⟩,by omega,rfl,by omega⟩
 have:i=L.length:=by omega
 subst this
 have hlt':¬(L.length:Int)<L.length:=by omega
 rw [List.take_length] at hb1 hb2 hbig hs ⊢
 rw [if_neg hbig]
 simp +decide [int,ints,za1,hb1,hb2,hbig,I64]
 refine ze5 [1] ?_
 refine zaz mixed (fun i:Nat=>{n:=70,next:=2,slots:=[(2,.bp 0 0),(7,.d (za1 L)),(10,.d (za1 (insT (preT g L i 0)))),(11,.d (int i))],own:=[(0,.box 56 (zai g.d))]})
  (fun i=>i≤L.length) (fun i=>L.length-i) 0 (Nat.zero_le _) ?_ ?_
 ·simp +decide [int,ints,za1,zai,Lang.d,preT,insT]
 intro i hi
 refine zao mixed ?_
 by_cases hlt:i<L.length
 case neg=>
  have:i=L.length:=by omega
  subst this;simp +decide [int,ints,za1,zai,Lang.d]
 have hlt':(i:Int)<L.length:=by omega
 simp +decide [int,ints,za1,hlt,hlt']
 refine zaz mixed (fun k:Nat=>{n:=70,next:=2,slots:=[(2,.bp 0 0),(7,.d (za1 L)),(10,.d (za1 (insT (preT g L i k)))),(11,.d (int i)),(12,.d (int k))],own:=[(0,.box 56 (zai g.d))]})
  (fun k=>k≤zc1 g L[i]) (fun k=>zc1 g L[i]-k) 0 (Nat.zero_le _) ?_ ?_
 ·simp +decide [int,ints,za1,zai,Lang.d]
 intro k hk
 obtain ⟨a,ea⟩ : ∃ a,L[i]=a:=⟨_,rfl⟩
 have e1:L[i]?=some a:=by rw [List.getElem?_eq_getElem hlt,ea]
 have ha4:=hp4 L[i] (List.getElem_mem hlt)
 have hav:=hpv L[i] (List.getElem_mem hlt)
 have hsn:=sumW_snoc g hlt
 have htk2:=zzf g L (i+1)
 have hnext:=ycp (g:=g) hlt
 have hsnoc:=ycq (g:=g) (k:=k) hlt
 have hpl2:=yg0 g L i k
 have hps:=fun q=>z9c (g:=g) hp4 (i:=i) (k:=k) (q:=q)
 rw [ea] at ha4 hav hsn hnext hsnoc hk ⊢
 have hWy:=ycn g hg hc a ha4
 refine zao mixed ?_
 simp +decide [int,ints,za1,zai,Lang.d,hlt,hlt',ea,e1,I64]
 refine zac (by rfl) (by rfl) hWy (by simp [D.scalar]) ?_
 by_cases hka:k<zc1 g a
 case neg=>
  have:k=zc1 g a:=by omega
  subst this;simp +decide [int,ints,za1,zai,Lang.d,hlt,hlt',ea,e1,I64];exact ⟨⟨by omega,by omega⟩,i+1,hlt,by omega,by rw [hnext],by omega⟩
 have hka':(k:Int)<zc1 g a:=by omega
 have hT:=yja g hg hc a ha4 hav k (by omega)
 have hPt:=ygw (insT (preT g L i k)) (zeg g a k) (by rw [z6b,hpl2];omega) (fun q hq=>hps q (zkb.1 hq)) (by rw [zgg];exact ha4)
 rw [← yco,← hsnoc] at hPt
 simp +decide [int,ints,za1,zai,Lang.d,hlt,hlt',ea,e1,I64,hka,hka']
 refine zac (by rfl) (by rfl) hT (by simp [D.scalar]) ?_
 simp +decide [int,ints,za1,anaD,zai,Lang.d,hlt,hlt',ea,e1,I64,hka,hka']
 refine zac (by rfl) (by rfl) hPt (by simp [D.scalar]) ?_
 simp +decide [int,ints,za1,anaD,zai,Lang.d,hlt,hlt',ea,e1,I64,hka,hka']
 exact ⟨⟨by omega,by omega⟩,k+1,hka,by omega,rfl,by omega⟩
end Go.V
namespace Go.V
open Go Go.Proofs
def begB (s t:ByteArray):Bool:=decide (t.size≤s.size)&&decide (s.extract 0 t.size=t)
theorem z3d (s t:ByteArray) (hs:s.size<2^40):zam Tryz.prog 141 [.str s,.str t] (.bool (begB s t)):=by
 refine zaa mixed Tryz.func141 rfl call_141 ?_
 unfold begB
 by_cases h:t.size≤s.size
 ·have h':(t.size:Int)≤s.size:=by omega
  have hq:((s.extract 0 t.size).toList==t.toList)=decide (s.extract 0 t.size=t):=by
   by_cases e:s.extract 0 t.size=t
   ·rw [e];simp
   ·rw [decide_eq_false e,beq_eq_false_iff_ne];exact fun e'=>e (bytes_inj e')
  simp +decide [Tryz.f141,int,h,h',hq]
 ·have h':¬(t.size:Int)≤s.size:=by omega
  simp +decide [Tryz.f141,int,h,h']
def zfp (us:List Grap) (t:ByteArray):Nat→Option Nat
 | 0=>none
 | k+1=>match us[k]? with
  | none=>zfp us t k
  | some u=>if begB t u.graph=true then (match zfp us t k with
    | none=>some k
    | some b=>if ((us[b]?.map fun v=>v.graph.size).getD 0)<u.graph.size then some k else some b)
   else zfp us t k
def optI:Option Nat→Int
 | none=>-1
 | some b=>b
theorem zfw {us:List Grap} {t:ByteArray} : ∀ {k b:Nat},zfp us t k=some b→b<k∧b<us.length
 | 0,b,h=>by cases h
 | k+1,b,h=>by
  unfold zfp at h;split at h
  ·exact ⟨by have:=(zfw h).1;omega,(zfw h).2⟩
  ·rename_i u hu
   have hkl:k<us.length:=(List.getElem?_eq_some_iff.1 hu).1
   split at h
   ·split at h
    ·obtain rfl:=Option.some.inj h;exact ⟨by omega,hkl⟩
    ·rename_i b' hb'
     split at h
     ·obtain rfl:=Option.some.inj h;exact ⟨by omega,hkl⟩
     ·obtain rfl:=Option.some.inj h
      exact ⟨by have:=(zfw hb').1;omega,(zfw hb').2⟩
   ·exact ⟨by have:=(zfw h).1;omega,(zfw h).2⟩
set_option maxHeartbeats 8000000 in
theorem zzg (o:Orth) (ho:OrthC o) (s:ByteArray) (hs:s.size<2^40):zam Tryz.prog 104 [.agg o.cells,.str s] (int (optI (zfp o.units s o.units.length))):=by
 have hfew:=ho.few.1
 refine zaa mixed Tryz.func104 rfl call_104 ?_
 simp +decide [Tryz.f104,int,Orth.cells]
 refine zaz mixed (fun k:Nat=>{n:=42,next:=1,slots:=[(1,.d (.str s)),(2,.bp 0 0),(5,.d (int (optI (zfp o.units s k)))),(6,.d (int k))],own:=[(0,.box 48 (o.cells.map .d))]})
  (fun k=>k≤o.units.length) (fun k=>o.units.length-k) 0 (Nat.zero_le _) ?_ ?_
 ·simp +decide [int,za8,Orth.cells,zfp,optI]
 intro k hk
 refine zao mixed ?_
 by_cases hlt:k<o.units.length
 case neg=>
  have:k=o.units.length:=by omega
  subst this;simp +decide [int,za8,Orth.cells]
 have hlt':(k:Int)<o.units.length:=by omega
 obtain ⟨u,eu⟩ : ∃ u,o.units[k]=u:=⟨_,rfl⟩
 have eu1:o.units[k]?=some u:=by rw [List.getElem?_eq_getElem hlt,eu]
 have hug:=(ho.units o.units[k] (List.getElem_mem hlt)).1
 rw [eu] at hug
 have hB:=z3d s u.graph hs
 have hstep:zfp o.units s (k+1)=if begB s u.graph=true then (match zfp o.units s k with
    | none=>some k
    | some b=>if ((o.units[b]?.map fun v=>v.graph.size).getD 0)<u.graph.size then some k else some b)
   else zfp o.units s k:=by rw [zfp,eu1]
 simp +decide [int,za8,Orth.cells,hlt,hlt',eu,eu1,Grap.row]
 refine zaj.pure (by rfl) hB (by simp [D.scalar]) ?_
 cases hb:begB s u.graph with
 | false=>
  rw [hb,if_neg (by decide)] at hstep
  simp +decide [int,za8,Orth.cells,hlt,hlt',eu,eu1,Grap.row,I64];exact ⟨⟨by omega,by omega⟩,k+1,hlt,by omega,by rw [hstep],by omega⟩
 | true=>
  rw [hb,if_pos rfl] at hstep;cases hbb:zfp o.units s k with
  | none=>
   rw [hbb] at hstep;simp only at hstep
   simp +decide [int,za8,Orth.cells,hlt,hlt',eu,eu1,Grap.row,I64,optI];exact ⟨⟨by omega,by omega⟩,k+1,hlt,by omega,by rw [hstep],by omega⟩
  | some b=>
   have hbl:=(zfw hbb).2;have hbl':(b:Int)<o.units.length:=by omega
   rw [hbb] at hstep;simp only at hstep
   obtain ⟨v,ev⟩ : ∃ v,o.units[b]=v:=⟨_,rfl⟩;have ev1:o.units[b]?=some v:=by rw [List.getElem?_eq_getElem hbl,ev]
   rw [ev1] at hstep;simp only [Option.map_some,Option.getD_some] at hstep;have hnb:¬(b:Int)<0:=by omega
   by_cases hc:v.graph.size<u.graph.size
   ·have hc':(v.graph.size:Int)<u.graph.size:=by omega
    rw [if_pos hc] at hstep;simp +decide [int,za8,Orth.cells,hlt,hlt',eu,eu1,Grap.row,I64,optI,hbl,hbl',ev,ev1,hc,hc',hnb];exact ⟨⟨by omega,by omega⟩,k+1,hlt,by omega,by rw [hstep],by omega⟩
   ·have hc':¬(v.graph.size:Int)<u.graph.size:=by omega
    rw [if_neg hc] at hstep;simp +decide [int,za8,Orth.cells,hlt,hlt',eu,eu1,Grap.row,I64,optI,hbl,hbl',ev,ev1,hc,hc',hnb];exact ⟨⟨by omega,by omega⟩,k+1,hlt,by omega,by rw [hstep],by omega⟩
def zcw (us:List Grap) (s:ByteArray):Nat→Nat→List Nat×Nat
 | 0,at_=>([],at_)
 | f+1,at_=>if at_<s.size then (match zfp us (s.extract at_ s.size) us.length with
   | none=>([],at_)
   | some b=>(b::(zcw us s f (at_+((us[b]?.map fun v=>v.graph.size).getD 0))).1,(zcw us s f (at_+((us[b]?.map fun v=>v.graph.size).getD 0))).2))
  else ([],at_)
theorem zms {us:List Grap} {t:ByteArray} : ∀ {k b:Nat},zfp us t k=some b→∃ v,us[b]?=some v∧begB t v.graph=true
 | 0,b,h=>by cases h
 | k+1,b,h=>by
  unfold zfp at h;split at h
  ·exact zms h
  ·rename_i u hu
   split at h
   ·rename_i hb
    split at h
    ·obtain rfl:=Option.some.inj h;exact ⟨u,hu,hb⟩
    ·rename_i b' hb'
     split at h
     ·obtain rfl:=Option.some.inj h;exact ⟨u,hu,hb⟩
     ·obtain rfl:=Option.some.inj h;exact zms hb'
   ·exact zms h
def zg4 (l:List Nat):D:=.sl (l.map fun (n:Nat)=>[int (n:Int)])
set_option maxHeartbeats 8000000 in
theorem z9d (o:Orth) (ho:OrthC o) (hp : ∀ u∈o.units,0<u.graph.size) (s:ByteArray) (hs:s.size<2^30):zam Tryz.prog 79 [.agg o.cells,.str s] (.tup [zg4 (zcw o.units s s.size 0).1,int (zcw o.units s s.size 0).2]):=by
 refine zaa mixed Tryz.func79 rfl call_79 ?_
 obtain ⟨T,eT⟩ : ∃ T,zcw o.units s s.size 0=T:=⟨_,rfl⟩
 rw [eT]
 simp +decide [Tryz.f79,int,Orth.cells]
 refine zaz mixed (fun x:List Nat×Nat=>{n:=37,next:=3,slots:=[(1,.d (.str s)),(2,.bp 0 0),(6,.ar 2),(7,.d (int x.2))],own:=[(0,.box 48 (o.cells.map .d)),(2,.arr 3 1 (x.1.map fun (n:Nat)=>[int (n:Int)]))],moved:=[2]})
  (fun x=>x.2≤s.size∧x.1.length≤x.2∧∃ f,s.size-x.2≤f∧T=(x.1++(zcw o.units s f x.2).1,(zcw o.units s f x.2).2)) (fun x=>s.size-x.2) ([],0) ⟨Nat.zero_le _,Nat.zero_le _,s.size,by omega,by rw [← eT];rfl⟩ ?_ ?_
 ·simp +decide [int,ints,Orth.cells]
 rintro ⟨out,at_⟩ ⟨hat,hol,f,hf,hT⟩
 simp only at hat hol hf hT
 refine zao mixed ?_
 by_cases hlt:at_<s.size
 case neg=>
  have hu:zcw o.units s f at_=([],at_):=by
   cases f with
   | zero=>rfl
   | succ f=>rw [zcw,if_neg hlt]
  rw [hu,List.append_nil] at hT;subst hT;have hlt':¬(at_:Int)<s.size:=by omega
  simp +decide [int,ints,Orth.cells,hlt,hlt',zg4]
 have hlt':(at_:Int)<s.size:=by omega
 obtain ⟨f,rfl⟩ : ∃ f',f=f'+1:=⟨f-1,by omega⟩
 rw [zcw,if_pos hlt] at hT
 have hL:=zzg o ho (s.extract at_ s.size) (by simp;omega)
 simp +decide [int,ints,Orth.cells,hlt,hlt']
 refine ⟨by omega,?_⟩
 refine zac (by rfl) (by rfl) hL (by simp [D.scalar]) ?_
 cases hb:zfp o.units (s.extract at_ s.size) o.units.length with
 | none=>
  rw [hb] at hT;simp only [List.append_nil] at hT;subst hT;simp +decide [int,ints,Orth.cells,hlt,hlt',optI,zg4]
 | some b=>
  rw [hb] at hT;simp only at hT
  obtain ⟨v,hv,hbg⟩:=zms hb;have hbl:=(zfw hb).2;have hbl':(b:Int)<o.units.length:=by omega
  have hve:o.units[b]=v:=by rw [List.getElem?_eq_getElem hbl] at hv;exact Option.some.inj hv
  have hvp:=hp v (List.mem_of_getElem? hv);have hvs:at_+v.graph.size≤s.size:=by
   unfold begB at hbg;rw [Bool.and_eq_true,decide_eq_true_eq] at hbg;have:=hbg.1
   simp at this
   omega
  rw [hv] at hT;simp only [Option.map_some,Option.getD_some] at hT;have hnb:¬(b:Int)<0:=by omega
  simp +decide [int,ints,Orth.cells,za8,hlt,hlt',optI,hbl,hbl',hv,hve,hnb,Grap.row,I64];exact ⟨by omega,by unfold maxLen;omega,⟨by omega,by omega⟩,out++[b],at_+v.graph.size,⟨hvs,by simp;omega,f,by omega,by rw [hT,List.append_assoc];rfl⟩,by omega,by omega,by simp⟩
theorem zry {us:List Grap} {s:ByteArray} : ∀ {f at_:Nat},∀ b∈(zcw us s f at_).1,b<us.length
 | 0,_,b,h=>by cases h
 | f+1,at_,b,h=>by
  unfold zcw at h;split at h
  ·split at h
   ·cases h
   ·rename_i c hc
    rcases List.mem_cons.1 h with e | h
    ·rw [e];exact (zfw hc).2
    ·exact zry b h
  ·cases h
theorem zn8 {us:List Grap} {s:ByteArray} : ∀ {f at_:Nat},(zcw us s f at_).1.length≤f
 | 0,_=>Nat.le_refl _
 | f+1,at_=>by
  unfold zcw;split
  ·split
   ·exact Nat.zero_le _
   ·rw [List.length_cons];exact Nat.succ_le_succ zn8
  ·exact Nat.zero_le _
def zi4 (us:List Grap) (l:List Nat):List Int:=l.flatMap fun b=>(us[b]?.map fun v=>v.segs).getD []
def ze1 (us:List Grap) (s:ByteArray):List Int×Int×Int:=
 if s.size=0 then ([],0,4) else if (zcw us s s.size 0).2<s.size then ([],(zcw us s s.size 0).2,20) else if 24<(zi4 us (zcw us s s.size 0).1).length then ([],0,5) else (zi4 us (zcw us s s.size 0).1,0,0)
theorem zu9 {us:List Grap} {l:List Nat} {k b:Nat} {v:Grap} (h:k<l.length) (hb:l[k]=b) (hv:us[b]?=some v):zi4 us (l.take (k+1))=zi4 us (l.take k)++v.segs:=by
 unfold zi4
 rw [zal h,List.flatMap_append,List.flatMap_singleton,hb,hv]
 rfl
theorem zrz {us:List Grap} (hs : ∀ u∈us,u.segs.length≤1048576) : ∀ l:List Nat,(zi4 us l).length≤l.length*1048576
 | []=>by simp [zi4]
 | b::l=>by
  have ih:=zrz hs l;unfold zi4 at ih ⊢;rw [List.flatMap_cons,List.length_append,List.length_cons];have:((us[b]?.map fun v=>v.segs).getD []).length≤1048576:=by
   cases h:us[b]? with
   | none=>simp
   | some v=>exact hs v (List.mem_of_getElem? h)
  omega
set_option maxHeartbeats 8000000 in
theorem zzh (o:Orth) (ho:OrthC o) (hp : ∀ u∈o.units,0<u.graph.size) (s:ByteArray) (hs:s.size≤1024):zam Tryz.prog 54 [.agg o.cells,.str s] (.tup [ints (ze1 o.units s).1,int (ze1 o.units s).2.1,int (ze1 o.units s).2.2]):=by
 have hU:=z9d o ho hp s (by omega)
 have hlt0:=fun b=>zry (us:=o.units) (s:=s) (f:=s.size) (at_:=0) b
 have hln:=zn8 (us:=o.units) (s:=s) (f:=s.size) (at_:=0)
 refine zaa mixed Tryz.func54 rfl call_54 ?_
 unfold ze1
 generalize zcw o.units s s.size 0=T at hU hlt0 hln
 obtain ⟨l,e⟩:=T
 simp only at hU hlt0 hln
 by_cases h0:s.size=0
 ·have hq:s=ByteArray.empty:=ByteArray.ext (Array.eq_empty_of_size_eq_zero (by simpa using h0))
  subst hq;simp +decide [Tryz.f54,int,ints,Orth.cells]
 rw [if_neg h0]
 have hq:(s.toList==[] )=false:=by
  rw [beq_eq_false_iff_ne];intro e;have:s=ByteArray.empty:=bytes_inj (e.trans (by first | simp | (unfold ByteArray.toList;rw [ByteArray.toList.loop];rfl)))
  exact h0 (by rw [this];rfl)
 simp +decide [Tryz.f54,int,ints,Orth.cells,hq]
 refine zaj.pure (by rfl) hU (by simp [D.scalar]) ?_
 by_cases he:e<s.size
 ·have he':(e:Int)<s.size:=by omega
  simp +decide [int,ints,Orth.cells,he,he',zg4]
 have he':¬(e:Int)<s.size:=by omega
 rw [if_neg he]
 simp +decide [int,ints,Orth.cells,he,he',zg4]
 refine zaz mixed (fun k:Nat=>{n:=45,next:=3,slots:=[(2,.bp 0 0),(7,.d (zg4 l)),(9,.ar 2),(10,.d (int k))],own:=[(0,.box 48 (o.cells.map .d)),(2,.arr 3 1 ((zi4 o.units (l.take k)).map fun n=>[int n]))],moved:=[2]})
  (fun k=>k≤l.length) (fun k=>l.length-k) 0 (Nat.zero_le _) ?_ ?_
 ·simp +decide [int,ints,Orth.cells,zi4,zg4]
 intro k hk
 refine zao mixed ?_
 by_cases hlt:k<l.length
 case neg=>
  have:k=l.length:=by omega
  subst this;rw [List.take_length];generalize zi4 o.units l=W;by_cases h24:24<W.length
  ·have h24':(24:Int)<W.length:=by omega
   simp +decide [int,ints,Orth.cells,zg4,h24,h24']
  ·have h24':¬(24:Int)<W.length:=by omega
   simp +decide [int,ints,Orth.cells,zg4,h24,h24']
 have hlt':(k:Int)<l.length:=by omega
 obtain ⟨b,eb⟩ : ∃ b,l[k]=b:=⟨_,rfl⟩
 have eb1:l[k]?=some b:=by rw [List.getElem?_eq_getElem hlt,eb]
 have hbl:b<o.units.length:=by rw [← eb];exact hlt0 _ (List.getElem_mem hlt)
 have hbl':(b:Int)<o.units.length:=by omega
 obtain ⟨v,ev⟩ : ∃ v,o.units[b]=v:=⟨_,rfl⟩
 have ev1:o.units[b]?=some v:=by rw [List.getElem?_eq_getElem hbl,ev]
 have hvs:=(ho.units o.units[b] (List.getElem_mem hbl)).2
 rw [ev] at hvs
 have htk:=zu9 (us:=o.units) hlt eb ev1
 have hsl:=zrz (us:=o.units) (fun u hu=>(ho.units u hu).2) (l.take k)
 rw [List.length_take] at hsl
 have hsl:(zi4 o.units (l.take k)).length≤1024*1048576:=Nat.le_trans hsl (Nat.mul_le_mul_right _ (by omega))
 generalize zi4 o.units (l.take k)=W at htk hsl
 simp +decide [int,ints,Orth.cells,zg4,za8,Grap.row,hlt,hlt',eb,eb1,hbl,hbl',ev,ev1,I64]
 refine z0w mixed 10 (by rfl) (by rfl) (by rfl) (by rfl) (by simp) ?_
 simp +decide [int,ints,Orth.cells,zg4,za8,Grap.row,hlt,hlt',eb,eb1,hbl,hbl',ev,ev1,I64]
 exact ⟨by omega,by unfold maxLen;omega,⟨by omega,by omega⟩,k+1,hlt,by omega,by omega,by rw [htk,List.map_append]⟩
end Go.V
namespace Go.V
open Go Go.Proofs
def zzi (us:List Grap):Nat:=us.foldl (fun m u=>max m u.graph.size) 0
theorem z9e {us:List Grap} {k:Nat} {u:Grap} (h:k<us.length) (hu:us[k]=u):zzi (us.take (k+1))=max (zzi (us.take k)) u.graph.size:=by
 unfold zzi
 rw [zal h,List.foldl_append,hu];rfl
theorem z9f (us:List Grap) : ∀ m,m≤us.foldl (fun m u=>max m u.graph.size) m∧∀ u∈us,u.graph.size≤us.foldl (fun m u=>max m u.graph.size) m:=by
 induction us with
 | nil=>intro m;exact ⟨Nat.le_refl _,fun u h=>by cases h⟩
 | cons v us ih=>
  intro m;obtain ⟨h1,h2⟩:=ih (max m v.graph.size);rw [List.foldl_cons];refine ⟨by omega,fun u hu=>?_⟩
  rcases List.mem_cons.1 hu with e | hu
  ·rw [e];omega
  ·exact h2 u hu
theorem yg3 {us:List Grap} {u:Grap} (h:u∈us):u.graph.size≤zzi us:=(z9f us 0).2 u h
theorem ycs {us:List Grap} {c:Nat} (h : ∀ u∈us,u.graph.size≤c) : ∀ m,m≤c→us.foldl (fun m u=>max m u.graph.size) m≤c:=by
 induction us with
 | nil=>intro m hm;exact hm
 | cons v us ih=>
  intro m hm;rw [List.foldl_cons];exact ih (fun u hu=>h u (List.mem_cons_of_mem _ hu)) _ (by have:=h v (List.mem_cons_self ..);omega)
theorem yct {s t:ByteArray} {at_:Nat} (h:begB (s.extract at_ s.size) t=true):t.size≤s.size-at_:=by
 unfold begB at h
 rw [Bool.and_eq_true,decide_eq_true_eq] at h
 have:=h.1
 simp at this
 omega
theorem yjb {s:ByteArray} {at_ n:Nat} (h:at_+n≤s.size):(s.extract at_ s.size).extract 0 n=s.extract at_ (at_+n):=by
 rw [ByteArray.extract_extract]
 congr 1
 omega
theorem zwx {s t:ByteArray} {at_ n:Nat} (hn:t.size=n) (h:at_+n≤s.size):begB (s.extract at_ s.size) t=true↔t=s.extract at_ (at_+n):=by
 unfold begB
 rw [Bool.and_eq_true,decide_eq_true_eq,decide_eq_true_eq,hn,yjb h]
 constructor
 ·rintro ⟨_,e⟩;exact e.symm
 ·intro e;exact ⟨by rw [ByteArray.size_extract];omega,e.symm⟩
theorem zn9 {us:List Grap} {t:ByteArray} (h : ∀ u∈us,begB t u.graph=false) : ∀ {k:Nat},zfp us t k=none
 | 0=>rfl
 | k+1=>by
  rw [zfp];cases hu:us[k]? with
  | none=>exact zn9 h
  | some u=>
   simp only
   rw [if_neg (by rw [h u (List.mem_of_getElem? hu)];decide)]
   exact zn9 h
theorem zr0 {us:List Grap} {t:ByteArray} {i:Nat} {v:Grap} (hv:us[i]?=some v) (hb:begB t v.graph=true) (hmax : ∀ u∈us,begB t u.graph=true→u.graph.size≤v.graph.size)
  (hfst : ∀ u∈us.take i,begB t u.graph=true→u.graph.size<v.graph.size) : ∀ {k:Nat},(k≤i→∀ b,zfp us t k=some b→∃ w∈us.take i,us[b]?=some w∧begB t w.graph=true)∧(i<k→zfp us t k=some i)
 | 0=>⟨(by intro _ b h;cases h),(by intro h;omega)⟩
 | k+1=>by
  obtain ⟨h1,h2⟩:=zr0 hv hb hmax hfst (k:=k);have hil:i<us.length:=(List.getElem?_eq_some_iff.1 hv).1
  constructor
  ·intro hk b h
   have hkl:k<us.length:=by omega
   have ek:us[k]?=some us[k]:=List.getElem?_eq_getElem hkl
   have hin:us[k]∈us.take i:=List.mem_iff_getElem.2 ⟨k,by rw [List.length_take];omega,by rw [List.getElem_take]⟩
   rw [zfp,ek] at h;simp only at h
   split at h
   ·rename_i hbk
    split at h
    ·obtain rfl:=Option.some.inj h;exact ⟨_,hin,ek,hbk⟩
    ·rename_i b' hb'
     split at h
     ·obtain rfl:=Option.some.inj h;exact ⟨_,hin,ek,hbk⟩
     ·obtain rfl:=Option.some.inj h;exact h1 (by omega) _ hb'
   ·exact h1 (by omega) b h
  ·intro hk
   rw [zfp];by_cases hki:k=i
   ·subst hki
    rw [hv];simp only
    rw [if_pos hb];cases hbk:zfp us t k with
    | none=>rfl
    | some b=>
     simp only
     obtain ⟨w,hw,ew,hwb⟩:=h1 (Nat.le_refl _) b hbk;rw [ew,Option.map_some,Option.getD_some,if_pos (hfst w hw hwb)]
   ·rw [h2 (by omega)]
    cases hu:us[k]? with
    | none=>rfl
    | some u=>
     simp only
     split
     ·rename_i hub
      rw [hv,if_neg (by have:=hmax u (List.mem_of_getElem? hu) hub;simp;omega)]
     ·rfl
set_option maxHeartbeats 8000000 in
theorem z9g (o:Orth) (ho:OrthC o) (hp : ∀ u∈o.units,0<u.graph.size) (s:ByteArray) (hs:s.size<2^30):zam Tryz.prog 76 [.agg o.cells,.str s] (.tup [zg4 (zcw o.units s s.size 0).1,int (zcw o.units s s.size 0).2]):=by
 refine zaa mixed Tryz.func76 rfl call_76 ?_
 have hfew:=ho.few.1
 obtain ⟨T,eT⟩ : ∃ T,zcw o.units s s.size 0=T:=⟨_,rfl⟩
 rw [eT]
 simp +decide [Tryz.f76,int,Orth.cells,za8]
 refine zaz mixed (fun k:Nat=>{n:=68,next:=2,slots:=[(1,.d (.str s)),(2,.bp 0 0),(6,.d (int (zzi (o.units.take k)))),(15,.d (za8 o.units)),(16,.d (int o.units.length)),(17,.d (int k))],own:=[(0,.box 48 (o.cells.map .d))]})
  (fun k=>k≤o.units.length) (fun k=>o.units.length-k) 0 (Nat.zero_le _) ?_ ?_
 ·simp +decide [int,za8,Orth.cells,zzi]
 intro k hk
 refine zao mixed ?_
 by_cases hlt:k<o.units.length
 case pos=>
  have hlt':(k:Int)<o.units.length:=by omega
  obtain ⟨u,eu⟩ : ∃ u,o.units[k]=u:=⟨_,rfl⟩;have eu1:o.units[k]?=some u:=by rw [List.getElem?_eq_getElem hlt,eu]
  have hug:=(ho.units o.units[k] (List.getElem_mem hlt)).1;rw [eu] at hug;have hm:=z9e hlt eu;simp +decide [int,za8,Orth.cells,hlt,hlt',eu,eu1,Grap.row,I64];refine ⟨⟨by omega,by omega⟩,k+1,hlt,by omega,?_,by omega⟩
  rw [hm];split <;> omega
 have:k=o.units.length:=by omega
 subst this
 rw [List.take_length]
 simp +decide [int,za8,Orth.cells]
 have hmc:zzi o.units≤1048576:=ycs (fun u hu=>(ho.units u hu).1) 0 (by omega)
 have hml:=fun u=>yg3 (us:=o.units) (u:=u)
 generalize zzi o.units=most at hmc hml
 refine zaz mixed (fun x:List Nat×Nat=>{n:=68,next:=3,slots:=[(1,.d (.str s)),(2,.bp 0 0),(6,.d (int most)),(9,.ar 2),(10,.d (int x.2))],own:=[(0,.box 48 (o.cells.map .d)),(2,.arr 3 1 (x.1.map fun (n:Nat)=>[int (n:Int)]))],moved:=[2]})
  (fun x=>x.2≤s.size∧x.1.length≤x.2∧∃ f,s.size-x.2≤f∧T=(x.1++(zcw o.units s f x.2).1,(zcw o.units s f x.2).2)) (fun x=>s.size-x.2) ([],0) ⟨Nat.zero_le _,Nat.zero_le _,s.size,by omega,by rw [← eT];rfl⟩ ?_ ?_
 ·simp +decide [int,ints,Orth.cells,za8]
 rintro ⟨out,at_⟩ ⟨hat,hol,f,hf,hT⟩
 simp only at hat hol hf hT
 refine zao mixed ?_
 by_cases hlt:at_<s.size
 case neg=>
  have hu:zcw o.units s f at_=([],at_):=by
   cases f with
   | zero=>rfl
   | succ f=>rw [zcw,if_neg hlt]
  rw [hu,List.append_nil] at hT;subst hT;have hlt':¬(at_:Int)<s.size:=by omega
  simp +decide [int,ints,Orth.cells,hlt,hlt',zg4]
 have hlt':(at_:Int)<s.size:=by omega
 obtain ⟨f,rfl⟩ : ∃ f',f=f'+1:=⟨f-1,by omega⟩
 rw [zcw,if_pos hlt] at hT
 simp +decide [int,ints,Orth.cells,za8,hlt,hlt',I64]
 refine ⟨by omega,?_⟩
 refine zaz mixed (fun n:Nat=>{n:=68,next:=3,slots:=[(1,.d (.str s)),(2,.bp 0 0),(6,.d (int most)),(9,.ar 2),(10,.d (int at_)),(11,.d (int n))],own:=[(0,.box 48 (o.cells.map .d)),(2,.arr 3 1 (out.map fun (n:Nat)=>[int (n:Int)]))],moved:=[2]})
  (fun n=>n≤s.size-at_∧∀ u∈o.units,begB (s.extract at_ s.size) u.graph=true→u.graph.size≤n) (fun n=>n) (min most (s.size-at_)) ⟨by omega,fun u hu hb=>?_⟩ ?_ ?_
 ·have h1:=hml u hu
  have h2:=(yct hb);omega
 ·simp +decide [int,ints,Orth.cells,za8]
  split <;> omega
 intro n ⟨hn,hbeg⟩
 refine zao mixed ?_
 by_cases hn0:n=0
 ·subst hn0
  have hbn:zfp o.units (s.extract at_ s.size) o.units.length=none:=zn9 fun u hu=>by
   cases hb:begB (s.extract at_ s.size) u.graph with
   | false=>rfl
   | true=>have:=hbeg u hu hb;have:=hp u hu;omega
  rw [hbn] at hT;simp only [List.append_nil] at hT;subst hT;simp +decide [int,ints,Orth.cells,za8,zg4]
 have hn0':(0:Int)<n:=by omega
 have hn0'':0<n:=by omega
 simp +decide [int,ints,Orth.cells,za8,hn0',hn0'']
 refine zaz mixed (fun i:Nat=>{n:=68,next:=3,slots:=[(1,.d (.str s)),(2,.bp 0 0),(6,.d (int most)),(9,.ar 2),(10,.d (int at_)),(11,.d (int n)),(42,.d (za8 o.units)),(43,.d (int o.units.length)),(44,.d (int i))],own:=[(0,.box 48 (o.cells.map .d)),(2,.arr 3 1 (out.map fun (n:Nat)=>[int (n:Int)]))],moved:=[2]})
  (fun i=>i≤o.units.length∧∀ u∈o.units.take i,u.graph≠s.extract at_ (at_+n)) (fun i=>o.units.length-i) 0 ⟨Nat.zero_le _,fun u hu=>by simp at hu⟩ ?_ ?_
 ·simp +decide [int,ints,Orth.cells,za8]
 intro i ⟨hi,hno⟩
 refine zao mixed ?_
 by_cases hil:i<o.units.length
 case neg=>
  have:i=o.units.length:=by omega
  subst this;rw [List.take_length] at hno;simp +decide [int,ints,Orth.cells,za8,I64];refine ⟨by omega,n-1,⟨by omega,fun u hu hb=>?_⟩,by omega,by omega⟩
  have h1:=hbeg u hu hb;have h2:u.graph.size≠n:=fun e=>hno u hu ((zwx e (by omega)).1 hb)
  omega
 have hil':(i:Int)<o.units.length:=by omega
 obtain ⟨u,eu⟩ : ∃ u,o.units[i]=u:=⟨_,rfl⟩
 have eu1:o.units[i]?=some u:=by rw [List.getElem?_eq_getElem hil,eu]
 simp +decide [int,ints,Orth.cells,za8,I64,hil,hil',eu,eu1,Grap.row]
 have hnat:((at_:Int)+(n:Int)).toNat=at_+n:=by omega
 rw [hnat]
 refine ⟨by omega,⟨by omega,by omega⟩,fun he=>?_,fun he=>?_⟩
 ·have he:u.graph=s.extract at_ (at_+n):=bytes_inj he
  have hsz:u.graph.size=n:=by rw [he,ByteArray.size_extract];omega
  have hub:=(zwx hsz (by omega)).2 he
  have hF:=(zr0 (k:=o.units.length) eu1 hub (fun v hv hb=>by rw [hsz];exact hbeg v hv hb) (fun v hv hb=>by
   have h1:=hbeg v (List.mem_of_mem_take hv) hb;have h2:v.graph.size≠n:=fun e=>hno v hv ((zwx e (by omega)).1 hb)
   omega)).2 hil
  rw [hF] at hT;simp only at hT
  rw [eu1,Option.map_some,Option.getD_some,hsz] at hT;exact ⟨by omega,by unfold maxLen;omega,by omega,out++[i],at_+n,⟨by omega,by simp;omega,f,by omega,by rw [hT,List.append_assoc];rfl⟩,by omega,by omega,by simp⟩
 ·refine ⟨by omega,i+1,⟨hil,fun v hv=>?_⟩,by omega,by omega⟩
  rw [zal hil,eu] at hv;rcases List.mem_append.1 hv with h | h
  ·exact hno v h
  ·rw [List.mem_singleton] at h
   rw [h];exact fun e=>he (by rw [e])
end Go.V
namespace Go.V
open Go Go.Proofs
set_option maxHeartbeats 8000000 in
theorem zzj (o:Orth) (ho:OrthC o) (hp : ∀ u∈o.units,0<u.graph.size) (s:ByteArray) (hs:s.size≤1024):zam Tryz.prog 52 [.agg o.cells,.str s] (.tup [ints (ze1 o.units s).1,int (ze1 o.units s).2.1,int (ze1 o.units s).2.2]):=by
 have hU:=z9g o ho hp s (by omega)
 have hlt0:=fun b=>zry (us:=o.units) (s:=s) (f:=s.size) (at_:=0) b
 have hln:=zn8 (us:=o.units) (s:=s) (f:=s.size) (at_:=0)
 refine zaa mixed Tryz.func52 rfl call_52 ?_
 unfold ze1
 generalize zcw o.units s s.size 0=T at hU hlt0 hln
 obtain ⟨l,e⟩:=T
 simp only at hU hlt0 hln
 by_cases h0:s.size=0
 ·have hq:s=ByteArray.empty:=ByteArray.ext (Array.eq_empty_of_size_eq_zero (by simpa using h0))
  subst hq;simp +decide [Tryz.f52,int,ints,Orth.cells]
 rw [if_neg h0]
 have hq:(s.toList==[] )=false:=by
  rw [beq_eq_false_iff_ne];intro e;have:s=ByteArray.empty:=bytes_inj (e.trans (by first | simp | (unfold ByteArray.toList;rw [ByteArray.toList.loop];rfl)))
  exact h0 (by rw [this];rfl)
 simp +decide [Tryz.f52,int,ints,Orth.cells,hq]
 refine zaj.pure (by rfl) hU (by simp [D.scalar]) ?_
 by_cases he:e<s.size
 ·have he':(e:Int)<s.size:=by omega
  simp +decide [int,ints,Orth.cells,he,he',zg4]
 have he':¬(e:Int)<s.size:=by omega
 rw [if_neg he]
 simp +decide [int,ints,Orth.cells,he,he',zg4]
 refine zaz mixed (fun k:Nat=>{n:=44,next:=3,slots:=[(2,.bp 0 0),(9,.ar 2),(25,.d (zg4 l)),(26,.d (int l.length)),(27,.d (int k))],own:=[(0,.box 48 (o.cells.map .d)),(2,.arr 3 1 ((zi4 o.units (l.take k)).map fun n=>[int n]))],moved:=[2]})
  (fun k=>k≤l.length) (fun k=>l.length-k) 0 (Nat.zero_le _) ?_ ?_
 ·simp +decide [int,ints,Orth.cells,zi4,zg4]
 intro k hk
 refine zao mixed ?_
 by_cases hlt:k<l.length
 case neg=>
  have:k=l.length:=by omega
  subst this;rw [List.take_length];generalize zi4 o.units l=W;by_cases h24:24<W.length
  ·have h24':(24:Int)<W.length:=by omega
   simp +decide [int,ints,Orth.cells,zg4,h24,h24']
  ·have h24':¬(24:Int)<W.length:=by omega
   simp +decide [int,ints,Orth.cells,zg4,h24,h24']
 have hlt':(k:Int)<l.length:=by omega
 obtain ⟨b,eb⟩ : ∃ b,l[k]=b:=⟨_,rfl⟩
 have eb1:l[k]?=some b:=by rw [List.getElem?_eq_getElem hlt,eb]
 have hbl:b<o.units.length:=by rw [← eb];exact hlt0 _ (List.getElem_mem hlt)
 have hbl':(b:Int)<o.units.length:=by omega
 obtain ⟨v,ev⟩ : ∃ v,o.units[b]=v:=⟨_,rfl⟩
 have ev1:o.units[b]?=some v:=by rw [List.getElem?_eq_getElem hbl,ev]
 have hvs:=(ho.units o.units[b] (List.getElem_mem hbl)).2
 rw [ev] at hvs
 have htk:=zu9 (us:=o.units) hlt eb ev1
 have hsl:=zrz (us:=o.units) (fun u hu=>(ho.units u hu).2) (l.take k)
 rw [List.length_take] at hsl
 have hsl:(zi4 o.units (l.take k)).length≤1024*1048576:=Nat.le_trans hsl (Nat.mul_le_mul_right _ (by omega))
 generalize zi4 o.units (l.take k)=W at htk hsl
 simp +decide [int,ints,Orth.cells,zg4,za8,Grap.row,hlt,hlt',eb,eb1,hbl,hbl',ev,ev1,I64]
 exact ⟨by omega,by unfold maxLen;omega,⟨by omega,by omega⟩,k+1,hlt,by omega,by omega,by rw [htk,List.map_append]⟩
theorem zmt (us:List Grap) (s:ByteArray):(ze1 us s).1.length≤24:=by
 unfold ze1
 split
 ·exact Nat.zero_le _
 ·split
  ·exact Nat.zero_le _
  ·split
   ·exact Nat.zero_le _
   ·rename_i h;exact Nat.le_of_not_lt h
def ofE (g:Lang) (s:ByteArray):List (List Prt)×Int:=if (ze1 g.orth.units s).2.2≠0 then ([],(ze1 g.orth.units s).2.2) else allE g (ze1 g.orth.units s).1
theorem yjc (g:Lang) (hg:LightF g) (hc:LangC g) (s:ByteArray) (hs:s.size≤1024):zam Tryz.prog 69 [g.d,.str s] (.tup [za1 (ofE g s).1,int (ofE g s).2]):=by
 have hR:=zzj g.orth hc.orth hg.graphs s hs
 have hA:=ygi g hg hc (ze1 g.orth.units s).1 (by have:=zmt g.orth.units s;omega)
 unfold ofE
 generalize ze1 g.orth.units s=z at hR hA
 obtain ⟨w,a,e⟩:=z
 simp only at hR hA
 refine zaa mixed Tryz.func69 rfl call_69 ?_
 simp +decide [Tryz.f69,zai,Lang.d,int,ints]
 refine zaj.pure (by rfl) hR (by simp [D.scalar]) ?_
 by_cases he:e=0
 case neg=>simp +decide [int,ints,za1,he]
 subst he
 simp +decide [int,ints]
 refine zaj.pure (by rfl) hA (by simp [D.scalar]) ?_
 simp +decide [int,ints,za1]
theorem z6j (g:Lang) (hg:LightF g) (hc:LangC g) (s:ByteArray) (hs:s.size≤1024):zam Tryz.prog 50 [g.d,.str s] (.tup [za1 (ofE g s).1,int (ofE g s).2]):=by
 have hR:=zzh g.orth hc.orth hg.graphs s hs
 have hA:=ycr g hg hc (ze1 g.orth.units s).1 (by have:=zmt g.orth.units s;omega)
 unfold ofE
 generalize ze1 g.orth.units s=z at hR hA
 obtain ⟨w,a,e⟩:=z
 simp only at hR hA
 refine zaa mixed Tryz.func50 rfl call_50 ?_
 simp +decide [Tryz.f50,zai,Lang.d,int,ints]
 refine zaj.pure (by rfl) hR (by simp [D.scalar]) ?_
 by_cases he:e=0
 case neg=>simp +decide [int,ints,za1,he]
 subst he
 simp +decide [int,ints]
 refine zaj.pure (by rfl) hA (by simp [D.scalar]) ?_
 simp +decide [int,ints,za1]
theorem z9h {g:Lang} (hL:LightF g) (w:List Int):(allE g w).1.length≤200∧∀ q∈(allE g w).1,q.length≤4:=by
 obtain ⟨hn,hA⟩:=yi5 hL w
 by_cases h0:(allE g w).2=0
 ·exact ⟨(hA h0).few,fun q hq=>((hA h0).form q hq).2.2⟩
 ·rw [hn h0]
  exact ⟨Nat.zero_le _,fun q hq=>by cases hq⟩
theorem zr1 {g:Lang} (hL:LightF g) (s:ByteArray):(ofE g s).1.length≤200∧∀ q∈(ofE g s).1,q.length≤4:=by
 unfold ofE
 split
 ·exact ⟨Nat.zero_le _,fun q hq=>by cases hq⟩
 ·exact z9h hL _
end Go.V

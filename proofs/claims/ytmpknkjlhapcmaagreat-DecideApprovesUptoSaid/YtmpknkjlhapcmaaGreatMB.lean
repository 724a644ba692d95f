/- Contracts and plain laws of this seat: part MB. It needs no conditions. -/
import Derived.Test.YtmpknkjlhapcmaaGreatMA
set_option linter.unusedVariables false
set_option linter.unusedSimpArgs false
set_option linter.unusedSectionVars false
set_option maxRecDepth 100000
namespace Go.V
open Go Go.Proofs
end Go.V
namespace Go.V
open Go Go.Proofs
def sN (g:Lang) (p:Prt):Nat:=(zde g.lex p.entry).length
end Go.V
namespace Go.V
open Go Go.Proofs
theorem PlainF.pos' {g:Lang} (hg:LightF g) {w:List Int} {b:List Prt} (h:PlainF g w b) : ∀ p∈b,0<sN g p:=by
 intro p hp
 obtain ⟨e,he,alt,ha,rfl⟩:=(h.parts p hp).ok hg
 exact List.length_pos_iff.2 (hg.senses he)
end Go.V
namespace Go.V
open Go Go.Proofs
end Go.V
namespace Go.V
open Go Go.Proofs
def begB (s t:ByteArray):Bool:=decide (t.size≤s.size)&&decide (s.extract 0 t.size=t)
def zl6 (us:List Grap) (t:ByteArray):Nat→Option Nat
 | 0=>none
 | k+1=>match us[k]? with
  | none=>zl6 us t k
  | some u=>if begB t u.graph=true then (match zl6 us t k with
    | none=>some k
    | some b=>if ((us[b]?.map fun v=>v.graph.size).getD 0)<u.graph.size then some k else some b)
   else zl6 us t k
theorem zhr {us:List Grap} {t:ByteArray} : ∀ {k b:Nat},zl6 us t k=some b→b<k∧b<us.length
 | 0,b,h=>by cases h
 | k+1,b,h=>by
  unfold zl6 at h;split at h
  ·exact ⟨by have:=(zhr h).1;omega,(zhr h).2⟩
  ·rename_i u hu
   have hkl:k<us.length:=(List.getElem?_eq_some_iff.1 hu).1
   split at h
   ·split at h
    ·obtain rfl:=Option.some.inj h;exact ⟨by omega,hkl⟩
    ·rename_i b' hb'
     split at h
     ·obtain rfl:=Option.some.inj h;exact ⟨by omega,hkl⟩
     ·obtain rfl:=Option.some.inj h
      exact ⟨by have:=(zhr hb').1;omega,(zhr hb').2⟩
   ·exact ⟨by have:=(zhr h).1;omega,(zhr h).2⟩
def zea (us:List Grap) (s:ByteArray):Nat→Nat→List Nat×Nat
 | 0,at_=>([],at_)
 | f+1,at_=>if at_<s.size then (match zl6 us (s.extract at_ s.size) us.length with
   | none=>([],at_)
   | some b=>(b::(zea us s f (at_+((us[b]?.map fun v=>v.graph.size).getD 0))).1,(zea us s f (at_+((us[b]?.map fun v=>v.graph.size).getD 0))).2))
  else ([],at_)
def zsf (l:List Nat):D:=.sl (l.map fun (n:Nat)=>[int (n:Int)])
theorem zx4 {us:List Grap} {s:ByteArray} : ∀ {f at_:Nat},∀ b∈(zea us s f at_).1,b<us.length
 | 0,_,b,h=>by cases h
 | f+1,at_,b,h=>by
  unfold zea at h;split at h
  ·split at h
   ·cases h
   ·rename_i c hc
    rcases List.mem_cons.1 h with e | h
    ·rw [e];exact (zhr hc).2
    ·exact zx4 b h
  ·cases h
theorem ztv {us:List Grap} {s:ByteArray} : ∀ {f at_:Nat},(zea us s f at_).1.length≤f
 | 0,_=>Nat.le_refl _
 | f+1,at_=>by
  unfold zea;split
  ·split
   ·exact Nat.zero_le _
   ·rw [List.length_cons];exact Nat.succ_le_succ ztv
  ·exact Nat.zero_le _
def znd (us:List Grap) (l:List Nat):List Int:=l.flatMap fun b=>(us[b]?.map fun v=>v.segs).getD []
def zft (us:List Grap) (s:ByteArray):List Int×Int×Int:=
 if s.size=0 then ([],0,4) else if (zea us s s.size 0).2<s.size then ([],(zea us s s.size 0).2,20) else if 24<(znd us (zea us s s.size 0).1).length then ([],0,5) else (znd us (zea us s s.size 0).1,0,0)
theorem z7d {us:List Grap} {l:List Nat} {k b:Nat} {v:Grap} (h:k<l.length) (hb:l[k]=b) (hv:us[b]?=some v):znd us (l.take (k+1))=znd us (l.take k)++v.segs:=by
 unfold znd
 rw [zao h,List.flatMap_append,List.flatMap_singleton,hb,hv]
 rfl
theorem zx5 {us:List Grap} (hs : ∀ u∈us,u.segs.length≤1048576) : ∀ l:List Nat,(znd us l).length≤l.length*1048576
 | []=>by simp [znd]
 | b::l=>by
  have ih:=zx5 hs l;unfold znd at ih ⊢;rw [List.flatMap_cons,List.length_append,List.length_cons];have:((us[b]?.map fun v=>v.segs).getD []).length≤1048576:=by
   cases h:us[b]? with
   | none=>simp
   | some v=>exact hs v (List.mem_of_getElem? h)
  omega
end Go.V
namespace Go.V
open Go Go.Proofs
def zx6 (us:List Grap):Nat:=us.foldl (fun m u=>max m u.graph.size) 0
theorem z7e {us:List Grap} {k:Nat} {u:Grap} (h:k<us.length) (hu:us[k]=u):zx6 (us.take (k+1))=max (zx6 (us.take k)) u.graph.size:=by
 unfold zx6
 rw [zao h,List.foldl_append,hu];rfl
theorem z7f (us:List Grap) : ∀ m,m≤us.foldl (fun m u=>max m u.graph.size) m∧∀ u∈us,u.graph.size≤us.foldl (fun m u=>max m u.graph.size) m:=by
 induction us with
 | nil=>intro m;exact ⟨Nat.le_refl _,fun u h=>by cases h⟩
 | cons v us ih=>
  intro m;obtain ⟨h1,h2⟩:=ih (max m v.graph.size);rw [List.foldl_cons];refine ⟨by omega,fun u hu=>?_⟩
  rcases List.mem_cons.1 hu with e | hu
  ·rw [e];omega
  ·exact h2 u hu
theorem ye6 {us:List Grap} {u:Grap} (h:u∈us):u.graph.size≤zx6 us:=(z7f us 0).2 u h
theorem ya0 {us:List Grap} {c:Nat} (h : ∀ u∈us,u.graph.size≤c) : ∀ m,m≤c→us.foldl (fun m u=>max m u.graph.size) m≤c:=by
 induction us with
 | nil=>intro m hm;exact hm
 | cons v us ih=>
  intro m hm;rw [List.foldl_cons];exact ih (fun u hu=>h u (List.mem_cons_of_mem _ hu)) _ (by have:=h v (List.mem_cons_self ..);omega)
theorem ya1 {s t:ByteArray} {at_:Nat} (h:begB (s.extract at_ s.size) t=true):t.size≤s.size-at_:=by
 unfold begB at h
 rw [Bool.and_eq_true,decide_eq_true_eq] at h
 have:=h.1
 simp at this
 omega
theorem yhf {s:ByteArray} {at_ n:Nat} (h:at_+n≤s.size):(s.extract at_ s.size).extract 0 n=s.extract at_ (at_+n):=by
 rw [ByteArray.extract_extract]
 congr 1
 omega
theorem zvn {s t:ByteArray} {at_ n:Nat} (hn:t.size=n) (h:at_+n≤s.size):begB (s.extract at_ s.size) t=true↔t=s.extract at_ (at_+n):=by
 unfold begB
 rw [Bool.and_eq_true,decide_eq_true_eq,decide_eq_true_eq,hn,yhf h]
 constructor
 ·rintro ⟨_,e⟩;exact e.symm
 ·intro e;exact ⟨by rw [ByteArray.size_extract];omega,e.symm⟩
theorem zne {us:List Grap} {t:ByteArray} (h : ∀ u∈us,begB t u.graph=false) : ∀ {k:Nat},zl6 us t k=none
 | 0=>rfl
 | k+1=>by
  rw [zl6];cases hu:us[k]? with
  | none=>exact zne h
  | some u=>
   simp only
   rw [if_neg (by rw [h u (List.mem_of_getElem? hu)];decide)]
   exact zne h
theorem zqj {us:List Grap} {t:ByteArray} {i:Nat} {v:Grap} (hv:us[i]?=some v) (hb:begB t v.graph=true) (hmax : ∀ u∈us,begB t u.graph=true→u.graph.size≤v.graph.size)
  (hfst : ∀ u∈us.take i,begB t u.graph=true→u.graph.size<v.graph.size) : ∀ {k:Nat},(k≤i→∀ b,zl6 us t k=some b→∃ w∈us.take i,us[b]?=some w∧begB t w.graph=true)∧(i<k→zl6 us t k=some i)
 | 0=>⟨(by intro _ b h;cases h),(by intro h;omega)⟩
 | k+1=>by
  obtain ⟨h1,h2⟩:=zqj hv hb hmax hfst (k:=k);have hil:i<us.length:=(List.getElem?_eq_some_iff.1 hv).1
  constructor
  ·intro hk b h
   have hkl:k<us.length:=by omega
   have ek:us[k]?=some us[k]:=List.getElem?_eq_getElem hkl
   have hin:us[k]∈us.take i:=List.mem_iff_getElem.2 ⟨k,by rw [List.length_take];omega,by rw [List.getElem_take]⟩
   rw [zl6,ek] at h;simp only at h
   split at h
   ·rename_i hbk
    split at h
    ·obtain rfl:=Option.some.inj h;exact ⟨_,hin,ek,hbk⟩
    ·rename_i b' hb'
     split at h
     ·obtain rfl:=Option.some.inj h;exact ⟨_,hin,ek,hbk⟩
     ·obtain rfl:=Option.some.inj h;exact h1 (by omega) _ hb'
   ·exact h1 (by omega) b h
  ·intro hk
   rw [zl6];by_cases hki:k=i
   ·subst hki
    rw [hv];simp only
    rw [if_pos hb];cases hbk:zl6 us t k with
    | none=>rfl
    | some b=>
     simp only
     obtain ⟨w,hw,ew,hwb⟩:=h1 (Nat.le_refl _) b hbk;rw [ew,Option.map_some,Option.getD_some,if_pos (hfst w hw hwb)]
   ·rw [h2 (by omega)]
    cases hu:us[k]? with
    | none=>rfl
    | some u=>
     simp only
     split
     ·rename_i hub
      rw [hv,if_neg (by have:=hmax u (List.mem_of_getElem? hu) hub;simp;omega)]
     ·rfl
set_option maxHeartbeats 8000000 in
theorem z7g (o:Orth) (ho:OrthC o) (hp : ∀ u∈o.units,0<u.graph.size) (s:ByteArray) (hs:s.size<2^30):zam Tryz.prog 76 [.agg o.cells,.str s] (.tup [zsf (zea o.units s s.size 0).1,int (zea o.units s s.size 0).2]):=by
 refine zaa mixed Tryz.func76 rfl call_76 ?_
 have hfew:=ho.few.1
 obtain ⟨T,eT⟩ : ∃ T,zea o.units s s.size 0=T:=⟨_,rfl⟩
 rw [eT]
 simp +decide [Tryz.f76,int,Orth.cells,zbd]
 refine zbe mixed (fun k:Nat=>{n:=68,next:=2,slots:=[(1,.d (.str s)),(2,.bp 0 0),(6,.d (int (zx6 (o.units.take k)))),(15,.d (zbd o.units)),(16,.d (int o.units.length)),(17,.d (int k))],own:=[(0,.box 48 (o.cells.map .d))]})
  (fun k=>k≤o.units.length) (fun k=>o.units.length-k) 0 (Nat.zero_le _) ?_ ?_
 ·simp +decide [int,zbd,Orth.cells,zx6]
 intro k hk
 refine zar mixed ?_
 by_cases hlt:k<o.units.length
 case pos=>
  have hlt':(k:Int)<o.units.length:=by omega
  obtain ⟨u,eu⟩ : ∃ u,o.units[k]=u:=⟨_,rfl⟩;have eu1:o.units[k]?=some u:=by rw [List.getElem?_eq_getElem hlt,eu]
  have hug:=(ho.units o.units[k] (List.getElem_mem hlt)).1;rw [eu] at hug;have hm:=z7e hlt eu;simp +decide [int,zbd,Orth.cells,hlt,hlt',eu,eu1,Grap.row,I64];refine ⟨⟨by omega,by omega⟩,k+1,hlt,by omega,?_,by omega⟩
  rw [hm];split <;> omega
 have:k=o.units.length:=by omega
 subst this
 rw [List.take_length]
 simp +decide [int,zbd,Orth.cells]
 have hmc:zx6 o.units≤1048576:=ya0 (fun u hu=>(ho.units u hu).1) 0 (by omega)
 have hml:=fun u=>ye6 (us:=o.units) (u:=u)
 generalize zx6 o.units=most at hmc hml
 refine zbe mixed (fun x:List Nat×Nat=>{n:=68,next:=3,slots:=[(1,.d (.str s)),(2,.bp 0 0),(6,.d (int most)),(9,.ar 2),(10,.d (int x.2))],own:=[(0,.box 48 (o.cells.map .d)),(2,.arr 3 1 (x.1.map fun (n:Nat)=>[int (n:Int)]))],moved:=[2]})
  (fun x=>x.2≤s.size∧x.1.length≤x.2∧∃ f,s.size-x.2≤f∧T=(x.1++(zea o.units s f x.2).1,(zea o.units s f x.2).2)) (fun x=>s.size-x.2) ([],0) ⟨Nat.zero_le _,Nat.zero_le _,s.size,by omega,by rw [← eT];rfl⟩ ?_ ?_
 ·simp +decide [int,ints,Orth.cells,zbd]
 rintro ⟨out,at_⟩ ⟨hat,hol,f,hf,hT⟩
 simp only at hat hol hf hT
 refine zar mixed ?_
 by_cases hlt:at_<s.size
 case neg=>
  have hu:zea o.units s f at_=([],at_):=by
   cases f with
   | zero=>rfl
   | succ f=>rw [zea,if_neg hlt]
  rw [hu,List.append_nil] at hT;subst hT;have hlt':¬(at_:Int)<s.size:=by omega
  simp +decide [int,ints,Orth.cells,hlt,hlt',zsf]
 have hlt':(at_:Int)<s.size:=by omega
 obtain ⟨f,rfl⟩ : ∃ f',f=f'+1:=⟨f-1,by omega⟩
 rw [zea,if_pos hlt] at hT
 simp +decide [int,ints,Orth.cells,zbd,hlt,hlt',I64]
 refine ⟨by omega,?_⟩
 refine zbe mixed (fun n:Nat=>{n:=68,next:=3,slots:=[(1,.d (.str s)),(2,.bp 0 0),(6,.d (int most)),(9,.ar 2),(10,.d (int at_)),(11,.d (int n))],own:=[(0,.box 48 (o.cells.map .d)),(2,.arr 3 1 (out.map fun (n:Nat)=>[int (n:Int)]))],moved:=[2]})
  (fun n=>n≤s.size-at_∧∀ u∈o.units,begB (s.extract at_ s.size) u.graph=true→u.graph.size≤n) (fun n=>n) (min most (s.size-at_)) ⟨by omega,fun u hu hb=>?_⟩ ?_ ?_
 ·have h1:=hml u hu
  have h2:=(ya1 hb);omega
 ·simp +decide [int,ints,Orth.cells,zbd]
  split <;> omega
 intro n ⟨hn,hbeg⟩
 refine zar mixed ?_
 by_cases hn0:n=0
 ·subst hn0
  have hbn:zl6 o.units (s.extract at_ s.size) o.units.length=none:=zne fun u hu=>by
   cases hb:begB (s.extract at_ s.size) u.graph with
   | false=>rfl
   | true=>have:=hbeg u hu hb;have:=hp u hu;omega
  rw [hbn] at hT;simp only [List.append_nil] at hT;subst hT;simp +decide [int,ints,Orth.cells,zbd,zsf]
 have hn0':(0:Int)<n:=by omega
 have hn0'':0<n:=by omega
 simp +decide [int,ints,Orth.cells,zbd,hn0',hn0'']
 refine zbe mixed (fun i:Nat=>{n:=68,next:=3,slots:=[(1,.d (.str s)),(2,.bp 0 0),(6,.d (int most)),(9,.ar 2),(10,.d (int at_)),(11,.d (int n)),(42,.d (zbd o.units)),(43,.d (int o.units.length)),(44,.d (int i))],own:=[(0,.box 48 (o.cells.map .d)),(2,.arr 3 1 (out.map fun (n:Nat)=>[int (n:Int)]))],moved:=[2]})
  (fun i=>i≤o.units.length∧∀ u∈o.units.take i,u.graph≠s.extract at_ (at_+n)) (fun i=>o.units.length-i) 0 ⟨Nat.zero_le _,fun u hu=>by simp at hu⟩ ?_ ?_
 ·simp +decide [int,ints,Orth.cells,zbd]
 intro i ⟨hi,hno⟩
 refine zar mixed ?_
 by_cases hil:i<o.units.length
 case neg=>
  have:i=o.units.length:=by omega
  subst this;rw [List.take_length] at hno;simp +decide [int,ints,Orth.cells,zbd,I64];refine ⟨by omega,n-1,⟨by omega,fun u hu hb=>?_⟩,by omega,by omega⟩
  have h1:=hbeg u hu hb;have h2:u.graph.size≠n:=fun e=>hno u hu ((zvn e (by omega)).1 hb)
  omega
 have hil':(i:Int)<o.units.length:=by omega
 obtain ⟨u,eu⟩ : ∃ u,o.units[i]=u:=⟨_,rfl⟩
 have eu1:o.units[i]?=some u:=by rw [List.getElem?_eq_getElem hil,eu]
 simp +decide [int,ints,Orth.cells,zbd,I64,hil,hil',eu,eu1,Grap.row]
 have hnat:((at_:Int)+(n:Int)).toNat=at_+n:=by omega
 rw [hnat]
 refine ⟨by omega,⟨by omega,by omega⟩,fun he=>?_,fun he=>?_⟩
 ·have he:u.graph=s.extract at_ (at_+n):=bytes_inj he
  have hsz:u.graph.size=n:=by rw [he,ByteArray.size_extract];omega
  have hub:=(zvn hsz (by omega)).2 he
  have hF:=(zqj (k:=o.units.length) eu1 hub (fun v hv hb=>by rw [hsz];exact hbeg v hv hb) (fun v hv hb=>by
   have h1:=hbeg v (List.mem_of_mem_take hv) hb;have h2:v.graph.size≠n:=fun e=>hno v hv ((zvn e (by omega)).1 hb)
   omega)).2 hil
  rw [hF] at hT;simp only at hT
  rw [eu1,Option.map_some,Option.getD_some,hsz] at hT;exact ⟨by omega,by unfold maxLen;omega,by omega,out++[i],at_+n,⟨by omega,by simp;omega,f,by omega,by rw [hT,List.append_assoc];rfl⟩,by omega,by omega,by simp⟩
 ·refine ⟨by omega,i+1,⟨hil,fun v hv=>?_⟩,by omega,by omega⟩
  rw [zao hil,eu] at hv;rcases List.mem_append.1 hv with h | h
  ·exact hno v h
  ·rw [List.mem_singleton] at h
   rw [h];exact fun e=>he (by rw [e])
end Go.V
namespace Go.V
open Go Go.Proofs
set_option maxHeartbeats 8000000 in
theorem zx7 (o:Orth) (ho:OrthC o) (hp : ∀ u∈o.units,0<u.graph.size) (s:ByteArray) (hs:s.size≤1024):zam Tryz.prog 52 [.agg o.cells,.str s] (.tup [ints (zft o.units s).1,int (zft o.units s).2.1,int (zft o.units s).2.2]):=by
 have hU:=z7g o ho hp s (by omega)
 have hlt0:=fun b=>zx4 (us:=o.units) (s:=s) (f:=s.size) (at_:=0) b
 have hln:=ztv (us:=o.units) (s:=s) (f:=s.size) (at_:=0)
 refine zaa mixed Tryz.func52 rfl call_52 ?_
 unfold zft
 generalize zea o.units s s.size 0=T at hU hlt0 hln
 obtain ⟨l,e⟩:=T
 simp only at hU hlt0 hln
 by_cases h0:s.size=0
 ·have hq:s=ByteArray.empty:=ByteArray.ext (Array.eq_empty_of_size_eq_zero (by simpa using h0))
  subst hq;simp +decide [Tryz.f52,int,ints,Orth.cells]
 rw [if_neg h0]
 have hq:(s.toList==[] )=false:=by
  rw [beq_eq_false_iff_ne];intro e;have:s=ByteArray.empty:=bytes_inj (e.trans (by first | simp | (unfold ByteArray.toList;rw [ByteArray.toList.loop];rfl)))
  exact h0 (by rw [this];rfl)
 simp +decide [Tryz.f52,int,ints,Orth.cells,hq]
 refine zaj.pure (by rfl) hU (by simp [D.scalar]) ?_
 by_cases he:e<s.size
 ·have he':(e:Int)<s.size:=by omega
  simp +decide [int,ints,Orth.cells,he,he',zsf]
 have he':¬(e:Int)<s.size:=by omega
 rw [if_neg he]
 simp +decide [int,ints,Orth.cells,he,he',zsf]
 refine zbe mixed (fun k:Nat=>{n:=44,next:=3,slots:=[(2,.bp 0 0),(9,.ar 2),(25,.d (zsf l)),(26,.d (int l.length)),(27,.d (int k))],own:=[(0,.box 48 (o.cells.map .d)),(2,.arr 3 1 ((znd o.units (l.take k)).map fun n=>[int n]))],moved:=[2]})
  (fun k=>k≤l.length) (fun k=>l.length-k) 0 (Nat.zero_le _) ?_ ?_
 ·simp +decide [int,ints,Orth.cells,znd,zsf]
 intro k hk
 refine zar mixed ?_
 by_cases hlt:k<l.length
 case neg=>
  have:k=l.length:=by omega
  subst this;rw [List.take_length];generalize znd o.units l=W;by_cases h24:24<W.length
  ·have h24':(24:Int)<W.length:=by omega
   simp +decide [int,ints,Orth.cells,zsf,h24,h24']
  ·have h24':¬(24:Int)<W.length:=by omega
   simp +decide [int,ints,Orth.cells,zsf,h24,h24']
 have hlt':(k:Int)<l.length:=by omega
 obtain ⟨b,eb⟩ : ∃ b,l[k]=b:=⟨_,rfl⟩
 have eb1:l[k]?=some b:=by rw [List.getElem?_eq_getElem hlt,eb]
 have hbl:b<o.units.length:=by rw [← eb];exact hlt0 _ (List.getElem_mem hlt)
 have hbl':(b:Int)<o.units.length:=by omega
 obtain ⟨v,ev⟩ : ∃ v,o.units[b]=v:=⟨_,rfl⟩
 have ev1:o.units[b]?=some v:=by rw [List.getElem?_eq_getElem hbl,ev]
 have hvs:=(ho.units o.units[b] (List.getElem_mem hbl)).2
 rw [ev] at hvs
 have htk:=z7d (us:=o.units) hlt eb ev1
 have hsl:=zx5 (us:=o.units) (fun u hu=>(ho.units u hu).2) (l.take k)
 rw [List.length_take] at hsl
 have hsl:(znd o.units (l.take k)).length≤1024*1048576:=Nat.le_trans hsl (Nat.mul_le_mul_right _ (by omega))
 generalize znd o.units (l.take k)=W at htk hsl
 simp +decide [int,ints,Orth.cells,zsf,zbd,Grap.row,hlt,hlt',eb,eb1,hbl,hbl',ev,ev1,I64]
 exact ⟨by omega,by unfold maxLen;omega,⟨by omega,by omega⟩,k+1,hlt,by omega,by omega,by rw [htk,List.map_append]⟩
theorem zx8 (us:List Grap) (s:ByteArray):(zft us s).1.length≤24:=by
 unfold zft
 split
 ·exact Nat.zero_le _
 ·split
  ·exact Nat.zero_le _
  ·split
   ·exact Nat.zero_le _
   ·rename_i h;exact Nat.le_of_not_lt h
def ofE (g:Lang) (s:ByteArray):List (List Prt)×Int:=if (zft g.orth.units s).2.2≠0 then ([],(zft g.orth.units s).2.2) else allE g (zft g.orth.units s).1
theorem yhg (g:Lang) (hg:LightF g) (hc:LangC g) (s:ByteArray) (hs:s.size≤1024):zam Tryz.prog 69 [g.d,.str s] (.tup [zb4 (ofE g s).1,int (ofE g s).2]):=by
 have hR:=zx7 g.orth hc.orth hg.graphs s hs
 have hA:=yey g hg hc (zft g.orth.units s).1 (by have:=zx8 g.orth.units s;omega)
 unfold ofE
 generalize zft g.orth.units s=z at hR hA
 obtain ⟨w,a,e⟩:=z
 simp only at hR hA
 refine zaa mixed Tryz.func69 rfl call_69 ?_
 simp +decide [Tryz.f69,zal,Lang.d,int,ints]
 refine zaj.pure (by rfl) hR (by simp [D.scalar]) ?_
 by_cases he:e=0
 case neg=>simp +decide [int,ints,zb4,he]
 subst he
 simp +decide [int,ints]
 refine zaj.pure (by rfl) hA (by simp [D.scalar]) ?_
 simp +decide [int,ints,zb4]
theorem z7h {g:Lang} (hL:LightF g) (w:List Int):(allE g w).1.length≤200∧∀ q∈(allE g w).1,q.length≤4:=by
 obtain ⟨hn,hA⟩:=z1e hL w
 by_cases h0:(allE g w).2=0
 ·exact ⟨(hA h0).few,fun q hq=>((hA h0).form q hq).2.2⟩
 ·rw [hn h0]
  exact ⟨Nat.zero_le _,fun q hq=>by cases hq⟩
theorem zx9 {g:Lang} (hL:LightF g) (s:ByteArray):(ofE g s).1.length≤200∧∀ q∈(ofE g s).1,q.length≤4:=by
 unfold ofE
 split
 ·exact ⟨Nat.zero_le _,fun q hq=>by cases hq⟩
 ·exact z7h hL _
end Go.V

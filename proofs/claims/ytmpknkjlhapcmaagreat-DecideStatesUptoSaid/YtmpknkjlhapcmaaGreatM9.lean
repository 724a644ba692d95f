/- Contracts and plain laws of this seat: part M9. It needs no conditions. -/
import Derived.Test.YtmpknkjlhapcmaaGreatM8
import Derived.Test.YtmpknkjlhapcmaaGreatM1
import Derived.Test.YtmpknkjlhapcmaaGreatB1
import Derived.Test.YtmpknkjlhapcmaaGreatM6
import Derived.Test.YtmpknkjlhapcmaaGreatM2
set_option linter.unusedVariables false
set_option linter.unusedSimpArgs false
set_option linter.unusedSectionVars false
set_option maxRecDepth 100000
namespace Go.V
open Go Go.Proofs
def St.unmv (st:St):St:={st with moved:=st.moved.filter (fun i=>decide (i<st.base))}
theorem Mods.unmv {X:Nat→Prop} {w0:Base} {st:St} {β:Nat→Value} {a:Act} {w:World} (hm:Mods X w0 st β a w):Mods X w0 st.unmv β a w:=
 {hm with still:=⟨hm.still.1,fun id hid hk=>hm.still.2 id hid (fun hmem=>hk (List.mem_filter.2 ⟨hmem,decide_eq_true hid⟩))⟩}
def unmR (Q:St→Prop):St→Prop:=fun st=>Q st.unmv
theorem zd5 {P:Program} (hmix:P.follows .mixedOrders=true) {f:Nat} {fn:Func} {c:Code} (hf:P.funcs[f]?=some fn) (hb:fn.body=some c) (hcall:callable P f=true)
  {args:List Sym} {own:List (Nat×Obj')} {n:Nat} {s:Sym} {nx:Nat} {own':List (Nat×Obj')} {mv:List Nat} (hl:Sym.los n args)
  (h:ev P c (zp6 (unmR (resC P fn.results.toList n s nx own' mv))) (initC fn.ntmps args own n)):zcq P f args own n s nx own' mv:=by
 refine ⟨hcall,fun X w0 β w vs hβ hm hs=>?_⟩
 refine calls_of_wp hf hb ?_
 refine wp_mono (zao hmix h X w0 _ _ w (hm.initC hs hl)) ?_
 rintro e a' w' ⟨de,st',β',he,hq,hm'⟩
 cases e <;> cases de <;> simp only [exM] at he
 ·obtain ⟨v,h1,h2,h3,h4⟩:=zee hm.defers hm'.unmv hq
  exact ⟨hm'.defers.trans hm.defers.symm,v,h1,β',v,rfl,h2,h3,h4⟩
 ·exact hq.elim
 ·obtain ⟨v,h1,h2,h3,h4⟩:=zee hm.defers hm'.unmv hq
  exact ⟨hm'.defers.trans hm.defers.symm,v,h1,β',v,rfl,h2,h3,h4⟩
abbrev AllS:=List (List Prt)×Bool
def addF (x:AllS) (a:List Prt):AllS×Bool:=if x.1.length=200 then ((x.1,true),false) else ((insL (fun o=>zbq a o) a x.1,x.2),true)
def spO (x:AllS):List (Nat×Obj'):=[(0,.box 61 [.ar 2]),(1,.box 4 [.d (.bool x.2)]),(2,.arr 31 1 (x.1.map fun a=>[zab a]))]
set_option maxHeartbeats 16000000 in
theorem yiz (x:AllS) (hx:x.1.length≤200) (hxb : ∀ b∈x.1,b.length<2^40) (a:List Prt) (ha:a.length<2^40) :
  zcq Tryz.prog 127 [.d (anaD a),.bp 0 0,.bp 1 0] (spO x) 3 (.d (.bool (addF x a).2)) 3 (spO (addF x a).1) [2]:=by
 obtain ⟨out,full⟩:=x
 simp only at hx hxb
 refine zd5 mixed Tryz.func127 rfl call_127 (by simp [Sym.los,Sym.lo]) ?_
 unfold addF
 by_cases h200:out.length=200
 ·have h200':(out.length:Int)=200:=by omega
  simp +decide [Tryz.f127,spO,int,anaD,zab,h200,h200',unmR,St.unmv];done
 have h200':¬(out.length:Int)=200:=by omega
 simp +decide [Tryz.f127,spO,int,anaD,zab,h200,h200',unmR,St.unmv]
 refine zaz mixed (fun k:Nat=>{n:=40,next:=4,slots:=[(1,.bp 0 0),(2,.bp 1 0),(3,.bp 3 0),(5,.d (int k))],own:=(3,.box 31 [.d (zab a)])::spO (out,full),base:=3})
  (fun k=>k≤out.length∧posL (fun o=>zbq a o) out k=posL (fun o=>zbq a o) out out.length) (fun k=>k) out.length ⟨Nat.le_refl _,rfl⟩ ?_ ?_
 ·simp +decide [spO,int,anaD,zab]
 intro k ⟨hk,hpos⟩
 by_cases hk0:0<k
 case neg=>
  have hz:posL (fun o=>zbq a o) out out.length=k:=by
   rw [← hpos];have:k=0:=by omega
   subst this;rfl
  have hk0':¬(0:Int)<k:=by omega
  refine zao mixed ?_
  simp +decide [spO,int,anaD,zab,I64,hk0,hk0'];unfold insL;rw [hz];clear hpos;generalize k=p at *;refine ⟨by omega,by unfold maxLen;omega,?_⟩
  refine z0w mixed 7 (by rfl) (by rfl) (by rfl) (by rfl) (by simp) ?_
  have hn1:¬(p:Int)=(out.length:Int)+1:=by omega
  by_cases hke:p=out.length
  ·subst hke
   simp +decide [int,zab,u32,I64,unmR,St.unmv,hn1];exact ⟨⟨by omega,by omega⟩,by omega,by omega,by omega⟩
  ·have hp1:p<out.length:=by omega
   have hke':¬(p:Int)=(out.length:Int):=by omega
   have hA:p+(out.length+1-p)=out.length+1:=by omega
   obtain ⟨a1,a2,a3⟩:=zyw (R:=out.map (fun a=>[zab a])) (by intro r hr;obtain ⟨y,_,rfl⟩:=List.mem_map.1 hr;rfl) (nr:=[.sl []]) rfl (zab a) (p:=p) (L:=out.length) (by simp) hp1
   unfold shM at a2 a3;simp only [zab] at a1 a2 a3;simp +decide [int,zab,u32,I64,unmR,St.unmv,hn1,hke',hA];refine ⟨⟨by omega,by omega⟩,⟨by omega,hk⟩,by omega,a1,by omega,by omega,by omega,a2,a3⟩
 obtain ⟨j,rfl⟩ : ∃ j,k=j+1:=⟨k-1,by omega⟩
 have hlt:j<out.length:=by omega
 have hlt':(j:Int)<out.length:=by omega
 obtain ⟨o,eo⟩ : ∃ o,out[j]=o:=⟨_,rfl⟩
 have e1:out[j]?=some o:=by rw [List.getElem?_eq_getElem hlt,eo]
 have hB:=ygc a o (by omega) (by have:=hxb out[j] (List.getElem_mem hlt);rw [eo] at this;omega)
 rw [posL,e1] at hpos
 simp only at hpos
 refine zao mixed ?_
 simp +decide [spO,int,anaD,zab,I64,hlt,hlt',eo,e1]
 refine ⟨by omega,?_⟩
 refine zac (by rfl) (by rfl) hB (by simp [D.scalar]) ?_
 cases hl:zbq a o with
 | true=>
  rw [if_pos hl] at hpos;simp +decide [spO,int,anaD,zab,I64,hl];exact ⟨by omega,j,⟨by omega,hpos⟩,by omega,rfl⟩
 | false=>
  rw [if_neg (by rw [hl];decide)] at hpos
  simp +decide [spO,int,anaD,zab,I64,hl];unfold insL;rw [← hpos];rw [show (j:Int)+1=((j+1:Nat):Int) from by omega]
  clear hpos e1 eo hlt hlt' hk0;generalize j+1=p at *;refine ⟨by omega,by unfold maxLen;omega,?_⟩
  refine z0w mixed 7 (by rfl) (by rfl) (by rfl) (by rfl) (by simp) ?_
  have hn1:¬(p:Int)=(out.length:Int)+1:=by omega
  by_cases hke:p=out.length
  ·subst hke
   simp +decide [int,zab,u32,I64,unmR,St.unmv,hn1];exact ⟨⟨by omega,by omega⟩,by omega,by omega,by omega⟩
  ·have hp1:p<out.length:=by omega
   have hke':¬(p:Int)=(out.length:Int):=by omega
   have hA:p+(out.length+1-p)=out.length+1:=by omega
   obtain ⟨a1,a2,a3⟩:=zyw (R:=out.map (fun a=>[zab a])) (by intro r hr;obtain ⟨y,_,rfl⟩:=List.mem_map.1 hr;rfl) (nr:=[.sl []]) rfl (zab a) (p:=p) (L:=out.length) (by simp) hp1
   unfold shM at a2 a3;simp only [zab] at a1 a2 a3;simp +decide [int,zab,u32,I64,unmR,St.unmv,hn1,hke',hA];refine ⟨⟨by omega,by omega⟩,⟨by omega,hk⟩,by omega,a1,by omega,by omega,by omega,a2,a3⟩
end Go.V
namespace Go.V
open Go Go.Proofs
section
variable {σ α:Type}
def zel (G:σ→α→σ×Bool):σ×Bool→List α→σ×Bool
 | z,[]=>z
 | z,a::r=>if z.2=false then z else zel G (G z.1 a) r
theorem zf3 (G:σ→α→σ×Bool) (z:σ×Bool) (a:α) (r:List α):zel G z (a::r)=if z.2=false then z else zel G (G z.1 a) r:=rfl
theorem zhl {G:σ→α→σ×Bool} {z:σ×Bool} (h:z.2=false) : ∀ l,zel G z l=z
 | []=>rfl
 | a::r=>by rw [zf3,if_pos h]
theorem zgs {G:σ→α→σ×Bool} : ∀ (z:σ×Bool) (l r:List α),zel G z (l++r)=zel G (zel G z l) r
 | z,[],r=>rfl
 | z,a::l,r=>by
  rw [List.cons_append,zf3,zf3];by_cases h:z.2=false
  ·rw [if_pos h,if_pos h]
   exact (zhl h r).symm
  ·rw [if_neg h,if_neg h]
   exact zgs _ l r
end
def sprT (g:Lang):Nat→List Prt→Nat→List (List Prt)
 | 0,p,_=>[p]
 | f+1,p,i=>(List.range (zcf g.lex (p.getD i ⟨0,0,0⟩).entry).length).flatMap fun (k:Nat)=>sprT g f (p.set i ⟨(p.getD i ⟨0,0,0⟩).entry,(p.getD i ⟨0,0,0⟩).alt,k⟩) (i+1)
def allI (x:AllS):Prop:=x.1.length≤200∧∀ b∈x.1,b.length≤4
theorem ygf {x:AllS} (h:allI x) {a:List Prt} (ha:a.length≤4):allI (addF x a).1:=by
 unfold addF
 split
 ·exact h
 ·rename_i hl
  refine ⟨by simp only [zmp];have:=h.1;omega,fun b hb=>?_⟩
  rcases zgr.1 hb with e | e
  ·rw [e];exact ha
  ·exact h.2 b e
theorem zrp : ∀ (l:List (List Prt)) (z:AllS×Bool),allI z.1→(∀ a∈l,a.length≤4)→allI (zel addF z l).1
 | [],z,h,_=>h
 | a::l,z,h,hl=>by
  rw [zf3];split
  ·exact h
  ·exact zrp l _ (ygf h (hl a (List.mem_cons_self ..))) fun b hb=>hl b (List.mem_cons_of_mem _ hb)
theorem zwr (g:Lang) : ∀ (f:Nat) (p:List Prt) (i:Nat),∀ q∈sprT g f p i,q.length=p.length
 | 0,p,i,q,h=>by rw [sprT,List.mem_singleton] at h;rw [h]
 | f+1,p,i,q,h=>by
  rw [sprT,List.mem_flatMap] at h;obtain ⟨k,_,h⟩:=h;rw [zwr g f _ _ q h,List.length_set]
def sprK (g:Lang) (f:Nat) (p:List Prt) (i k:Nat):List (List Prt):=(List.range k).flatMap fun (k:Nat)=>sprT g f (p.set i ⟨(p.getD i ⟨0,0,0⟩).entry,(p.getD i ⟨0,0,0⟩).alt,k⟩) (i+1)
theorem zyx (g:Lang) (f:Nat) (p:List Prt) (i k:Nat):sprK g f p i (k+1)=sprK g f p i k++sprT g f (p.set i ⟨(p.getD i ⟨0,0,0⟩).entry,(p.getD i ⟨0,0,0⟩).alt,k⟩) (i+1):=by
 unfold sprK;rw [List.range_succ,List.flatMap_append,List.flatMap_singleton]
theorem zyy (g:Lang) (f:Nat) (p:List Prt) (i:Nat) (z:AllS×Bool) (k:Nat) (h:(zel addF z (sprK g f p i k)).2=false) : ∀ d,zel addF z (sprK g f p i (k+d))=zel addF z (sprK g f p i k)
 | 0=>rfl
 | d+1=>by
  rw [← Nat.add_assoc,zyx,zgs,zyy g f p i z k h d];exact zhl h _
theorem z5x {l:List Ent} (h : ∀ e∈l,e.senses.length<2^40) : ∀ ids,(senW l ids).length<2^40
 | []=>by simp [senW]
 | x::r=>by
  unfold senW;split
  ·unfold getE
   cases hf:l.find? (·.id=x) with
   | none=>simp [Ent.zero]
   | some e=>exact h e (List.mem_of_find?_eq_some hf)
  ·exact z5x h r
def SprC (g:Lang) (f:Nat):Prop:=∀ (x:AllS) (p:List Prt) (i:Nat),allI x→p.length≤4→i+f=p.length →
 zcq Tryz.prog 130 [.d g.d,.d (zab p),.d (int i),.fn 127 [.bp 0 0,.bp 1 0]] (spO x) 3 (.d (.bool (zel addF (x,true) (sprT g f p i)).2)) 3 (spO (zel addF (x,true) (sprT g f p i)).1) [2]
set_option maxHeartbeats 16000000 in
theorem z2l (g:Lang):SprC g 0:=by
 intro x p i hx hp hi
 have hip:(i:Int)=p.length:=by omega
 have hadd:=yiz x hx.1 (fun b hb=>by have:=hx.2 b hb;omega) p (by omega)
 rw [show zel addF (x,true) (sprT g 0 p i)=addF x p from by simp [sprT,zel]]
 generalize addF x p=z at hadd
 obtain ⟨zx,zb⟩:=z
 obtain ⟨out,full⟩:=x
 obtain ⟨zo,zf⟩:=zx
 refine zd5 mixed Tryz.func130 rfl call_130 (by simp [Sym.los,Sym.lo]) ?_
 simp +decide [Tryz.f130,spO,int,zab,zai,Lang.d,hip]
 refine ⟨fun a _=>rfl,by omega,by unfold maxLen;omega,?_⟩
 refine zaj.mutf [4] rfl [0,1,2] [.d (anaD p),.bp 0 0,.bp 1 0] (spO (out,full)) (by rfl) (by simp [rens,ren,rho,anaD,zab]) (by simp) ?_ hadd ?_
 ·simp [Fits,zen,spO,St.look,zae,zco,rens,ren,rho,int,List.range,List.range.loop,zab]
 simp +decide [int,zab,spO,unmR,St.unmv]
set_option maxHeartbeats 16000000 in
theorem z2m (g:Lang) (hg:LightF g) (hc:LangC g) (f:Nat) (ih:SprC g f):SprC g (f+1):=by
 intro x p i hx hp hi
 have hip:¬(i:Int)=p.length:=by omega
 have hlt:i<p.length:=by omega
 have hlt':(i:Int)<p.length:=by omega
 obtain ⟨q,eq⟩ : ∃ q,p[i]=q:=⟨_,rfl⟩
 have e1:p[i]?=some q:=by rw [List.getElem?_eq_getElem hlt,eq]
 have eg:p.getD i ⟨0,0,0⟩=q:=by rw [List.getD_eq_getElem?_getD,e1];rfl
 have hR:=hg.zwf hc
 have hS:=zq4 g.lex q.entry hR.lex.len hR.lex.senses
 refine zd5 mixed Tryz.func130 rfl call_130 (by simp [Sym.los,Sym.lo]) ?_
 simp +decide [Tryz.f130,spO,int,zab,zai,Lang.d,hip,Prt.row,hlt,hlt',e1,eq]
 refine zac (by rfl) (by rfl) hS (by simp [D.scalar,zbp,int]) ?_
 simp +decide [spO,int,zab,zai,Lang.d,zbp]
 unfold sprT
 rw [eg]
 obtain ⟨ns,ens⟩ : ∃ ns,(zcf g.lex q.entry).length=ns:=⟨_,rfl⟩
 have hns:ns<2^40:=by
  rw [← ens];unfold zcf;rw [zmf];exact z5x hR.lex.senses _
 rw [ens]
 refine zaz mixed (fun k:Nat=>{n:=49,next:=4,slots:=[(1,.d (zab p)),(2,.d (int i)),(3,.fn 127 [.bp 0 0,.bp 1 0]),(4,.bp 3 0),(29,.d (int ns)),(30,.d (int k))],own:=(3,.box 56 (zai g.d))::spO (zel addF (x,true) (sprK g f p i k)).1,base:=3,moved:=[2,4]})
  (fun k=>k≤ns∧(zel addF (x,true) (sprK g f p i k)).2=true) (fun k=>ns-k) 0 ⟨Nat.zero_le _,rfl⟩ ?_ ?_
 ·simp +decide [spO,int,zab,zai,Lang.d,sprK,zel]
 intro k ⟨hk,hgo⟩
 have hall:=zrp (sprK g f p i k) (x,true) hx (fun a ha=>by
  unfold sprK at ha;rw [List.mem_flatMap] at ha;obtain ⟨_,_,ha⟩:=ha;rw [zwr g f _ _ a ha,List.length_set];exact hp)
 have hnx:=zyx g f p i k
 rw [eg] at hnx
 have hstep:zel addF (x,true) (sprK g f p i (k+1))=zel addF (zel addF (x,true) (sprK g f p i k)) (sprT g f (p.set i ⟨q.entry,q.alt,k⟩) (i+1)):=by rw [hnx,zgs]
 by_cases hkn:k<ns
 case neg=>
  have:k=ns:=by omega
  subst this;have hfin:(List.range k).flatMap (fun (k:Nat)=>sprT g f (p.set i ⟨q.entry,q.alt,k⟩) (i+1))=sprK g f p i k:=by unfold sprK;rw [eg]
  rw [hfin];generalize zel addF (x,true) (sprK g f p i k)=z at hgo;obtain ⟨zx,zb⟩:=z;simp only at hgo
  subst hgo;refine zao mixed ?_
  simp +decide [spO,int,zab,zai,Lang.d,unmR,St.unmv]
 have hkn':(k:Int)<ns:=by omega
 generalize zel addF (x,true) (sprK g f p i k)=z at hgo hstep hall
 obtain ⟨⟨out,full⟩,zb⟩:=z
 simp only at hgo
 subst hgo
 have hcall:=ih (out,full) (p.set i ⟨q.entry,q.alt,k⟩) (i+1) hall (by rw [List.length_set];exact hp) (by rw [List.length_set];omega)
 have hset:(p.map Prt.row).set i [.int .i64 q.entry,.int .i64 q.alt,.int .i64 k]=(p.set i ⟨q.entry,q.alt,(k:Int)⟩).map Prt.row:=by rw [List.map_set];rfl
 refine zao mixed ?_
 simp +decide [spO,int,zab,zai,Lang.d,hkn,hkn',I64,Prt.row,hlt,hlt']
 rw [eq,hset]
 refine ⟨by omega,by unfold maxLen;omega,⟨by omega,by omega⟩,?_⟩
 generalize zel addF ((out,full),true) (sprT g f (p.set i ⟨q.entry,q.alt,(k:Int)⟩) (i+1))=z2 at hcall hstep
 obtain ⟨⟨o2,f2⟩,b2⟩:=z2
 refine zaj.mutf [4] rfl [0,1,2] [.d g.d,.d (zab (p.set i ⟨q.entry,q.alt,(k:Int)⟩)),.d (int (i+1)),.fn 127 [.bp 0 0,.bp 1 0]] (spO (out,full)) (by rfl) (by simp [rens,ren,rho,anaD,zab,Lang.d,int]) (by simp) ?_ (by simpa using hcall) ?_
 ·simp [Fits,zen,spO,St.look,zae,zco,rens,ren,rho,int,List.range,List.range.loop,zab]
 cases b2 with
 | true=>
  simp +decide [int,zab,spO,unmR,St.unmv,zai,Lang.d,I64];exact ⟨⟨by omega,by omega⟩,k+1,⟨hkn,by rw [hstep]⟩,by omega,by omega,by rw [hstep],by rw [hstep]⟩
 | false=>
  simp +decide [int,zab,spO,unmR,St.unmv,zai,Lang.d,I64];have hst:=zyy g f p i (x,true) (k+1) (by rw [hstep]) (ns-(k+1))
  rw [show k+1+(ns-(k+1))=ns by omega,hstep] at hst
  have hfin:(List.range ns).flatMap (fun (k:Nat)=>sprT g f (p.set i ⟨q.entry,q.alt,k⟩) (i+1))=sprK g f p i ns:=by unfold sprK;rw [eg]
  rw [hfin,hst];exact ⟨rfl,rfl,rfl⟩
theorem zyz (g:Lang) (hg:LightF g) (hc:LangC g) : ∀ f,SprC g f
 | 0=>z2l g
 | f+1=>z2m g hg hc f (zyz g hg hc f)
end Go.V
namespace Go.V
open Go Go.Proofs
def allF (g:Lang) (x:AllS) (a:List Prt) (_:List Int):AllS×Bool:=zel addF (x,true) (sprT g a.length a 0)
def zdc (g:Lang) (x:AllS):List (Nat×Obj'):=[(2,.box 56 (zai g.d)),(3,.box 121 [.fn 127 [.bp 4 0,.bp 5 0]]),(4,.box 61 [.ar 6]),(5,.box 4 [.d (.bool x.2)]),(6,.arr 31 1 (x.1.map fun a=>[zab a]))]
set_option maxHeartbeats 8000000 in
theorem yi0 (g:Lang) (hg:LightF g) (hc:LangC g) (w:List Int) (tr:List (List Int)) (x:AllS) (hx:allI x) (a:List Prt) (ha:a.length≤4) (base:List Int) :
  zcq Tryz.prog 129 [.d (zab a),.d (ints base),.bp 2 0,.bp 3 0] (zan g w tr (.fn 129 [.bp 2 0,.bp 3 0]) (zdc g x)) 7
   (.d (.bool (allF g x a base).2)) 7 (zan g w tr (.fn 129 [.bp 2 0,.bp 3 0]) (zdc g (allF g x a base).1)) [6]:=by
 have hS:=zyz g hg hc a.length x a 0 hx ha (by omega)
 unfold allF
 generalize zel addF (x,true) (sprT g a.length a 0)=z at hS
 obtain ⟨⟨o2,f2⟩,b2⟩:=z
 obtain ⟨out,full⟩:=x
 refine zb3 mixed Tryz.func129 rfl call_129 (by simp [Sym.los,Sym.lo]) ?_
 simp +decide [Tryz.f129,zan,zdc,zai,Lang.d,int,ints,u32,zab]
 refine zaj.mut [4,5,6] [.d g.d,.d (zab a),.d (int 0),.fn 127 [.bp 0 0,.bp 1 0]] (spO (out,full)) (by rfl) (by simp [rens,ren,rho,Lang.d,int,ints,zab]) (by simp) ?_ hS ?_
 ·simp [Fits,zen,spO,St.look,zae,zco,rens,ren,rho,int,List.range,List.range.loop,zab]
 simp +decide [zan,zdc,spO,zai,Lang.d,int,ints,u32,zab]
theorem ygg (g:Lang) (x:AllS):RestOk 7 (.fn 129 [.bp 2 0,.bp 3 0]) (zdc g x) where
 two:=by omega
 keys:=by simp [zdc]
 ids i o h:=by
  simp only [zdc,List.mem_cons,List.not_mem_nil,or_false] at h;rcases h with h | h | h | h | h <;> (cases h;simp [Obj'.lo,Sym.los,Sym.lo,zai,Lang.d])
 range:=rfl
 thawed k x h:=by
  have h2:¬(2=k):=by omega
  have h3:¬(3=k):=by omega
  have h4:¬(4=k):=by omega
  have h5:¬(5=k):=by omega
  have h6:¬(6=k):=by omega
  simp [zdc,zc2,zw8,zok,thaw,h2,h3,h4,h5,h6,zai,Lang.d]
 thawC k x h:=by simp [thaw]
 fn:=by simp [Sym.lo,Sym.los]
theorem ygh {g:Lang} {x:AllS} {a:List Prt} {base:List Int} (h:allI x) (ha:a.length≤4):allI (allF g x a base).1:=
 zrp _ _ h fun q hq=>by rw [zwr g _ _ _ q hq];exact ha
def allC (g:Lang) (hg:LightF g) (hc:LangC g) (w:List Int):Clo Tryz.prog g w AllS where
 F:=allF g
 rest:=zdc g
 fid:=129
 caps:=[.bp 2 0,.bp 3 0]
 n:=7
 mv:=[6]
 mvOk i h:=by rw [List.mem_singleton] at h;omega
 mvCaps:=by simp [zbz,zat]
 Inv _ x:=allI x
 ok:=ygg g
 mono _ _ h:=h
 call k x tr a base hI hk ha hb:=⟨yi0 g hg hc w tr x hI a ha base,ygh hI ha⟩
set_option maxHeartbeats 16000000 in
theorem yb1 (g:Lang) (hg:LightF g) (hc:LangC g) (w:List Int) (hw:w.length≤30)  :
  zcq Tryz.prog 128 [.d g.d,.d (ints w),.fn 129 [.bp 0 0,.bp 1 0]] ([(0,.box 56 (zai g.d)),(1,.box 121 [.fn 127 [.bp 2 0,.bp 3 0]]),(2,.box 61 [.ar 4]),(3,.box 4 [.d (.bool (([],false):AllS).2)]),(4,.arr 31 1 ((([],false):AllS).1.map fun a=>[zab a]))]) 5
   (.tup []) 5 ([(0,.box 56 (zai g.d)),(1,.box 121 [.fn 127 [.bp 2 0,.bp 3 0]]),(2,.box 61 [.ar 4]),(3,.box 4 [.d (.bool (sF (allF g) (([],false),true) ((zb1 g w).map fun b=>(b,zbc g.lex b))).1.2)]),(4,.arr 31 1 ((sF (allF g) (([],false),true) ((zb1 g w).map fun b=>(b,zbc g.lex b))).1.1.map fun a=>[zab a]))]) [4]:=by
 refine zb3 mixed Tryz.func128 rfl call_128 (by simp [Sym.los,Sym.lo]) ?_
 by_cases h0:w.length=0
 ·have h0':(w.length:Int)=0:=by omega
  simp +decide [Tryz.f128,zai,Lang.d,int,ints,u32,h0,h0',zb1,sF,zdc];done
 have h0':¬(w.length:Int)=0:=by omega
 by_cases h1:24<w.length
 ·have h1':(24:Int)<w.length:=by omega
  simp +decide [Tryz.f128,zai,Lang.d,int,ints,u32,h0,h0',h1,h1',zb1,sF,zdc];done
 have h1':¬(24:Int)<w.length:=by omega
 simp +decide [Tryz.f128,zai,Lang.d,int,ints,u32,h0,h0',h1,h1',zdc]
 have hR:=(hg.zwf hc).rules
 have hsh:=z7m g.rules (by have:=hR.2;omega) (fun r hr=>by have h1:=(hR.1 r hr).dst;have h2:=(hR.1 r hr).src;omega)
 refine yk8 mixed 7 [] (by rfl) (by rfl) (by rfl) (by rfl) (by rfl) ?_
 simp +decide [zai,Lang.d,int,ints,u32]
 refine zac (by rfl) (by rfl) hsh (by simp [D.scalar]) ?_
 simp +decide [zai,Lang.d,int,ints,u32]
 refine ⟨by rfl,?_⟩
 have hf:=hg.net'.ok.2.1
 have hfl:g.net.final.length<2^40:=hg.net'.few2
 refine zaz mixed (fun k:Nat=>{n:=46,next:=8,slots:=[(6,.bp 7 0),(28,.d (ints g.net.final)),(29,.d (int g.net.final.length)),(30,.d (int k))],own:=((7,.box 193 (zai g.d++[.d (ints w),.d (.bool (ze9 g.rules)),.d (u32 (zbe (g.net.final.take k))),.mp 6,.fn 129 [.bp 0 0,.bp 1 0]]))::(6,.map 190 [])::[(0,.box 56 (zai g.d)),(1,.box 121 [.fn 127 [.bp 2 0,.bp 3 0]]),(2,.box 61 [.ar 4]),(3,.box 4 [.d (.bool (([],false):AllS).2)]),(4,.arr 31 1 ((([],false):AllS).1.map fun a=>[zab a]))]),base:=5})
  (fun k=>k≤g.net.final.length) (fun k=>g.net.final.length-k) 0 (by simp) ?_ ?_
 ·simp +decide [zai,Lang.d,int,ints,u32,zbe,zdc]
 intro k hk
 by_cases hlt:k<g.net.final.length
 ·have hlt':(k:Int)<g.net.final.length:=by omega
  have hsn:zbe (g.net.final.take (k+1))=zft (zbe (g.net.final.take k)) g.net.final[k]:=by unfold zbe;rw [zal hlt,List.foldl_append];rfl
  have hm8:zbe (g.net.final.take k)<8:=zga _ 0 (fun x hx=>hf x (List.mem_of_mem_take hx)) (by omega)
  have hq:=hf g.net.final[k] (List.getElem_mem hlt);obtain ⟨c,ec⟩ : ∃ c,g.net.final[k]=c:=⟨_,rfl⟩;have e1:g.net.final[k]?=some c:=by rw [List.getElem?_eq_getElem hlt,ec]
  rw [ec] at hsn hq;generalize zbe (g.net.final.take k)=mm at hsn hm8;have hwb:=znt hm8 hq.1 (show c<3 by omega)
  refine zao mixed ?_
  simp +decide [zai,Lang.d,int,ints,u32,hlt,hlt',e1,ec,I64,zdc];refine yii mixed 9 7 (by rfl) rfl rfl rfl rfl (by rfl) (by simp) ?_
  simp +decide [zai,Lang.d,int,ints,u32,hlt,hlt',e1,ec,I64];exact ⟨hq.1,⟨by omega,by omega⟩,k+1,hlt,by omega,by omega,by rw [hsn];exact hwb⟩
 have:k=g.net.final.length:=by omega
 subst this
 rw [List.take_length]
 refine zao mixed ?_
 simp +decide [zai,Lang.d,int,ints,u32,zdc]
 have hwc:=walk_nil ((zyv g hg hc w (by omega) (allC g hg hc w) 4).call 0 (([],false):AllS) [] [] 1 [] ⟨Nat.zero_le _,fun b hb=>by cases hb⟩ (by decide) (fun _ h=>by cases h) rfl (by omega) (by simp) (fun _ h=>by cases h))
 have hpl:=z2j hg h0 (by omega) (allC g hg hc w) (([],false):AllS)
 generalize zav g w (allC g hg hc w) 4 ((([],false):AllS),[]) [] 1 []=z at hwc hpl
 obtain ⟨⟨zx,zt⟩,zb⟩:=z
 have hzx:(sF (allF g) ((([],false):AllS),true) ((zb1 g w).map fun b=>(b,zbc g.lex b))).1=zx:=by
  have:=congrArg Prod.fst hpl;exact this.symm
 refine zaj.mut [7,6,0,1,2,3,4] [.bp 0 0,.nils,.d (u32 1),.nils] (zan g w [] (.fn 129 [.bp 2 0,.bp 3 0]) (zdc g (([],false):AllS))) (by rfl) (by simp [rens,ren,rho,u32]) (by simp) ?_ hwc ?_
 ·simp [Fits,zen,zan,zdc,St.look,zae,zco,rens,ren,rho,zai,Lang.d,zo8,int,ints,u32,List.range,List.range.loop]
 simp +decide [zan,zai,Lang.d,int,ints,u32,hzx,allC,zdc]
end Go.V
namespace Go.V
open Go Go.Proofs
def yb2 (g:Lang) (w:List Int):AllS:=(sF (allF g) (([],false),true) ((zb1 g w).map fun b=>(b,zbc g.lex b))).1
def allE (g:Lang) (w:List Int):List (List Prt)×Int:=if zg3 g.inv w≠0 then ([],zg3 g.inv w) else if (yb2 g w).2=true then ([],11) else ((yb2 g w).1,0)
set_option maxHeartbeats 8000000 in
theorem ygi (g:Lang) (hg:LightF g) (hc:LangC g) (w:List Int) (hw:w.length≤30):zam Tryz.prog 94 [g.d,ints w] (.tup [za1 (allE g w).1,int (allE g w).2]):=by
 have hR:=yb1 g hg hc w hw
 have hW:=yiy g.inv w (by omega)
 unfold allE
 rw [show (sF (allF g) (([],false),true) ((zb1 g w).map fun b=>(b,zbc g.lex b))).1=yb2 g w from rfl] at hR
 generalize yb2 g w=z at hR
 obtain ⟨out,full⟩:=z
 refine zmh Tryz.func94 rfl call_94 ?_
 by_cases hwc:zg3 g.inv w=0
 case neg=>
  refine zao mixed ?_
  simp +decide [Tryz.f94,zai,Lang.d,int,ints,hwc];refine zaj.pure (by rfl) hW (by simp [int,D.scalar]) ?_
  simp +decide [int,ints,hwc,za1]
 rw [hwc] at hW
 refine zfs mixed 5 {n:=24,next:=5,slots:=[(1,.d (ints w)),(2,.bp 0 0),(7,.bp 2 0),(8,.bp 3 0),(9,.bp 4 0)],own:=[(0,.box 56 (zai g.d)),(2,.box 61 [.nils]),(3,.box 4 [.d (.bool false)]),(4,.box 121 [.fn 127 [.bp 2 0,.bp 3 0]])]} rfl ?_ ?_
 ·simp +decide [Tryz.f94,zev,cutK,zai,Lang.d,int,ints]
  refine zaj.pure (by rfl) hW (by simp [int,D.scalar]) ?_
  simp +decide [int,ints,hwc,za1,zev,cutK]
 simp only [zfo]
 refine zwp 2 0 31 1 (T:=61) (l:=[.nils]) rfl rfl ?_
 refine zao mixed ?_
 simp +decide [Tryz.f94,zai,Lang.d,int,ints,St.new,St.set,aset]
 refine zaj.mut [0,4,2,3,5] [.d g.d,.d (ints w),.fn 129 [.bp 0 0,.bp 1 0]] ([(0,.box 56 (zai g.d)),(1,.box 121 [.fn 127 [.bp 2 0,.bp 3 0]]),(2,.box 61 [.ar 4]),(3,.box 4 [.d (.bool (([],false):AllS).2)]),(4,.arr 31 1 ((([],false):AllS).1.map fun a=>[zab a]))]) (by rfl) (by simp [rens,ren,rho,Lang.d,int,ints]) (by simp) ?_ hR ?_
 ·simp [Fits,zen,St.look,zae,zco,rens,ren,rho,int,List.range,List.range.loop,zai,Lang.d,ints]
 cases full with
 | true=>
  simp +decide [int,ints,za1,hwc]
 | false=>
  simp +decide [int,ints,za1,hwc]
end Go.V
namespace Go.V
open Go Go.Proofs
def allT (g:Lang) (w:List Int):List (List Prt):=(zb1 g w).flatMap fun a=>sprT g a.length a 0
theorem yb3 (g:Lang) : ∀ (l:List (List Prt)) (f:List Prt→List Int) (z:AllS×Bool),sF (allF g) z (l.map fun b=>(b,f b))=zel addF z (l.flatMap fun a=>sprT g a.length a 0)
 | [],f,z=>rfl
 | a::l,f,z=>by
  rw [List.map_cons,zwn,List.flatMap_cons,zgs];by_cases h:z.2=false
  ·rw [if_pos h,zhl h,zhl h]
  ·rw [if_neg h,yb3 g l f]
   have h':z.2=true:=by simpa using h
   unfold allF;obtain ⟨x,b⟩:=z;simp only at h'
   subst h';rfl
theorem z5y : ∀ (l:List (List Prt)) (out:List (List Prt)) (b:Bool),out.length+l.length≤200→zel addF ((out,b),true) l=((l.foldl (fun o a=>insL (fun x=>zbq a x) a o) out,b),true)
 | [],_,_,_=>rfl
 | a::l,out,b,h=>by
  rw [List.length_cons] at h;have e:addF (out,b) a=((insL (fun x=>zbq a x) a out,b),true):=by
   unfold addF;rw [if_neg (by show ¬ out.length=200;omega)]
  rw [zf3,if_neg (by simp),List.foldl_cons,e]
  exact z5y l _ b (by rw [zmp];omega)
theorem zy0 : ∀ (l:List (List Prt)) (out:List (List Prt)) (b:Bool),out.length≤200→200<out.length+l.length→(zel addF ((out,b),true) l).1.2=true
 | [],out,b,h,h'=>by rw [List.length_nil] at h';omega
 | a::l,out,b,h,h'=>by
  rw [List.length_cons] at h';rw [zf3,if_neg (by simp)]
  by_cases e:out.length=200
  ·have e1:addF (out,b) a=((out,true),false):=by unfold addF;rw [if_pos e]
   rw [e1,zhl rfl]
  ·have e1:addF (out,b) a=((insL (fun x=>zbq a x) a out,b),true):=by unfold addF;rw [if_neg e]
   rw [e1];exact zy0 l _ b (by rw [zmp];omega) (by rw [zmp];omega)
def insT (l:List (List Prt)):List (List Prt):=l.foldl (fun o a=>insL (fun x=>zbq a x) a o) []
theorem yb4 (g:Lang) (w:List Int):allE g w=if zg3 g.inv w≠0 then ([],zg3 g.inv w) else if 200<(allT g w).length then ([],11) else (insT (allT g w),0):=by
 unfold allE yb2
 rw [yb3,show (zb1 g w).flatMap (fun a=>sprT g a.length a 0)=allT g w from rfl]
 by_cases h0:zg3 g.inv w≠0
 ·rw [if_pos h0,if_pos h0]
 rw [if_neg h0,if_neg h0]
 by_cases h:200<(allT g w).length
 ·rw [if_pos h,if_pos (zy0 _ _ _ (by simp) (by simpa using h))]
 ·rw [if_neg h,z5y _ _ _ (by simp;omega),if_neg (by simp)]
  rfl
theorem zmq {a b:Prt}:zh1 a b=true↔a.entry<b.entry∨(a.entry=b.entry∧(a.alt<b.alt∨(a.alt=b.alt∧a.sense<b.sense))):=by
 unfold zh1
 by_cases h1:a.entry=b.entry
 ·rw [if_pos h1]
  by_cases h2:a.alt=b.alt
  ·rw [if_pos h2,decide_eq_true_eq];omega
  ·rw [if_neg h2,decide_eq_true_eq];omega
 ·rw [if_neg h1,decide_eq_true_eq];omega
theorem Prt.ext' {a b:Prt} (h1:a.entry=b.entry) (h2:a.alt=b.alt) (h3:a.sense=b.sense):a=b:=by
 cases a;cases b;simp only at h1 h2 h3;rw [h1,h2,h3]
theorem yb5 (a:Prt):zh1 a a=false:=by
 cases h:zh1 a a with
 | false=>rfl
 | true=>rw [zmq] at h;omega
theorem z2o {a b c:Prt} (h1:zh1 a b=true) (h2:zh1 b c=true):zh1 a c=true:=by
 rw [zmq] at h1 h2 ⊢;omega
theorem yb6 {a b:Prt} (h:a≠b):zh1 a b=true∨zh1 b a=true:=by
 rw [zmq,zmq]
 have:¬(a.entry=b.entry∧a.alt=b.alt∧a.sense=b.sense):=fun ⟨h1,h2,h3⟩=>h (Prt.ext' h1 h2 h3)
 omega
theorem zka {a b:Prt} {l m:List Prt}:zbq (a::l) (b::m)=if a=b then zbq l m else zh1 a b:=rfl
theorem zy1 : ∀ l:List Prt,zbq l l=false
 | []=>rfl
 | a::l=>by rw [zka,if_pos rfl];exact zy1 l
theorem zlm : ∀ {a b c:List Prt},zbq a b=true→zbq b c=true→zbq a c=true
 | [],[],_,h,_=>by simp [zbq] at h
 | [],_::_,[],_,h=>by simp [zbq] at h
 | [],_::_,_::_,_,_=>rfl
 | _::_,[],_,h,_=>by simp [zbq] at h
 | _::_,_::_,[],_,h=>by simp [zbq] at h
 | a::l,b::m,c::n,h1,h2=>by
  rw [zka] at h1 h2 ⊢;by_cases e1:a=b
  ·subst e1
   rw [if_pos rfl] at h1;by_cases e2:a=c
   ·subst e2
    rw [if_pos rfl] at h2 ⊢;exact zlm h1 h2
   ·rw [if_neg e2] at h2 ⊢;exact h2
  ·rw [if_neg e1] at h1
   by_cases e2:b=c
   ·subst e2
    rw [if_neg e1];exact h1
   ·rw [if_neg e2] at h2
    have h3:=z2o h1 h2;by_cases e3:a=c
    ·subst e3;rw [yb5] at h3;cases h3
    ·rw [if_neg e3];exact h3
theorem zy2 : ∀ {a b:List Prt},a≠b→zbq a b=true∨zbq b a=true
 | [],[],h=>absurd rfl h
 | [],_::_,_=>.inl rfl
 | _::_,[],_=>.inr rfl
 | a::l,b::m,h=>by
  rw [zka,zka];by_cases e:a=b
  ·subst e
   rw [if_pos rfl,if_pos rfl];exact zy2 fun e=>h (by rw [e])
  ·rw [if_neg e,if_neg (fun e'=>e e'.symm)]
   exact yb6 e
section
variable {α:Type}
theorem zy3 {lt:α→Bool} {l:List α} : ∀ n,n≤l.length→(∀ i,posL lt l n≤i→i<n→∀ h:i<l.length,lt l[i]=true)∧(∀ h:0<posL lt l n,∃ h':posL lt l n-1<l.length,lt l[posL lt l n-1]=false)
 | 0,_=>⟨fun i _ h=>absurd h (by omega),fun h=>absurd h (by simp [posL])⟩
 | n+1,hn=>by
  have ih:=zy3 (lt:=lt) (l:=l) n (by omega)
  have e1:l[n]?=some l[n]:=List.getElem?_eq_getElem (by omega)
  by_cases c:lt l[n]=true
  ·have e2:posL lt l (n+1)=posL lt l n:=by rw [posL,e1];simp only;rw [if_pos c]
   rw [e2];refine ⟨fun i h1 h2 h=>?_,ih.2⟩
   by_cases e:i=n
   ·subst e;exact c
   ·exact ih.1 i h1 (by omega) h
  ·have e2:posL lt l (n+1)=n+1:=by rw [posL,e1];simp only;rw [if_neg c]
   rw [e2];refine ⟨fun i h1 h2 h=>by omega,fun _=>⟨by omega,?_⟩⟩
   show lt l[n+1-1]=false
   simpa using c
theorem z2p {lt:α→α→Bool} (tr : ∀ {a b c},lt a b=true→lt b c=true→lt a c=true) (tot : ∀ {a b},a≠b→lt a b=true∨lt b a=true) {x:α} {l:List α}
  (hs:l.Pairwise fun a b=>lt a b=true) (hx:x∉l):(insL (fun o=>lt x o) x l).Pairwise fun a b=>lt a b=true:=by
 have hsp:=zy3 (lt:=fun o=>lt x o) (l:=l) l.length (Nat.le_refl _)
 have hle:=z2k (fun o=>lt x o) l l.length
 unfold insL
 generalize posL (fun o=>lt x o) l l.length=p at hsp hle
 have hup : ∀ b∈l.drop p,lt x b=true:=by
  intro b hb;obtain ⟨i,hi,e⟩:=List.mem_iff_getElem.1 hb;rw [List.length_drop] at hi;rw [List.getElem_drop] at e;have:=hsp.1 (p+i) (by omega) (by omega) (by omega)
  rw [← e];exact this
 have hdn : ∀ a∈l.take p,lt a x=true:=by
  intro a ha;obtain ⟨i,hi,e⟩:=List.mem_take_iff_getElem.1 ha;have hp:0<p:=by omega
  obtain ⟨h',hf⟩:=hsp.2 hp;have hne:l[p-1]≠x:=fun e=>hx (e▸List.getElem_mem h')
  have hl:lt l[p-1] x=true:=by
   rcases tot hne with h | h
   ·exact h
   ·rw [h] at hf;cases hf
  rw [← e];by_cases hi2:i=p-1
  ·subst hi2;exact hl
  ·exact tr (List.pairwise_iff_getElem.1 hs i (p-1) (by omega) h' (by omega)) hl
 rw [List.pairwise_append]
 refine ⟨hs.sublist (List.take_sublist _ _),List.pairwise_cons.2 ⟨hup,hs.sublist (List.drop_sublist _ _)⟩,fun a ha b hb=>?_⟩
 rcases List.mem_cons.1 hb with e | e
 ·rw [e];exact hdn a ha
 ·exact tr (hdn a ha) (hup b e)
end
theorem z5z {a:List Prt} : ∀ (l out:List (List Prt)),a∈l.foldl (fun o a=>insL (fun x=>zbq a x) a o) out↔a∈l∨a∈out
 | [],out=>by simp
 | b::l,out=>by
  rw [List.foldl_cons,z5z l,zgr,List.mem_cons];constructor
  ·rintro (h | h | h)
   ·exact .inl (.inr h)
   ·exact .inl (.inl h)
   ·exact .inr h
  ·rintro ((h | h) | h)
   ·exact .inr (.inl h)
   ·exact .inl h
   ·exact .inr (.inr h)
theorem zkb {a:List Prt} {l:List (List Prt)}:a∈insT l↔a∈l:=by unfold insT;rw [z5z];simp
theorem zrq : ∀ (l out:List (List Prt)),(out.Pairwise fun a b=>zbq a b=true)→l.Nodup→(∀ a∈l,a∉out)→(l.foldl (fun o a=>insL (fun x=>zbq a x) a o) out).Pairwise fun a b=>zbq a b=true
 | [],out,h,_,_=>h
 | b::l,out,h,hn,hd=>by
  rw [List.nodup_cons] at hn;rw [List.foldl_cons];refine zrq l _ (z2p (lt:=zbq) zlm zy2 h (hd b (List.mem_cons_self ..))) hn.2 fun a ha hm=>?_
  rcases zgr.1 hm with e | e
  ·subst e;exact hn.1 ha
  ·exact hd a (List.mem_cons_of_mem _ ha) e
theorem zln {l:List (List Prt)} (h:l.Nodup):(insT l).Pairwise fun a b=>zbq a b=true:=zrq l [] List.Pairwise.nil h fun _ _ h=>by cases h
theorem z6a : ∀ (l out:List (List Prt)),(l.foldl (fun o a=>insL (fun x=>zbq a x) a o) out).length=out.length+l.length
 | [],out=>rfl
 | b::l,out=>by rw [List.foldl_cons,z6a l,zmp,List.length_cons];omega
theorem z6b (l:List (List Prt)):(insT l).length=l.length:=by unfold insT;rw [z6a];simp
def sprL (g:Lang):List Prt→List (List Prt)
 | []=>[[]]
 | p::ps=>(List.range (zcf g.lex p.entry).length).flatMap fun (k:Nat)=>(sprL g ps).map fun t=>(⟨p.entry,p.alt,k⟩:Prt)::t
theorem yb7 (g:Lang) : ∀ (f:Nat) (p:List Prt) (i:Nat),i+f=p.length→sprT g f p i=(sprL g (p.drop i)).map fun t=>p.take i++t
 | 0,p,i,h=>by
  rw [sprT,List.drop_eq_nil_of_le (by omega),List.take_of_length_le (by omega)]
  simp [sprL]
 | f+1,p,i,h=>by
  have hi:i<p.length:=by omega
  have eg:p.getD i ⟨0,0,0⟩=p[i]:=by rw [List.getD_eq_getElem?_getD,List.getElem?_eq_getElem hi];rfl
  rw [sprT,eg,List.drop_eq_getElem_cons hi,sprL,List.map_flatMap];refine zfh fun k _=>?_
  rw [yb7 g f _ (i+1) (by rw [List.length_set];omega),List.map_map]
  have e1:(p.set i ⟨p[i].entry,p[i].alt,(k:Int)⟩).drop (i+1)=p.drop (i+1):=by rw [List.drop_set];rw [if_pos (by omega)]
  have e2:(p.set i ⟨p[i].entry,p[i].alt,(k:Int)⟩).take (i+1)=p.take i++[⟨p[i].entry,p[i].alt,(k:Int)⟩]:=by
   rw [List.take_succ_eq_append_getElem (by rw [List.length_set];exact hi),List.getElem_set_self,List.take_set_of_le (by omega)]
  rw [e1,e2];congr 1
  funext t
  simp
theorem ygj (g:Lang) (a:List Prt):sprT g a.length a 0=sprL g a:=by
 rw [yb7 g a.length a 0 (by omega)]
 simp
def Choice (g:Lang):List Prt→List Prt→Prop
 | [],[]=>True
 | p::ps,q::qs=>(q.entry=p.entry∧q.alt=p.alt∧0≤q.sense∧q.sense<(zcf g.lex p.entry).length)∧Choice g ps qs
 | _,_=>False
theorem zkc (g:Lang) : ∀ {a q:List Prt},q∈sprL g a↔Choice g a q
 | [],q=>by
  rw [sprL,List.mem_singleton];cases q with
  | nil=>simp [Choice]
  | cons _ _=>simp [Choice]
 | p::ps,q=>by
  rw [sprL,List.mem_flatMap];constructor
  ·rintro ⟨k,hk,h⟩
   obtain ⟨t,ht,rfl⟩:=List.mem_map.1 h;have:=List.mem_range.1 hk
   exact ⟨⟨rfl,rfl,by show (0:Int)≤(k:Int);omega,by show (k:Int)<_;omega⟩,(zkc g).1 ht⟩
  ·intro h
   cases q with
   | nil=>simp [Choice] at h
   | cons x t=>
    obtain ⟨⟨h1,h2,h3,h4⟩,h5⟩:=h;refine ⟨x.sense.toNat,List.mem_range.2 (by omega),List.mem_map.2 ⟨t,(zkc g).2 h5,?_⟩⟩
    congr 1
    exact Prt.ext' h1.symm h2.symm (by show ((x.sense.toNat:Nat):Int)=x.sense;omega)
theorem zu5 (g:Lang) : ∀ a:List Prt,(sprL g a).Nodup
 | []=>by rw [sprL];simp
 | p::ps=>by
  have ih:=zu5 g ps;rw [sprL];unfold List.Nodup at ih ⊢;rw [List.pairwise_flatMap];refine ⟨fun k _=>?_,?_⟩
  ·rw [List.pairwise_map]
   exact ih.imp fun h e=>h (List.cons.inj e).2
  ·refine List.Pairwise.imp ?_ List.pairwise_lt_range
   intro i j hij x hx y hy e;obtain ⟨t,_,rfl⟩:=List.mem_map.1 hx;obtain ⟨u,_,rfl⟩:=List.mem_map.1 hy;have:=(List.cons.inj e).1
   have:=congrArg Prt.sense this
   simp only at this
   omega
def bare (a:List Prt):List Prt:=a.map fun p=>⟨p.entry,p.alt,0⟩
theorem zd9 {g:Lang} : ∀ {a q:List Prt},Choice g a q→bare q=bare a
 | [],[],_=>rfl
 | [],_::_,h=>h.elim
 | _::_,[],h=>h.elim
 | p::ps,q::qs,h=>by
  obtain ⟨⟨h1,h2,_⟩,h5⟩:=h;have:=zd9 h5
  unfold bare at this ⊢;rw [List.map_cons,List.map_cons,this,h1,h2]
theorem yi1 {a:List Prt} (h : ∀ p∈a,p.sense=0):bare a=a:=by
 unfold bare
 conv=>rhs;rw [← List.map_id a]
 refine List.map_congr_left fun p hp=>?_
 exact Prt.ext' rfl rfl (h p hp).symm
end Go.V
namespace Go.V
open Go Go.Proofs
def zto (g:Lang) (p:Prt):Prop:=∃ e∈g.lex,p.entry=e.id∧p.sense=0∧∃ alt:Nat,alt<e.forms.length∧p.alt=alt
theorem zto.ok {g:Lang} (hg:LightF g) {p:Prt} (h:zto g p) : ∃ e∈g.lex,∃ alt:Nat,alt<e.forms.length∧p=⟨e.id,alt,0⟩:=by
 obtain ⟨e,he,h1,h2,alt,h3,h4⟩:=h
 exact ⟨e,he,alt,h3,Prt.ext' h1 h4 h2⟩
theorem zwt {g:Lang} {w:List Int} : ∀ (f:Nat) (a b:List Prt),b∈furF g w f a→∃ t,b=a++t∧t≠[]∧t.length≤f∧(∀ p∈t,zto g p)∧licB g w b=true
 | 0,a,b,h=>by simp [furF] at h
 | f+1,a,b,h=>by
  unfold furF at h;rw [List.mem_flatMap] at h;obtain ⟨e,he,h⟩:=h;split at h
  ·rw [List.mem_flatMap] at h
   obtain ⟨alt,ha,h⟩:=h;have ha:=List.mem_range.1 ha;have hp:zto g ⟨e.id,(alt:Int),0⟩:=⟨e,he,rfl,rfl,alt,ha,rfl⟩
   split at h
   ·cases h
   ·rcases List.mem_append.1 h with h | h
    ·split at h
     ·rename_i hl
      rw [List.mem_singleton] at h;subst h;exact ⟨[⟨e.id,(alt:Int),0⟩],rfl,by simp,by simp,(by intro p hp';rw [List.mem_singleton] at hp';rw [hp'];exact hp),hl⟩
     ·cases h
    ·obtain ⟨t,rfl,h1,h2,h3,h4⟩:=zwt f _ b h
     exact ⟨⟨e.id,(alt:Int),0⟩::t,by simp,by simp,by simp;omega,(fun p hm=>(List.mem_cons.1 hm).elim (fun e=>e▸hp) (h3 p)),h4⟩
  ·cases h
theorem yb8 {g:Lang} (hg:LightF g):g.lex.Pairwise fun e e'=>e.id<e'.id:=by
 rw [List.pairwise_iff_getElem]
 intro i j hi hj hij
 have:=lex_lt hg.lex.up (j-i-1) i (by omega)
 simpa [show i+(j-i-1)+1=j by omega] using this
theorem zkd {g:Lang} {w:List Int} {f:Nat} {a x:List Prt} {p:Prt} (h:x∈(if zd8 g w<(zbc g.lex (a++[p])).length then [] else (if licB g w (a++[p])=true then [a++[p]] else [])++furF g w f (a++[p]))) : ∃ t,x=a++p::t:=by
 split at h
 ·cases h
 ·rcases List.mem_append.1 h with h | h
  ·split at h
   ·rw [List.mem_singleton] at h;exact ⟨[],h⟩
   ·cases h
  ·obtain ⟨t,e,_⟩:=zwt f _ x h
   exact ⟨t,by rw [e];simp⟩
theorem zy4 {g:Lang} (hg:LightF g) (w:List Int) : ∀ (f:Nat) (a:List Prt),(furF g w f a).Nodup
 | 0,_=>by simp [furF]
 | f+1,a=>by
  unfold furF List.Nodup;rw [List.pairwise_flatMap];refine ⟨fun e he=>?_,?_⟩
  ·split
   ·rw [List.pairwise_flatMap]
    refine ⟨fun alt ha=>?_,?_⟩
    ·split
     ·exact List.Pairwise.nil
     ·rw [List.pairwise_append]
      refine ⟨by split <;> simp,zy4 hg w f _,fun x hx y hy e=>?_⟩
      subst e;obtain ⟨t,e,h1,_⟩:=zwt f _ x hy;split at hx
      ·rw [List.mem_singleton] at hx
       rw [hx] at e;have:=congrArg List.length e
       simp only [List.length_append,List.length_cons,List.length_nil] at this;exact h1 (List.length_eq_zero_iff.1 (by omega))
      ·cases hx
    ·refine List.Pairwise.imp ?_ List.pairwise_lt_range
     intro i j hij x hx y hy e;obtain ⟨t,rfl⟩:=zkd hx;obtain ⟨u,rfl⟩:=zkd hy;have:=(List.cons.inj (List.append_cancel_left e)).1
     have:=congrArg Prt.alt this
     simp only at this
     omega
   ·exact List.Pairwise.nil
  ·refine List.Pairwise.imp ?_ (yb8 hg)
   intro e e' hlt x hx y hy heq;split at hx
   ·split at hy
    ·rw [List.mem_flatMap] at hx hy
     obtain ⟨_,_,hx⟩:=hx;obtain ⟨_,_,hy⟩:=hy;obtain ⟨t,rfl⟩:=zkd hx;obtain ⟨u,rfl⟩:=zkd hy;have:=(List.cons.inj (List.append_cancel_left heq)).1
     have:=congrArg Prt.entry this
     simp only at this
     omega
    ·cases hy
   ·cases hx
structure PlainF (g:Lang) (w:List Int) (b:List Prt):Prop where
 pos:b≠[]
 len:b.length≤4
 parts : ∀ p∈b,zto g p
 lic:licE g w b=true
theorem zcs {g:Lang} {w:List Int} {b:List Prt} (h:b∈zb1 g w):PlainF g w b:=by
 unfold zb1 at h
 split at h
 ·cases h
 ·obtain ⟨t,rfl,h1,h2,h3,h4⟩:=zwt 4 [] b h
  unfold licB at h4;rw [Bool.and_eq_true] at h4;exact ⟨h1,h2,h3,h4.2⟩
theorem zrr {g:Lang} (hg:LightF g) (w:List Int):(zb1 g w).Nodup:=by
 unfold zb1
 split
 ·simp
 ·exact zy4 hg w 4 []
theorem PlainF.bare {g:Lang} {w:List Int} {b:List Prt} (h:PlainF g w b):bare b=b:=yi1 fun p hp=>by obtain ⟨_,_,_,h2,_⟩:=h.parts p hp;exact h2
theorem z2q (g:Lang) (w:List Int):allT g w=(zb1 g w).flatMap (sprL g):=by
 unfold allT
 refine zfh fun a _=>?_
 rw [ygj]
theorem zqh {g:Lang} {w:List Int} {q:List Prt}:q∈allT g w↔∃ a∈zb1 g w,Choice g a q:=by
 rw [z2q,List.mem_flatMap]
 constructor
 ·rintro ⟨a,h1,h2⟩;exact ⟨a,h1,(zkc g).1 h2⟩
 ·rintro ⟨a,h1,h2⟩;exact ⟨a,h1,(zkc g).2 h2⟩
theorem zu6 {g:Lang} (hg:LightF g) (w:List Int):(allT g w).Nodup:=by
 rw [z2q]
 unfold List.Nodup
 rw [List.pairwise_flatMap]
 refine ⟨fun a _=>zu5 g a,List.Pairwise.imp_of_mem ?_ (zrr hg w)⟩
 intro a b ha hb hne x hx y hy e
 subst e
 have h1:=zd9 ((zkc g).1 hx)
 have h2:=zd9 ((zkc g).1 hy)
 rw [(zcs ha).bare] at h1
 rw [(zcs hb).bare] at h2
 exact hne (h1.symm.trans h2)
theorem zn3 {g:Lang} : ∀ {a q:List Prt},Choice g a q→q.length=a.length
 | [],[],_=>rfl
 | [],_::_,h=>h.elim
 | _::_,[],h=>h.elim
 | p::ps,q::qs,h=>by rw [List.length_cons,List.length_cons,zn3 h.2]
theorem zo9 (l:List Ent) (a:List Prt):zas l (bare a)=zas l a:=by
 unfold zas bare
 rw [List.flatMap_map]
 rfl
theorem zy5 (l:List Ent) (a:List Prt):zbc l (bare a)=zbc l a:=by
 unfold zbc bare
 rw [List.flatMap_map]
 rfl
theorem zrt {g:Lang} {a q:List Prt} (h:Choice g a q):zbc g.lex q=zbc g.lex a:=by rw [← zy5,zd9 h,zy5]
theorem ztp {g:Lang} {a q:List Prt} (h:Choice g a q):zas g.lex q=zas g.lex a:=by rw [← zo9,zd9 h,zo9]
theorem zpa {g:Lang} (hg:LightF g) : ∀ {a q:List Prt},Choice g a q→(∀ p∈a,zto g p)→∀ p∈q,zhe g.lex p=0
 | [],[],_,_,p,hp=>by cases hp
 | [],_::_,h,_,_,_=>h.elim
 | _::_,[],h,_,_,_=>h.elim
 | p::ps,q::qs,h,hv,x,hx=>by
  rcases List.mem_cons.1 hx with e | hx
  ·subst e
   obtain ⟨⟨h1,h2,h3,h4⟩,_⟩:=h;obtain ⟨e,he,alt,ha,rfl⟩:=(hv p (List.mem_cons_self ..)).ok hg;simp only at h1 h2 h4
   have hf:=zje hg he ha;have hf':zgb g.lex x=(e,e.forms[alt]?.getD [],true):=by
    obtain ⟨x1,x2,x3⟩:=x;simp only at h1 h2
    subst h1;subst h2;exact hf
   unfold zhe;rw [hf',h1,zwg hg.lex.up he];simp only [Bool.true_eq_false,if_false];rw [if_neg (by omega)]
  ·exact zpa hg h.2 (fun y hy=>hv y (List.mem_cons_of_mem _ hy)) x hx
theorem z2r {g:Lang} (hg:LightF g) {a:List Prt} (h : ∀ p∈a,zto g p) : ∀ p∈a,zhe g.lex p=0:=by
 intro p hp
 obtain ⟨e,he,alt,ha,rfl⟩:=(h p hp).ok hg
 exact zrl hg he ha
theorem z2s {g:Lang} (hg:LightF g) {a q:List Prt} (h:Choice g a q) (hv : ∀ p∈a,zto g p):zff g q=zff g a:=by
 have h1:=zh5 (zpa hg h hv)
 have h2:=zh5 (z2r hg hv)
 unfold zff zfe
 rw [zn3 h,zrt h,ztp h,h1,h2]
theorem yb9 {g:Lang} (hg:LightF g) {w:List Int} {q:List Prt} (h:q∈allT g w):(zff g q).2=0∧(zff g q).1=w∧q.length≤4:=by
 obtain ⟨a,ha,hc⟩:=zqh.1 h
 have hp:=zcs ha
 rw [z2s hg hc hp.parts,zn3 hc]
 have:=hp.lic
 unfold licE at this
 rw [decide_eq_true_eq] at this
 exact ⟨this.1,this.2,hp.len⟩
theorem zru {g:Lang} (hg:LightF g) : ∀ {a:List Prt},(∀ p∈a,zto g p)→Choice g a a
 | [],_=>trivial
 | p::ps,h=>by
  refine ⟨?_,zru hg fun x hx=>h x (List.mem_cons_of_mem _ hx)⟩
  obtain ⟨e,he,alt,ha,rfl⟩:=(h p (List.mem_cons_self ..)).ok hg;have hs:0<(zcf g.lex e.id).length:=List.length_pos_iff.2 (hg.senses he)
  exact ⟨rfl,rfl,Int.le_refl _,by show (0:Int)<((zcf g.lex e.id).length:Int);omega⟩
theorem zwu {g:Lang} (hg:LightF g) : ∀ {a:List Prt},(∀ p∈a,zto g p)→zb8 (zbc g.lex a)
 | [],_=>fun x hx=>by cases hx
 | p::ps,h=>by
  have ih:=zwu hg fun x hx=>h x (List.mem_cons_of_mem _ hx)
  obtain ⟨e,he,alt,ha,rfl⟩:=(h p (List.mem_cons_self ..)).ok hg;have:zbc g.lex (⟨e.id,(alt:Int),0⟩::ps)=e.forms[alt]?.getD []++zbc g.lex ps:=by
   unfold zbc;rw [List.flatMap_cons,zje hg he ha];rfl
  rw [this];refine zb8.app ?_ ih
  rw [List.getElem?_eq_getElem ha];exact z5t hg he (List.getElem_mem ha)
structure BasJ (x:BasS):Prop where
 seen : ∀ k∈x.1,∃ b∈x.2,keyS b=k
theorem zwv (f:List Prt→List Int) : ∀ (l:List (List Prt)) (x:BasS),BasJ x→BasJ (sF basF (x,true) (l.map fun b=>(b,f b))).1 ∧
  (∀ b∈(sF basF (x,true) (l.map fun b=>(b,f b))).1.2,b∈x.2∨∃ a∈l,f a=b)∧(∀ b∈x.2,b∈(sF basF (x,true) (l.map fun b=>(b,f b))).1.2) ∧
  ∀ a∈l,∃ b∈(sF basF (x,true) (l.map fun b=>(b,f b))).1.2,keyS b=keyS (f a)
 | [],x,h=>⟨h,fun b hb=>.inl hb,fun b hb=>hb,fun a ha=>by cases ha⟩
 | a::l,x,h=>by
  rw [List.map_cons,zwn,if_neg (by simp)]
  have hF:basF x a (f a)=((basF x a (f a)).1,true):=rfl
  rw [hF];by_cases hm:keyS (f a)∈x.1
  ·have e:(basF x a (f a)).1=x:=by unfold basF;rw [if_pos hm]
   rw [e];obtain ⟨i1,i2,i3,i4⟩:=zwv f l x h;refine ⟨i1,fun b hb=>(i2 b hb).imp id fun ⟨c,hc,e⟩=>⟨c,List.mem_cons_of_mem _ hc,e⟩,i3,fun c hc=>?_⟩
   rcases List.mem_cons.1 hc with e2 | hc
   ·subst e2
    obtain ⟨b,hb,e3⟩:=h.seen _ hm;exact ⟨b,i3 b hb,e3⟩
   ·exact i4 c hc
  ·have e:(basF x a (f a)).1=(x.1++[keyS (f a)],insL (fun o=>yfd (f a) o) (f a) x.2):=by unfold basF;rw [if_neg hm]
   rw [e];obtain ⟨i1,i2,i3,i4⟩:=zwv f l (x.1++[keyS (f a)],insL (fun o=>yfd (f a) o) (f a) x.2) ⟨fun k hk=>by
    rcases List.mem_append.1 hk with hk | hk
    ·obtain ⟨b,hb,e⟩:=h.seen k hk
     exact ⟨b,zgr.2 (.inr hb),e⟩
    ·rw [List.mem_singleton] at hk
     exact ⟨f a,zgr.2 (.inl rfl),hk.symm⟩⟩
   refine ⟨i1,fun b hb=>?_,fun b hb=>i3 b (zgr.2 (.inr hb)),fun c hc=>?_⟩
   ·rcases i2 b hb with hb | ⟨c,hc,e⟩
    ·rcases zgr.1 hb with e | hb
     ·exact .inr ⟨a,List.mem_cons_self ..,e.symm⟩
     ·exact .inl hb
    ·exact .inr ⟨c,List.mem_cons_of_mem _ hc,e⟩
   ·rcases List.mem_cons.1 hc with e2 | hc
    ·subst e2
     exact ⟨f c,i3 _ (zgr.2 (.inl rfl)),rfl⟩
    ·exact i4 c hc
theorem zu7 {g:Lang} (hg:LightF g) {w:List Int} {b:List Int}:b∈z5w g w↔∃ a∈zb1 g w,zbc g.lex a=b:=by
 obtain ⟨_,i2,_,i4⟩:=zwv (zbc g.lex) (zb1 g w) ([],[]) ⟨fun k hk=>by cases hk⟩
 unfold z5w
 constructor
 ·intro h
  rcases i2 b h with h | h
  ·cases h
  ·exact h
 ·rintro ⟨a,ha,rfl⟩
  obtain ⟨c,hc,e⟩:=i4 a ha;rcases i2 c hc with h | ⟨a2,ha2,e2⟩
  ·cases h
  ·have:=key_inj (by rw [← e2];exact zwu hg (zcs ha2).parts) (zwu hg (zcs ha).parts) e
   rw [← this];exact hc
end Go.V
namespace Go.V
open Go Go.Proofs
def z2u (n:Int):Prop:=(Lit.int .i64 n).wf=true
theorem z2u.I64 {n:Int} (h:z2u n):I64 n:=by
 have:=bounds_i64 h
 unfold Go.V.I64;omega
def Prt.ok (p:Prt):Prop:=z2u p.entry∧z2u p.alt∧z2u p.sense
abbrev ykm:List Sh:=[.int .i64,.int .i64,.int .i64]
def yh7 (l:List Prt):Prop:=l.length≤maxLen∧∀ x∈l,x.ok
theorem zy6 {d:D} (h:FitD d (.sl ykm)) : ∃ l,d=zab l∧yh7 l:=by
 obtain ⟨xs,rfl,h1,h2⟩:=FitD.zqu (row:=Prt.row) (good:=Prt.ok) (fun r hr=>by
  obtain ⟨_,_,rfl,g1,r1⟩:=hr.zak;obtain ⟨_,_,rfl,g2,r2⟩:=r1.zak;obtain ⟨_,_,rfl,g3,r3⟩:=r2.zak;obtain rfl:=r3.zcd;obtain ⟨a,rfl,wa⟩:=g1.zbu;obtain ⟨b,rfl,wb⟩:=g2.zbu;obtain ⟨c,rfl,wc⟩:=g3.zbu;exact ⟨⟨a,b,c⟩,rfl,wa,wb,wc⟩) h
 exact ⟨xs,rfl,h1,h2⟩
end Go.V
namespace Go.V
open Go Go.Proofs
theorem zfv {α:Type} {M:Nat} {row:α→List D} : ∀ {l:List α},CapR M (l.map row)→∀ x∈l,Caps M (row x)
 | [],_,x,hx=>by cases hx
 | a::l,h,x,hx=>by
  simp only [List.map_cons,CapR] at h;rcases List.mem_cons.1 hx with e | e
  ·rw [e];exact h.1
  ·exact zfv h.2 x e
theorem zby {α:Type} {row:α→List D} {shs:List Sh} {d:D} (h : ∀ r,zbo r shs→∃ x,r=row x) (hf:FitD d (.sl shs)) : ∃ xs:List α,d = .sl (xs.map row):=by
 obtain ⟨xs,e,_,_⟩:=FitD.zqu (row:=row) (good:=fun _=>True) (fun r hr=>by obtain ⟨x,e⟩:=h r hr;exact ⟨x,e,trivial⟩) hf
 exact ⟨xs,e⟩
theorem yi2 {r:List D} (h:zbo r [.int .i64]) : ∃ n:Int,r=[int n]:=by
 obtain ⟨_,_,rfl,g1,r1⟩:=h.zak
 obtain rfl:=r1.zcd
 obtain ⟨a,rfl,_⟩:=g1.zbu
 exact ⟨a,rfl⟩
theorem zke {d:D} (h:FitD d (.sl [.int .i64])) : ∃ l,d=ints l:=zby (row:=fun n:Int=>[int n]) (fun r hr=>yi2 hr) h
theorem ygk {r:List D} (h:zbo r [.str,.int .i64]) : ∃ p:Phon,r=p.row:=by
 obtain ⟨_,_,rfl,g1,r1⟩:=h.zak
 obtain ⟨_,_,rfl,g2,r2⟩:=r1.zak
 obtain rfl:=r2.zcd
 obtain ⟨a,rfl,_⟩:=g1.zf1
 obtain ⟨b,rfl,_⟩:=g2.zbu
 exact ⟨⟨a,b⟩,rfl⟩
theorem ygl {r:List D} (h:zbo r [.str,.sl [.int .i64]]) : ∃ p:Grap,r=p.row:=by
 obtain ⟨_,_,rfl,g1,r1⟩:=h.zak
 obtain ⟨_,_,rfl,g2,r2⟩:=r1.zak
 obtain rfl:=r2.zcd
 obtain ⟨a,rfl,_⟩:=g1.zf1
 obtain ⟨b,rfl⟩:=zke g2
 exact ⟨⟨a,b⟩,rfl⟩
theorem yca {r:List D} (h:zbo r [.str]) : ∃ s:ByteArray,r=[.str s]:=by
 obtain ⟨_,_,rfl,g1,r1⟩:=h.zak
 obtain rfl:=r1.zcd
 obtain ⟨a,rfl,_⟩:=g1.zf1
 exact ⟨a,rfl⟩
theorem ygm {r:List D} (h:zbo r [.sl [.str]]) : ∃ l:List ByteArray,r=[.sl (l.map fun s=>[.str s])]:=by
 obtain ⟨_,_,rfl,g1,r1⟩:=h.zak
 obtain rfl:=r1.zcd
 obtain ⟨l,rfl⟩:=zby (row:=fun s:ByteArray=>[D.str s]) (fun r hr=>yca hr) g1
 exact ⟨l,rfl⟩
theorem zqi {r:List D} (h:zbo r [.int .i64,.int .i64]) : ∃ a b:Int,r=[int a,int b]:=by
 obtain ⟨_,_,rfl,g1,r1⟩:=h.zak
 obtain ⟨_,_,rfl,g2,r2⟩:=r1.zak
 obtain rfl:=r2.zcd
 obtain ⟨a,rfl,_⟩:=g1.zbu
 obtain ⟨b,rfl,_⟩:=g2.zbu
 exact ⟨a,b,rfl⟩
theorem ycb {d:D} (h:FitD d (.sl [.int .i64,.int .i64])) : ∃ l,d=clsD l:=zby (row:=Cls.row) (fun r hr=>by obtain ⟨a,b,rfl⟩:=zqi hr;exact ⟨⟨a,b⟩,rfl⟩) h
theorem ygn {r:List D} (h:zbo r [.sl [.int .i64],.sl [.int .i64],.sl [.int .i64,.int .i64],.sl [.int .i64,.int .i64],.bool,.bool]) : ∃ x:Rule,r=x.row:=by
 obtain ⟨_,_,rfl,g1,r1⟩:=h.zak
 obtain ⟨_,_,rfl,g2,r2⟩:=r1.zak
 obtain ⟨_,_,rfl,g3,r3⟩:=r2.zak
 obtain ⟨_,_,rfl,g4,r4⟩:=r3.zak
 obtain ⟨_,_,rfl,g5,r5⟩:=r4.zak
 obtain ⟨_,_,rfl,g6,r6⟩:=r5.zak
 obtain rfl:=r6.zcd
 obtain ⟨a,rfl⟩:=zke g1
 obtain ⟨b,rfl⟩:=zke g2
 obtain ⟨c,rfl⟩:=ycb g3
 obtain ⟨d,rfl⟩:=ycb g4
 obtain ⟨e,rfl⟩:=g5.zle
 obtain ⟨f,rfl⟩:=g6.zle
 exact ⟨⟨a,b,c,d,e,f⟩,rfl⟩
theorem yi3 {r:List D} (h:zbo r [.int .i64,.int .i64,.int .i64]) : ∃ x:Stp,r=x.row:=by
 obtain ⟨_,_,rfl,g1,r1⟩:=h.zak
 obtain ⟨a,b,rfl⟩:=zqi r1
 obtain ⟨c,rfl,_⟩:=g1.zbu
 exact ⟨⟨c,a,b⟩,rfl⟩
theorem ygo {r:List D} (h:zbo r [.str,.str]) : ∃ x:Sens,r=x.row:=by
 obtain ⟨_,_,rfl,g1,r1⟩:=h.zak
 obtain ⟨b,rfl⟩:=yca r1
 obtain ⟨a,rfl,_⟩:=g1.zf1
 exact ⟨⟨a,b⟩,rfl⟩
theorem ycc {d:D} (h:FitD d (.sl [.sl [.int .i64]])) : ∃ l,d=zbh l:=zby (row:=fun a:List Int=>[ints a]) (fun r hr=>by
 obtain ⟨_,_,rfl,g1,r1⟩:=hr.zak
 obtain rfl:=r1.zcd
 obtain ⟨a,rfl⟩:=zke g1
 exact ⟨a,rfl⟩) h
abbrev ykn:List Sh:=[.int .i64,.sl [.int .i64],.int .i64,.sl [.sl [.int .i64]],.int .i64,.sl [.str,.str],.sl [.int .i64,.int .i64],.sl [.int .i64,.int .i64]]
theorem yi4 {r:List D} (h:zbo r ykn) : ∃ x:Ent,r=x.row:=by
 obtain ⟨_,_,rfl,g1,r1⟩:=h.zak
 obtain ⟨_,_,rfl,g2,r2⟩:=r1.zak
 obtain ⟨_,_,rfl,g3,r3⟩:=r2.zak
 obtain ⟨_,_,rfl,g4,r4⟩:=r3.zak
 obtain ⟨_,_,rfl,g5,r5⟩:=r4.zak
 obtain ⟨_,_,rfl,g6,r6⟩:=r5.zak
 obtain ⟨_,_,rfl,g7,r7⟩:=r6.zak
 obtain ⟨_,_,rfl,g8,r8⟩:=r7.zak
 obtain rfl:=r8.zcd
 obtain ⟨a,rfl,_⟩:=g1.zbu
 obtain ⟨b,rfl⟩:=zke g2
 obtain ⟨c,rfl,_⟩:=g3.zbu
 obtain ⟨d,rfl⟩:=ycc g4
 obtain ⟨e,rfl,_⟩:=g5.zbu
 obtain ⟨f,rfl⟩:=zby (row:=Sens.row) (fun r hr=>ygo hr) g6
 obtain ⟨k,rfl⟩:=zby (row:=Lnk.row) (fun r hr=>by obtain ⟨a,b,rfl⟩:=zqi hr;exact ⟨⟨a,b⟩,rfl⟩) g7
 obtain ⟨m,rfl⟩:=zby (row:=Rf.row) (fun r hr=>by obtain ⟨a,b,rfl⟩:=zqi hr;exact ⟨⟨a,b⟩,rfl⟩) g8
 exact ⟨⟨a,b,c,d,e,f,k,m⟩,rfl⟩
abbrev yh8:List Sh:=[.sl [.str,.int .i64],.str,.sl [.str,.sl [.int .i64]],.sl [.sl [.str]],.sl [.sl [.int .i64],.sl [.int .i64],.sl [.int .i64,.int .i64],.sl [.int .i64,.int .i64],.bool,.bool],.int .i64,.sl [.int .i64,.int .i64,.int .i64],.sl [.int .i64],.sl ykn]
theorem z2v {l:List D} (h:zbo l yh8) : ∃ g:Lang,D.agg l=g.d:=by
 obtain ⟨_,_,rfl,g1,r1⟩:=h.zak
 obtain ⟨_,_,rfl,g2,r2⟩:=r1.zak
 obtain ⟨_,_,rfl,g3,r3⟩:=r2.zak
 obtain ⟨_,_,rfl,g4,r4⟩:=r3.zak
 obtain ⟨_,_,rfl,g5,r5⟩:=r4.zak
 obtain ⟨_,_,rfl,g6,r6⟩:=r5.zak
 obtain ⟨_,_,rfl,g7,r7⟩:=r6.zak
 obtain ⟨_,_,rfl,g8,r8⟩:=r7.zak
 obtain ⟨_,_,rfl,g9,r9⟩:=r8.zak
 obtain rfl:=r9.zcd
 obtain ⟨a,rfl⟩:=zby (row:=Phon.row) (fun r hr=>ygk hr) g1
 obtain ⟨b,rfl,_⟩:=g2.zf1
 obtain ⟨c,rfl⟩:=zby (row:=Grap.row) (fun r hr=>ygl hr) g3
 obtain ⟨d,rfl⟩:=zby (row:=fun r:List ByteArray=>[D.sl (r.map fun s=>[.str s])]) (fun r hr=>ygm hr) g4
 obtain ⟨e,rfl⟩:=zby (row:=Rule.row) (fun r hr=>ygn hr) g5
 obtain ⟨f,rfl,_⟩:=g6.zbu
 obtain ⟨k,rfl⟩:=zby (row:=Stp.row) (fun r hr=>yi3 hr) g7
 obtain ⟨m,rfl⟩:=zke g8
 obtain ⟨n,rfl⟩:=zby (row:=Ent.row) (fun r hr=>yi4 hr) g9
 exact ⟨⟨a,⟨b,c,d⟩,e,⟨f,k,m⟩,n⟩,rfl⟩
theorem ycd {g:Lang} (h:CapT 1048576 g.d):LangC g:=by
 simp only [Lang.d,CapT,Caps,Cap,invD,za8,zdr,zbj,stepsD,ints,lexD,int,List.length_map,and_true] at h
 obtain ⟨⟨a1,a2⟩,b1,⟨c1,c2⟩,⟨d1,d2⟩,⟨e1,e2⟩,_,⟨k1,_⟩,⟨m1,_⟩,n1,n2⟩:=h
 refine {inv:=⟨a1,fun p hp=>?_⟩,orth:=⟨b1,fun u hu=>?_,fun L hL=>?_,c1,d1⟩,rules:=⟨e1,fun r hr=>?_⟩,steps:=k1,final:=m1,lex:=⟨n1,fun e he=>?_⟩}
 ·have:=zfv a2 p hp
  simp only [Phon.row,Caps,Cap,int] at this;exact this.1
 ·have:=zfv c2 u hu
  simp only [Grap.row,Caps,Cap,int,ints,List.length_map] at this;exact ⟨this.1,this.2.1.1⟩
 ·have:=zfv d2 L hL
  simp only [Caps,Cap,List.length_map] at this;refine ⟨this.1.1,fun s hs=>?_⟩
  have:=zfv this.1.2 s hs
  simp only [Caps,Cap] at this;exact this.1
 ·have:=zfv e2 r hr
  simp only [Rule.row,Caps,Cap,int,ints,List.length_map] at this;exact ⟨this.1.1,this.2.1.1⟩
 ·have:=zfv n2 e he
  simp only [Ent.row,Caps,Cap,int,ints,zbh,zbp,lnkD,rfD,List.length_map] at this;obtain ⟨_,⟨f1,_⟩,_,⟨g1,g2⟩,_,⟨s1,s2⟩,⟨l1,_⟩,⟨r1,_⟩,_⟩:=this;refine ⟨f1,⟨g1,fun w hw=>?_⟩,⟨s1,fun s hs=>?_⟩,l1,r1⟩
  ·have:=zfv g2 w hw
   simp only [Caps,Cap,List.length_map] at this;exact this.1.1
  ·have:=zfv s2 s hs
   simp only [Sens.row,Caps,Cap] at this;exact ⟨this.1,this.2.1⟩
end Go.V
namespace Go.V
open Go Go.Proofs
theorem zlo {α β:Type} {f:α→List β} {n:Nat} : ∀ {l:List α},(∀ x∈l,(f x).length≤n)→(l.flatMap f).length≤l.length*n
 | [],_=>by simp
 | a::l,h=>by
  have h1:=h a (List.mem_cons_self ..);have h2:=zlo (l:=l) fun x hx=>h x (List.mem_cons_of_mem _ hx)
  rw [List.flatMap_cons,List.length_append,List.length_cons,Nat.add_mul,Nat.one_mul];omega
def cntF:Nat→Nat
 | 0=>0
 | f+1=>5*(2*(1+cntF f))
theorem z2w {g:Lang} (hg:LightF g) (w:List Int) : ∀ (f:Nat) (a:List Prt),(furF g w f a).length≤cntF f
 | 0,_=>by simp [furF,cntF]
 | f+1,a=>by
  unfold furF cntF;refine Nat.le_trans (zlo (n:=2*(1+cntF f)) fun e he=>?_) (Nat.mul_le_mul_right _ hg.small.few)
  split
  ·refine Nat.le_trans (zlo (n:=1+cntF f) fun alt _=>?_) (Nat.mul_le_mul_right _ ?_)
   ·split
    ·simp
    ·rw [List.length_append]
     have:=z2w hg w f (a++[⟨e.id,(alt:Int),0⟩])
     split <;> simp <;> omega
   ·rw [List.length_range]
    have:=(hg.small.forms e he).2.1
    simp [Ent.forms];omega
  ·simp
theorem ycf {g:Lang} (hg:LightF g) (w:List Int):(zb1 g w).length≤11110:=by
 unfold zb1
 split
 ·simp
 ·exact z2w hg w 4 []
structure AllOk (g:Lang) (w:List Int) (L:List (List Prt)):Prop where
 few:L.length≤200
 form : ∀ q∈L,(zff g q).2=0∧(zff g q).1=w∧q.length≤4
 up:L.Pairwise fun a b=>zbq a b=true
 base : ∀ q∈L,zbc g.lex q∈z5w g w
 all : ∀ b∈z5w g w,∃ q∈L,zbc g.lex q=b
theorem yi5 {g:Lang} (hg:LightF g) (w:List Int):((allE g w).2≠0→(allE g w).1=[])∧((allE g w).2=0→AllOk g w (allE g w).1):=by
 rw [yb4]
 by_cases h0:zg3 g.inv w≠0
 ·rw [if_pos h0]
  exact ⟨fun _=>rfl,fun h=>absurd h h0⟩
 rw [if_neg h0]
 by_cases h:200<(allT g w).length
 ·rw [if_pos h]
  exact ⟨fun _=>rfl,fun h=>by cases h⟩
 rw [if_neg h]
 refine ⟨fun h=>absurd rfl h,fun _=>⟨?_,fun q hq=>yb9 hg (zkb.1 hq),zln (zu6 hg w),fun q hq=>?_,fun b hb=>?_⟩⟩
 ·show (insT (allT g w)).length≤200
  rw [z6b];omega
 ·obtain ⟨a,ha,hc⟩:=zqh.1 (zkb.1 hq)
  rw [zrt hc];exact (zu7 hg).2 ⟨a,ha,rfl⟩
 ·obtain ⟨a,ha,rfl⟩:=(zu7 hg).1 hb
  exact ⟨a,zkb.2 (zqh.2 ⟨a,ha,zru hg (zcs ha).parts⟩),rfl⟩
end Go.V
namespace Go.V
open Go Go.Proofs
structure FormF (g:Lang) (w:List Int) (a:List Prt):Prop where
 word:zg3 g.inv w=0
 plain:bare a∈zb1 g w
 choice:Choice g (bare a) a
end Go.V

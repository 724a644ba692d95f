/- Contracts and plain laws of this seat: part M9. It needs no conditions. -/
import Derived.Test.YtmpknkjlhapcmaaGreatM8
import Derived.Test.YtmpknkjlhapcmaaGreatM1
import Derived.Test.YtmpknkjlhapcmaaGreatB1
import Derived.Test.YtmpknkjlhapcmaaGreatM6
import Derived.Test.YtmpknkjlhapcmaaGreatM2
set_option linter.unusedVariables false
set_option linter.unusedSimpArgs false
set_option linter.unusedSectionVars false
set_option maxRecDepth 100000
namespace Go.V
open Go Go.Proofs
def St.unmv (st:St):St:={st with moved:=st.moved.filter (fun i=>decide (i<st.base))}
theorem Mods.unmv {X:Nat→Prop} {w0:Base} {st:St} {β:Nat→Value} {a:Act} {w:World} (hm:Mods X w0 st β a w):Mods X w0 st.unmv β a w:=
 {hm with still:=⟨hm.still.1,fun id hid hk=>hm.still.2 id hid (fun hmem=>hk (List.mem_filter.2 ⟨hmem,decide_eq_true hid⟩))⟩}
def unmR (Q:St→Prop):St→Prop:=fun st=>Q st.unmv
theorem ze7 {P:Program} (hmix:P.follows .mixedOrders=true) {f:Nat} {fn:Func} {c:Code} (hf:P.funcs[f]?=some fn) (hb:fn.body=some c) (hcall:callable P f=true)
  {args:List Sym} {own:List (Nat×Obj')} {n:Nat} {s:Sym} {nx:Nat} {own':List (Nat×Obj')} {mv:List Nat} (hl:Sym.los n args)
  (h:ev P c (zso (unmR (resC P fn.results.toList n s nx own' mv))) (initC fn.ntmps args own n)):zcq P f args own n s nx own' mv:=by
 refine ⟨hcall,fun X w0 β w vs hβ hm hs=>?_⟩
 refine calls_of_wp hf hb ?_
 refine wp_mono (zar hmix h X w0 _ _ w (hm.initC hs hl)) ?_
 rintro e a' w' ⟨de,st',β',he,hq,hm'⟩
 cases e <;> cases de <;> simp only [exM] at he
 ·obtain ⟨v,h1,h2,h3,h4⟩:=zfn hm.defers hm'.unmv hq
  exact ⟨hm'.defers.trans hm.defers.symm,v,h1,β',v,rfl,h2,h3,h4⟩
 ·exact hq.elim
 ·obtain ⟨v,h1,h2,h3,h4⟩:=zfn hm.defers hm'.unmv hq
  exact ⟨hm'.defers.trans hm.defers.symm,v,h1,β',v,rfl,h2,h3,h4⟩
abbrev AllS:=List (List Prt)×Bool
def addF (x:AllS) (a:List Prt):AllS×Bool:=if x.1.length=200 then ((x.1,true),false) else ((insL (fun o=>zbc a o) a x.1,x.2),true)
def spO (x:AllS):List (Nat×Obj'):=[(0,.box 61 [.ar 2]),(1,.box 4 [.d (.bool x.2)]),(2,.arr 31 1 (x.1.map fun a=>[zab a]))]
set_option maxHeartbeats 16000000 in
theorem yg8 (x:AllS) (hx:x.1.length≤200) (hxb : ∀ b∈x.1,b.length<2^40) (a:List Prt) (ha:a.length<2^40) :
  zcq Tryz.prog 127 [.d (anaD a),.bp 0 0,.bp 1 0] (spO x) 3 (.d (.bool (addF x a).2)) 3 (spO (addF x a).1) [2]:=by
 obtain ⟨out,full⟩:=x
 simp only at hx hxb
 refine ze7 mixed Tryz.func127 rfl call_127 (by simp [Sym.los,Sym.lo]) ?_
 unfold addF
 by_cases h200:out.length=200
 ·have h200':(out.length:Int)=200:=by omega
  simp +decide [Tryz.f127,spO,int,anaD,zab,h200,h200',unmR,St.unmv];done
 have h200':¬(out.length:Int)=200:=by omega
 simp +decide [Tryz.f127,spO,int,anaD,zab,h200,h200',unmR,St.unmv]
 refine zbe mixed (fun k:Nat=>{n:=40,next:=4,slots:=[(1,.bp 0 0),(2,.bp 1 0),(3,.bp 3 0),(5,.d (int k))],own:=(3,.box 31 [.d (zab a)])::spO (out,full),base:=3})
  (fun k=>k≤out.length∧posL (fun o=>zbc a o) out k=posL (fun o=>zbc a o) out out.length) (fun k=>k) out.length ⟨Nat.le_refl _,rfl⟩ ?_ ?_
 ·simp +decide [spO,int,anaD,zab]
 intro k ⟨hk,hpos⟩
 by_cases hk0:0<k
 case neg=>
  have hz:posL (fun o=>zbc a o) out out.length=k:=by
   rw [← hpos];have:k=0:=by omega
   subst this;rfl
  have hk0':¬(0:Int)<k:=by omega
  refine zar mixed ?_
  simp +decide [spO,int,anaD,zab,I64,hk0,hk0'];unfold insL;rw [hz];clear hpos;generalize k=p at *;refine ⟨by omega,by unfold maxLen;omega,?_⟩
  refine ycx mixed 7 (by rfl) (by rfl) (by rfl) (by rfl) (by simp) ?_
  have hn1:¬(p:Int)=(out.length:Int)+1:=by omega
  by_cases hke:p=out.length
  ·subst hke
   simp +decide [int,zab,u32,I64,unmR,St.unmv,hn1];exact ⟨⟨by omega,by omega⟩,by omega,by omega,by omega⟩
  ·have hp1:p<out.length:=by omega
   have hke':¬(p:Int)=(out.length:Int):=by omega
   have hA:p+(out.length+1-p)=out.length+1:=by omega
   obtain ⟨a1,a2,a3⟩:=zxu (R:=out.map (fun a=>[zab a])) (by intro r hr;obtain ⟨y,_,rfl⟩:=List.mem_map.1 hr;rfl) (nr:=[.sl []]) rfl (zab a) (p:=p) (L:=out.length) (by simp) hp1
   unfold shM at a2 a3;simp only [zab] at a1 a2 a3;simp +decide [int,zab,u32,I64,unmR,St.unmv,hn1,hke',hA];refine ⟨⟨by omega,by omega⟩,⟨by omega,hk⟩,by omega,a1,by omega,by omega,by omega,a2,a3⟩
 obtain ⟨j,rfl⟩ : ∃ j,k=j+1:=⟨k-1,by omega⟩
 have hlt:j<out.length:=by omega
 have hlt':(j:Int)<out.length:=by omega
 obtain ⟨o,eo⟩ : ∃ o,out[j]=o:=⟨_,rfl⟩
 have e1:out[j]?=some o:=by rw [List.getElem?_eq_getElem hlt,eo]
 have hB:=yeq a o (by omega) (by have:=hxb out[j] (List.getElem_mem hlt);rw [eo] at this;omega)
 rw [posL,e1] at hpos
 simp only at hpos
 refine zar mixed ?_
 simp +decide [spO,int,anaD,zab,I64,hlt,hlt',eo,e1]
 refine ⟨by omega,?_⟩
 refine zae (by rfl) (by rfl) hB (by simp [D.scalar]) ?_
 cases hl:zbc a o with
 | true=>
  rw [if_pos hl] at hpos;simp +decide [spO,int,anaD,zab,I64,hl];exact ⟨by omega,j,⟨by omega,hpos⟩,by omega,rfl⟩
 | false=>
  rw [if_neg (by rw [hl];decide)] at hpos
  simp +decide [spO,int,anaD,zab,I64,hl];unfold insL;rw [← hpos];rw [show (j:Int)+1=((j+1:Nat):Int) from by omega]
  clear hpos e1 eo hlt hlt' hk0;generalize j+1=p at *;refine ⟨by omega,by unfold maxLen;omega,?_⟩
  refine ycx mixed 7 (by rfl) (by rfl) (by rfl) (by rfl) (by simp) ?_
  have hn1:¬(p:Int)=(out.length:Int)+1:=by omega
  by_cases hke:p=out.length
  ·subst hke
   simp +decide [int,zab,u32,I64,unmR,St.unmv,hn1];exact ⟨⟨by omega,by omega⟩,by omega,by omega,by omega⟩
  ·have hp1:p<out.length:=by omega
   have hke':¬(p:Int)=(out.length:Int):=by omega
   have hA:p+(out.length+1-p)=out.length+1:=by omega
   obtain ⟨a1,a2,a3⟩:=zxu (R:=out.map (fun a=>[zab a])) (by intro r hr;obtain ⟨y,_,rfl⟩:=List.mem_map.1 hr;rfl) (nr:=[.sl []]) rfl (zab a) (p:=p) (L:=out.length) (by simp) hp1
   unfold shM at a2 a3;simp only [zab] at a1 a2 a3;simp +decide [int,zab,u32,I64,unmR,St.unmv,hn1,hke',hA];refine ⟨⟨by omega,by omega⟩,⟨by omega,hk⟩,by omega,a1,by omega,by omega,by omega,a2,a3⟩
end Go.V
namespace Go.V
open Go Go.Proofs
section
variable {σ α:Type}
def zd9 (G:σ→α→σ×Bool):σ×Bool→List α→σ×Bool
 | z,[]=>z
 | z,a::r=>if z.2=false then z else zd9 G (G z.1 a) r
theorem zfi (G:σ→α→σ×Bool) (z:σ×Bool) (a:α) (r:List α):zd9 G z (a::r)=if z.2=false then z else zd9 G (G z.1 a) r:=rfl
theorem zg1 {G:σ→α→σ×Bool} {z:σ×Bool} (h:z.2=false) : ∀ l,zd9 G z l=z
 | []=>rfl
 | a::r=>by rw [zfi,if_pos h]
theorem zf6 {G:σ→α→σ×Bool} : ∀ (z:σ×Bool) (l r:List α),zd9 G z (l++r)=zd9 G (zd9 G z l) r
 | z,[],r=>rfl
 | z,a::l,r=>by
  rw [List.cons_append,zfi,zfi];by_cases h:z.2=false
  ·rw [if_pos h,if_pos h]
   exact (zg1 h r).symm
  ·rw [if_neg h,if_neg h]
   exact zf6 _ l r
end
def sprT (g:Lang):Nat→List Prt→Nat→List (List Prt)
 | 0,p,_=>[p]
 | f+1,p,i=>(List.range (zde g.lex (p.getD i ⟨0,0,0⟩).entry).length).flatMap fun (k:Nat)=>sprT g f (p.set i ⟨(p.getD i ⟨0,0,0⟩).entry,(p.getD i ⟨0,0,0⟩).alt,k⟩) (i+1)
def allI (x:AllS):Prop:=x.1.length≤200∧∀ b∈x.1,b.length≤4
theorem yev {x:AllS} (h:allI x) {a:List Prt} (ha:a.length≤4):allI (addF x a).1:=by
 unfold addF
 split
 ·exact h
 ·rename_i hl
  refine ⟨by simp only [zl4];have:=h.1;omega,fun b hb=>?_⟩
  rcases zf5.1 hb with e | e
  ·rw [e];exact ha
  ·exact h.2 b e
theorem zqe : ∀ (l:List (List Prt)) (z:AllS×Bool),allI z.1→(∀ a∈l,a.length≤4)→allI (zd9 addF z l).1
 | [],z,h,_=>h
 | a::l,z,h,hl=>by
  rw [zfi];split
  ·exact h
  ·exact zqe l _ (yev h (hl a (List.mem_cons_self ..))) fun b hb=>hl b (List.mem_cons_of_mem _ hb)
theorem zvh (g:Lang) : ∀ (f:Nat) (p:List Prt) (i:Nat),∀ q∈sprT g f p i,q.length=p.length
 | 0,p,i,q,h=>by rw [sprT,List.mem_singleton] at h;rw [h]
 | f+1,p,i,q,h=>by
  rw [sprT,List.mem_flatMap] at h;obtain ⟨k,_,h⟩:=h;rw [zvh g f _ _ q h,List.length_set]
def sprK (g:Lang) (f:Nat) (p:List Prt) (i k:Nat):List (List Prt):=(List.range k).flatMap fun (k:Nat)=>sprT g f (p.set i ⟨(p.getD i ⟨0,0,0⟩).entry,(p.getD i ⟨0,0,0⟩).alt,k⟩) (i+1)
theorem zxv (g:Lang) (f:Nat) (p:List Prt) (i k:Nat):sprK g f p i (k+1)=sprK g f p i k++sprT g f (p.set i ⟨(p.getD i ⟨0,0,0⟩).entry,(p.getD i ⟨0,0,0⟩).alt,k⟩) (i+1):=by
 unfold sprK;rw [List.range_succ,List.flatMap_append,List.flatMap_singleton]
theorem zxw (g:Lang) (f:Nat) (p:List Prt) (i:Nat) (z:AllS×Bool) (k:Nat) (h:(zd9 addF z (sprK g f p i k)).2=false) : ∀ d,zd9 addF z (sprK g f p i (k+d))=zd9 addF z (sprK g f p i k)
 | 0=>rfl
 | d+1=>by
  rw [← Nat.add_assoc,zxv,zf6,zxw g f p i z k h d];exact zg1 h _
theorem z4d {l:List Ent} (h : ∀ e∈l,e.senses.length<2^40) : ∀ ids,(senW l ids).length<2^40
 | []=>by simp [senW]
 | x::r=>by
  unfold senW;split
  ·unfold getE
   cases hf:l.find? (·.id=x) with
   | none=>simp [Ent.zero]
   | some e=>exact h e (List.mem_of_find?_eq_some hf)
  ·exact z4d h r
def SprC (g:Lang) (f:Nat):Prop:=∀ (x:AllS) (p:List Prt) (i:Nat),allI x→p.length≤4→i+f=p.length →
 zcq Tryz.prog 130 [.d g.d,.d (zab p),.d (int i),.fn 127 [.bp 0 0,.bp 1 0]] (spO x) 3 (.d (.bool (zd9 addF (x,true) (sprT g f p i)).2)) 3 (spO (zd9 addF (x,true) (sprT g f p i)).1) [2]
set_option maxHeartbeats 16000000 in
theorem z04 (g:Lang):SprC g 0:=by
 intro x p i hx hp hi
 have hip:(i:Int)=p.length:=by omega
 have hadd:=yg8 x hx.1 (fun b hb=>by have:=hx.2 b hb;omega) p (by omega)
 rw [show zd9 addF (x,true) (sprT g 0 p i)=addF x p from by simp [sprT,zd9]]
 generalize addF x p=z at hadd
 obtain ⟨zx,zb⟩:=z
 obtain ⟨out,full⟩:=x
 obtain ⟨zo,zf⟩:=zx
 refine ze7 mixed Tryz.func130 rfl call_130 (by simp [Sym.los,Sym.lo]) ?_
 simp +decide [Tryz.f130,spO,int,zab,zal,Lang.d,hip]
 refine ⟨fun a _=>rfl,by omega,by unfold maxLen;omega,?_⟩
 refine zaj.mutf [4] rfl [0,1,2] [.d (anaD p),.bp 0 0,.bp 1 0] (spO (out,full)) (by rfl) (by simp [rens,ren,rho,anaD,zab]) (by simp) ?_ hadd ?_
 ·simp [Fits,zgc,spO,St.look,zac,zcv,rens,ren,rho,int,List.range,List.range.loop,zab]
 simp +decide [int,zab,spO,unmR,St.unmv]
set_option maxHeartbeats 16000000 in
theorem z05 (g:Lang) (hg:LightF g) (hc:LangC g) (f:Nat) (ih:SprC g f):SprC g (f+1):=by
 intro x p i hx hp hi
 have hip:¬(i:Int)=p.length:=by omega
 have hlt:i<p.length:=by omega
 have hlt':(i:Int)<p.length:=by omega
 obtain ⟨q,eq⟩ : ∃ q,p[i]=q:=⟨_,rfl⟩
 have e1:p[i]?=some q:=by rw [List.getElem?_eq_getElem hlt,eq]
 have eg:p.getD i ⟨0,0,0⟩=q:=by rw [List.getD_eq_getElem?_getD,e1];rfl
 have hR:=hg.yae hc
 have hS:=zp0 g.lex q.entry hR.lex.len hR.lex.senses
 refine ze7 mixed Tryz.func130 rfl call_130 (by simp [Sym.los,Sym.lo]) ?_
 simp +decide [Tryz.f130,spO,int,zab,zal,Lang.d,hip,Prt.row,hlt,hlt',e1,eq]
 refine zae (by rfl) (by rfl) hS (by simp [D.scalar,zbu,int]) ?_
 simp +decide [spO,int,zab,zal,Lang.d,zbu]
 unfold sprT
 rw [eg]
 obtain ⟨ns,ens⟩ : ∃ ns,(zde g.lex q.entry).length=ns:=⟨_,rfl⟩
 have hns:ns<2^40:=by
  rw [← ens];unfold zde;rw [zuz];exact z4d hR.lex.senses _
 rw [ens]
 refine zbe mixed (fun k:Nat=>{n:=49,next:=4,slots:=[(1,.d (zab p)),(2,.d (int i)),(3,.fn 127 [.bp 0 0,.bp 1 0]),(4,.bp 3 0),(29,.d (int ns)),(30,.d (int k))],own:=(3,.box 56 (zal g.d))::spO (zd9 addF (x,true) (sprK g f p i k)).1,base:=3,moved:=[2,4]})
  (fun k=>k≤ns∧(zd9 addF (x,true) (sprK g f p i k)).2=true) (fun k=>ns-k) 0 ⟨Nat.zero_le _,rfl⟩ ?_ ?_
 ·simp +decide [spO,int,zab,zal,Lang.d,sprK,zd9]
 intro k ⟨hk,hgo⟩
 have hall:=zqe (sprK g f p i k) (x,true) hx (fun a ha=>by
  unfold sprK at ha;rw [List.mem_flatMap] at ha;obtain ⟨_,_,ha⟩:=ha;rw [zvh g f _ _ a ha,List.length_set];exact hp)
 have hnx:=zxv g f p i k
 rw [eg] at hnx
 have hstep:zd9 addF (x,true) (sprK g f p i (k+1))=zd9 addF (zd9 addF (x,true) (sprK g f p i k)) (sprT g f (p.set i ⟨q.entry,q.alt,k⟩) (i+1)):=by rw [hnx,zf6]
 by_cases hkn:k<ns
 case neg=>
  have:k=ns:=by omega
  subst this;have hfin:(List.range k).flatMap (fun (k:Nat)=>sprT g f (p.set i ⟨q.entry,q.alt,k⟩) (i+1))=sprK g f p i k:=by unfold sprK;rw [eg]
  rw [hfin];generalize zd9 addF (x,true) (sprK g f p i k)=z at hgo;obtain ⟨zx,zb⟩:=z;simp only at hgo
  subst hgo;refine zar mixed ?_
  simp +decide [spO,int,zab,zal,Lang.d,unmR,St.unmv]
 have hkn':(k:Int)<ns:=by omega
 generalize zd9 addF (x,true) (sprK g f p i k)=z at hgo hstep hall
 obtain ⟨⟨out,full⟩,zb⟩:=z
 simp only at hgo
 subst hgo
 have hcall:=ih (out,full) (p.set i ⟨q.entry,q.alt,k⟩) (i+1) hall (by rw [List.length_set];exact hp) (by rw [List.length_set];omega)
 have hset:(p.map Prt.row).set i [.int .i64 q.entry,.int .i64 q.alt,.int .i64 k]=(p.set i ⟨q.entry,q.alt,(k:Int)⟩).map Prt.row:=by rw [List.map_set];rfl
 refine zar mixed ?_
 simp +decide [spO,int,zab,zal,Lang.d,hkn,hkn',I64,Prt.row,hlt,hlt']
 rw [eq,hset]
 refine ⟨by omega,by unfold maxLen;omega,⟨by omega,by omega⟩,?_⟩
 generalize zd9 addF ((out,full),true) (sprT g f (p.set i ⟨q.entry,q.alt,(k:Int)⟩) (i+1))=z2 at hcall hstep
 obtain ⟨⟨o2,f2⟩,b2⟩:=z2
 refine zaj.mutf [4] rfl [0,1,2] [.d g.d,.d (zab (p.set i ⟨q.entry,q.alt,(k:Int)⟩)),.d (int (i+1)),.fn 127 [.bp 0 0,.bp 1 0]] (spO (out,full)) (by rfl) (by simp [rens,ren,rho,anaD,zab,Lang.d,int]) (by simp) ?_ (by simpa using hcall) ?_
 ·simp [Fits,zgc,spO,St.look,zac,zcv,rens,ren,rho,int,List.range,List.range.loop,zab]
 cases b2 with
 | true=>
  simp +decide [int,zab,spO,unmR,St.unmv,zal,Lang.d,I64];exact ⟨⟨by omega,by omega⟩,k+1,⟨hkn,by rw [hstep]⟩,by omega,by omega,by rw [hstep],by rw [hstep]⟩
 | false=>
  simp +decide [int,zab,spO,unmR,St.unmv,zal,Lang.d,I64];have hst:=zxw g f p i (x,true) (k+1) (by rw [hstep]) (ns-(k+1))
  rw [show k+1+(ns-(k+1))=ns by omega,hstep] at hst
  have hfin:(List.range ns).flatMap (fun (k:Nat)=>sprT g f (p.set i ⟨q.entry,q.alt,k⟩) (i+1))=sprK g f p i ns:=by unfold sprK;rw [eg]
  rw [hfin,hst];exact ⟨rfl,rfl,rfl⟩
theorem zxx (g:Lang) (hg:LightF g) (hc:LangC g) : ∀ f,SprC g f
 | 0=>z04 g
 | f+1=>z05 g hg hc f (zxx g hg hc f)
end Go.V
namespace Go.V
open Go Go.Proofs
def allF (g:Lang) (x:AllS) (a:List Prt) (_:List Int):AllS×Bool:=zd9 addF (x,true) (sprT g a.length a 0)
def zc8 (g:Lang) (x:AllS):List (Nat×Obj'):=[(2,.box 56 (zal g.d)),(3,.box 121 [.fn 127 [.bp 4 0,.bp 5 0]]),(4,.box 61 [.ar 6]),(5,.box 4 [.d (.bool x.2)]),(6,.arr 31 1 (x.1.map fun a=>[zab a]))]
set_option maxHeartbeats 8000000 in
theorem yg9 (g:Lang) (hg:LightF g) (hc:LangC g) (w:List Int) (tr:List (List Int)) (x:AllS) (hx:allI x) (a:List Prt) (ha:a.length≤4) (base:List Int) :
  zcq Tryz.prog 129 [.d (zab a),.d (ints base),.bp 2 0,.bp 3 0] (zak g w tr (.fn 129 [.bp 2 0,.bp 3 0]) (zc8 g x)) 7
   (.d (.bool (allF g x a base).2)) 7 (zak g w tr (.fn 129 [.bp 2 0,.bp 3 0]) (zc8 g (allF g x a base).1)) [6]:=by
 have hS:=zxx g hg hc a.length x a 0 hx ha (by omega)
 unfold allF
 generalize zd9 addF (x,true) (sprT g a.length a 0)=z at hS
 obtain ⟨⟨o2,f2⟩,b2⟩:=z
 obtain ⟨out,full⟩:=x
 refine zbz mixed Tryz.func129 rfl call_129 (by simp [Sym.los,Sym.lo]) ?_
 simp +decide [Tryz.f129,zak,zc8,zal,Lang.d,int,ints,u32,zab]
 refine zaj.mut [4,5,6] [.d g.d,.d (zab a),.d (int 0),.fn 127 [.bp 0 0,.bp 1 0]] (spO (out,full)) (by rfl) (by simp [rens,ren,rho,Lang.d,int,ints,zab]) (by simp) ?_ hS ?_
 ·simp [Fits,zgc,spO,St.look,zac,zcv,rens,ren,rho,int,List.range,List.range.loop,zab]
 simp +decide [zak,zc8,spO,zal,Lang.d,int,ints,u32,zab]
theorem yew (g:Lang) (x:AllS):RestOk 7 (.fn 129 [.bp 2 0,.bp 3 0]) (zc8 g x) where
 two:=by omega
 keys:=by simp [zc8]
 ids i o h:=by
  simp only [zc8,List.mem_cons,List.not_mem_nil,or_false] at h;rcases h with h | h | h | h | h <;> (cases h;simp [Obj'.lo,Sym.los,Sym.lo,zal,Lang.d])
 range:=rfl
 thawed k x h:=by
  have h2:¬(2=k):=by omega
  have h3:¬(3=k):=by omega
  have h4:¬(4=k):=by omega
  have h5:¬(5=k):=by omega
  have h6:¬(6=k):=by omega
  simp [zc8,zcu,zvx,zno,thaw,h2,h3,h4,h5,h6,zal,Lang.d]
 thawC k x h:=by simp [thaw]
 fn:=by simp [Sym.lo,Sym.los]
theorem yex {g:Lang} {x:AllS} {a:List Prt} {base:List Int} (h:allI x) (ha:a.length≤4):allI (allF g x a base).1:=
 zqe _ _ h fun q hq=>by rw [zvh g _ _ _ q hq];exact ha
def allC (g:Lang) (hg:LightF g) (hc:LangC g) (w:List Int):Clo Tryz.prog g w AllS where
 F:=allF g
 rest:=zc8 g
 fid:=129
 caps:=[.bp 2 0,.bp 3 0]
 n:=7
 mv:=[6]
 mvOk i h:=by rw [List.mem_singleton] at h;omega
 mvCaps:=by simp [zbx,zas]
 Inv _ x:=allI x
 ok:=yew g
 mono _ _ h:=h
 call k x tr a base hI hk ha hb:=⟨yg9 g hg hc w tr x hI a ha base,yex hI ha⟩
set_option maxHeartbeats 16000000 in
theorem yan (g:Lang) (hg:LightF g) (hc:LangC g) (w:List Int) (hw:w.length≤30)  :
  zcq Tryz.prog 128 [.d g.d,.d (ints w),.fn 129 [.bp 0 0,.bp 1 0]] ([(0,.box 56 (zal g.d)),(1,.box 121 [.fn 127 [.bp 2 0,.bp 3 0]]),(2,.box 61 [.ar 4]),(3,.box 4 [.d (.bool (([],false):AllS).2)]),(4,.arr 31 1 ((([],false):AllS).1.map fun a=>[zab a]))]) 5
   (.tup []) 5 ([(0,.box 56 (zal g.d)),(1,.box 121 [.fn 127 [.bp 2 0,.bp 3 0]]),(2,.box 61 [.ar 4]),(3,.box 4 [.d (.bool (sF (allF g) (([],false),true) ((zdv g w).map fun b=>(b,zbt g.lex b))).1.2)]),(4,.arr 31 1 ((sF (allF g) (([],false),true) ((zdv g w).map fun b=>(b,zbt g.lex b))).1.1.map fun a=>[zab a]))]) [4]:=by
 refine zbz mixed Tryz.func128 rfl call_128 (by simp [Sym.los,Sym.lo]) ?_
 by_cases h0:w.length=0
 ·have h0':(w.length:Int)=0:=by omega
  simp +decide [Tryz.f128,zal,Lang.d,int,ints,u32,h0,h0',zdv,sF,zc8];done
 have h0':¬(w.length:Int)=0:=by omega
 by_cases h1:24<w.length
 ·have h1':(24:Int)<w.length:=by omega
  simp +decide [Tryz.f128,zal,Lang.d,int,ints,u32,h0,h0',h1,h1',zdv,sF,zc8];done
 have h1':¬(24:Int)<w.length:=by omega
 simp +decide [Tryz.f128,zal,Lang.d,int,ints,u32,h0,h0',h1,h1',zc8]
 have hR:=(hg.yae hc).rules
 have hsh:=z5n g.rules (by have:=hR.2;omega) (fun r hr=>by have h1:=(hR.1 r hr).dst;have h2:=(hR.1 r hr).src;omega)
 refine yjh mixed 7 [] (by rfl) (by rfl) (by rfl) (by rfl) (by rfl) ?_
 simp +decide [zal,Lang.d,int,ints,u32]
 refine zae (by rfl) (by rfl) hsh (by simp [D.scalar]) ?_
 simp +decide [zal,Lang.d,int,ints,u32]
 refine ⟨by rfl,?_⟩
 have hf:=hg.net'.ok.2.1
 have hfl:g.net.final.length<2^40:=hg.net'.few2
 refine zbe mixed (fun k:Nat=>{n:=46,next:=8,slots:=[(6,.bp 7 0),(28,.d (ints g.net.final)),(29,.d (int g.net.final.length)),(30,.d (int k))],own:=((7,.box 193 (zal g.d++[.d (ints w),.d (.bool (zhi g.rules)),.d (u32 (zb6 (g.net.final.take k))),.mp 6,.fn 129 [.bp 0 0,.bp 1 0]]))::(6,.map 190 [])::[(0,.box 56 (zal g.d)),(1,.box 121 [.fn 127 [.bp 2 0,.bp 3 0]]),(2,.box 61 [.ar 4]),(3,.box 4 [.d (.bool (([],false):AllS).2)]),(4,.arr 31 1 ((([],false):AllS).1.map fun a=>[zab a]))]),base:=5})
  (fun k=>k≤g.net.final.length) (fun k=>g.net.final.length-k) 0 (by simp) ?_ ?_
 ·simp +decide [zal,Lang.d,int,ints,u32,zb6,zc8]
 intro k hk
 by_cases hlt:k<g.net.final.length
 ·have hlt':(k:Int)<g.net.final.length:=by omega
  have hsn:zb6 (g.net.final.take (k+1))=zhl (zb6 (g.net.final.take k)) g.net.final[k]:=by unfold zb6;rw [zao hlt,List.foldl_append];rfl
  have hm8:zb6 (g.net.final.take k)<8:=zgt _ 0 (fun x hx=>hf x (List.mem_of_mem_take hx)) (by omega)
  have hq:=hf g.net.final[k] (List.getElem_mem hlt);obtain ⟨c,ec⟩ : ∃ c,g.net.final[k]=c:=⟨_,rfl⟩;have e1:g.net.final[k]?=some c:=by rw [List.getElem?_eq_getElem hlt,ec]
  rw [ec] at hsn hq;generalize zb6 (g.net.final.take k)=mm at hsn hm8;have hwb:=zm6 hm8 hq.1 (show c<3 by omega)
  refine zar mixed ?_
  simp +decide [zal,Lang.d,int,ints,u32,hlt,hlt',e1,ec,I64,zc8];refine ygo mixed 9 7 (by rfl) rfl rfl rfl rfl (by rfl) (by simp) ?_
  simp +decide [zal,Lang.d,int,ints,u32,hlt,hlt',e1,ec,I64];exact ⟨hq.1,⟨by omega,by omega⟩,k+1,hlt,by omega,by omega,by rw [hsn];exact hwb⟩
 have:k=g.net.final.length:=by omega
 subst this
 rw [List.take_length]
 refine zar mixed ?_
 simp +decide [zal,Lang.d,int,ints,u32,zc8]
 have hwc:=walk_nil ((zxt g hg hc w (by omega) (allC g hg hc w) 4).call 0 (([],false):AllS) [] [] 1 [] ⟨Nat.zero_le _,fun b hb=>by cases hb⟩ (by decide) (fun _ h=>by cases h) rfl (by omega) (by simp) (fun _ h=>by cases h))
 have hpl:=z02 hg h0 (by omega) (allC g hg hc w) (([],false):AllS)
 generalize zat g w (allC g hg hc w) 4 ((([],false):AllS),[]) [] 1 []=z at hwc hpl
 obtain ⟨⟨zx,zt⟩,zb⟩:=z
 have hzx:(sF (allF g) ((([],false):AllS),true) ((zdv g w).map fun b=>(b,zbt g.lex b))).1=zx:=by
  have:=congrArg Prod.fst hpl;exact this.symm
 refine zaj.mut [7,6,0,1,2,3,4] [.bp 0 0,.nils,.d (u32 1),.nils] (zak g w [] (.fn 129 [.bp 2 0,.bp 3 0]) (zc8 g (([],false):AllS))) (by rfl) (by simp [rens,ren,rho,u32]) (by simp) ?_ hwc ?_
 ·simp [Fits,zgc,zak,zc8,St.look,zac,zcv,rens,ren,rho,zal,Lang.d,zoc,int,ints,u32,List.range,List.range.loop]
 simp +decide [zak,zal,Lang.d,int,ints,u32,hzx,allC,zc8]
end Go.V
namespace Go.V
open Go Go.Proofs
def yao (g:Lang) (w:List Int):AllS:=(sF (allF g) (([],false),true) ((zdv g w).map fun b=>(b,zbt g.lex b))).1
def allE (g:Lang) (w:List Int):List (List Prt)×Int:=if zij g.inv w≠0 then ([],zij g.inv w) else if (yao g w).2=true then ([],11) else ((yao g w).1,0)
set_option maxHeartbeats 8000000 in
theorem yey (g:Lang) (hg:LightF g) (hc:LangC g) (w:List Int) (hw:w.length≤30):zam Tryz.prog 94 [g.d,ints w] (.tup [zb4 (allE g w).1,int (allE g w).2]):=by
 have hR:=yan g hg hc w hw
 have hW:=yg7 g.inv w (by omega)
 unfold allE
 rw [show (sF (allF g) (([],false),true) ((zdv g w).map fun b=>(b,zbt g.lex b))).1=yao g w from rfl] at hR
 generalize yao g w=z at hR
 obtain ⟨out,full⟩:=z
 refine zlw Tryz.func94 rfl call_94 ?_
 by_cases hwc:zij g.inv w=0
 case neg=>
  refine zar mixed ?_
  simp +decide [Tryz.f94,zal,Lang.d,int,ints,hwc];refine zaj.pure (by rfl) hW (by simp [int,D.scalar]) ?_
  simp +decide [int,ints,hwc,zb4]
 rw [hwc] at hW
 refine zhg mixed 5 {n:=24,next:=5,slots:=[(1,.d (ints w)),(2,.bp 0 0),(7,.bp 2 0),(8,.bp 3 0),(9,.bp 4 0)],own:=[(0,.box 56 (zal g.d)),(2,.box 61 [.nils]),(3,.box 4 [.d (.bool false)]),(4,.box 121 [.fn 127 [.bp 2 0,.bp 3 0]])]} rfl ?_ ?_
 ·simp +decide [Tryz.f94,ze9,cutK,zal,Lang.d,int,ints]
  refine zaj.pure (by rfl) hW (by simp [int,D.scalar]) ?_
  simp +decide [int,ints,hwc,zb4,ze9,cutK]
 simp only [zfz]
 refine zvg 2 0 31 1 (T:=61) (l:=[.nils]) rfl rfl ?_
 refine zar mixed ?_
 simp +decide [Tryz.f94,zal,Lang.d,int,ints,St.new,St.set,aset]
 refine zaj.mut [0,4,2,3,5] [.d g.d,.d (ints w),.fn 129 [.bp 0 0,.bp 1 0]] ([(0,.box 56 (zal g.d)),(1,.box 121 [.fn 127 [.bp 2 0,.bp 3 0]]),(2,.box 61 [.ar 4]),(3,.box 4 [.d (.bool (([],false):AllS).2)]),(4,.arr 31 1 ((([],false):AllS).1.map fun a=>[zab a]))]) (by rfl) (by simp [rens,ren,rho,Lang.d,int,ints]) (by simp) ?_ hR ?_
 ·simp [Fits,zgc,St.look,zac,zcv,rens,ren,rho,int,List.range,List.range.loop,zal,Lang.d,ints]
 cases full with
 | true=>
  simp +decide [int,ints,zb4,hwc]
 | false=>
  simp +decide [int,ints,zb4,hwc]
end Go.V
namespace Go.V
open Go Go.Proofs
def allT (g:Lang) (w:List Int):List (List Prt):=(zdv g w).flatMap fun a=>sprT g a.length a 0
theorem yap (g:Lang) : ∀ (l:List (List Prt)) (f:List Prt→List Int) (z:AllS×Bool),sF (allF g) z (l.map fun b=>(b,f b))=zd9 addF z (l.flatMap fun a=>sprT g a.length a 0)
 | [],f,z=>rfl
 | a::l,f,z=>by
  rw [List.map_cons,zve,List.flatMap_cons,zf6];by_cases h:z.2=false
  ·rw [if_pos h,zg1 h,zg1 h]
  ·rw [if_neg h,yap g l f]
   have h':z.2=true:=by simpa using h
   unfold allF;obtain ⟨x,b⟩:=z;simp only at h'
   subst h';rfl
theorem z4e : ∀ (l:List (List Prt)) (out:List (List Prt)) (b:Bool),out.length+l.length≤200→zd9 addF ((out,b),true) l=((l.foldl (fun o a=>insL (fun x=>zbc a x) a o) out,b),true)
 | [],_,_,_=>rfl
 | a::l,out,b,h=>by
  rw [List.length_cons] at h;have e:addF (out,b) a=((insL (fun x=>zbc a x) a out,b),true):=by
   unfold addF;rw [if_neg (by show ¬ out.length=200;omega)]
  rw [zfi,if_neg (by simp),List.foldl_cons,e]
  exact z4e l _ b (by rw [zl4];omega)
theorem zxy : ∀ (l:List (List Prt)) (out:List (List Prt)) (b:Bool),out.length≤200→200<out.length+l.length→(zd9 addF ((out,b),true) l).1.2=true
 | [],out,b,h,h'=>by rw [List.length_nil] at h';omega
 | a::l,out,b,h,h'=>by
  rw [List.length_cons] at h';rw [zfi,if_neg (by simp)]
  by_cases e:out.length=200
  ·have e1:addF (out,b) a=((out,true),false):=by unfold addF;rw [if_pos e]
   rw [e1,zg1 rfl]
  ·have e1:addF (out,b) a=((insL (fun x=>zbc a x) a out,b),true):=by unfold addF;rw [if_neg e]
   rw [e1];exact zxy l _ b (by rw [zl4];omega) (by rw [zl4];omega)
def insT (l:List (List Prt)):List (List Prt):=l.foldl (fun o a=>insL (fun x=>zbc a x) a o) []
theorem yha (g:Lang) (w:List Int):allE g w=if zij g.inv w≠0 then ([],zij g.inv w) else if 200<(allT g w).length then ([],11) else (insT (allT g w),0):=by
 unfold allE yao
 rw [yap,show (zdv g w).flatMap (fun a=>sprT g a.length a 0)=allT g w from rfl]
 by_cases h0:zij g.inv w≠0
 ·rw [if_pos h0,if_pos h0]
 rw [if_neg h0,if_neg h0]
 by_cases h:200<(allT g w).length
 ·rw [if_pos h,if_pos (zxy _ _ _ (by simp) (by simpa using h))]
 ·rw [if_neg h,z4e _ _ _ (by simp;omega),if_neg (by simp)]
  rfl
theorem zl5 {a b:Prt}:zel a b=true↔a.entry<b.entry∨(a.entry=b.entry∧(a.alt<b.alt∨(a.alt=b.alt∧a.sense<b.sense))):=by
 unfold zel
 by_cases h1:a.entry=b.entry
 ·rw [if_pos h1]
  by_cases h2:a.alt=b.alt
  ·rw [if_pos h2,decide_eq_true_eq];omega
  ·rw [if_neg h2,decide_eq_true_eq];omega
 ·rw [if_neg h1,decide_eq_true_eq];omega
theorem Prt.ext' {a b:Prt} (h1:a.entry=b.entry) (h2:a.alt=b.alt) (h3:a.sense=b.sense):a=b:=by
 cases a;cases b;simp only at h1 h2 h3;rw [h1,h2,h3]
theorem yaq (a:Prt):zel a a=false:=by
 cases h:zel a a with
 | false=>rfl
 | true=>rw [zl5] at h;omega
theorem z06 {a b c:Prt} (h1:zel a b=true) (h2:zel b c=true):zel a c=true:=by
 rw [zl5] at h1 h2 ⊢;omega
theorem yar {a b:Prt} (h:a≠b):zel a b=true∨zel b a=true:=by
 rw [zl5,zl5]
 have:¬(a.entry=b.entry∧a.alt=b.alt∧a.sense=b.sense):=fun ⟨h1,h2,h3⟩=>h (Prt.ext' h1 h2 h3)
 omega
theorem znb {a b:Prt} {l m:List Prt}:zbc (a::l) (b::m)=if a=b then zbc l m else zel a b:=rfl
theorem zqf : ∀ {a b c:List Prt},zbc a b=true→zbc b c=true→zbc a c=true
 | [],[],_,h,_=>by simp [zbc] at h
 | [],_::_,[],_,h=>by simp [zbc] at h
 | [],_::_,_::_,_,_=>rfl
 | _::_,[],_,h,_=>by simp [zbc] at h
 | _::_,_::_,[],_,h=>by simp [zbc] at h
 | a::l,b::m,c::n,h1,h2=>by
  rw [znb] at h1 h2 ⊢;by_cases e1:a=b
  ·subst e1
   rw [if_pos rfl] at h1;by_cases e2:a=c
   ·subst e2
    rw [if_pos rfl] at h2 ⊢;exact zqf h1 h2
   ·rw [if_neg e2] at h2 ⊢;exact h2
  ·rw [if_neg e1] at h1
   by_cases e2:b=c
   ·subst e2
    rw [if_neg e1];exact h1
   ·rw [if_neg e2] at h2
    have h3:=z06 h1 h2;by_cases e3:a=c
    ·subst e3;rw [yaq] at h3;cases h3
    ·rw [if_neg e3];exact h3
theorem zxz : ∀ {a b:List Prt},a≠b→zbc a b=true∨zbc b a=true
 | [],[],h=>absurd rfl h
 | [],_::_,_=>.inl rfl
 | _::_,[],_=>.inr rfl
 | a::l,b::m,h=>by
  rw [znb,znb];by_cases e:a=b
  ·subst e
   rw [if_pos rfl,if_pos rfl];exact zxz fun e=>h (by rw [e])
  ·rw [if_neg e,if_neg (fun e'=>e e'.symm)]
   exact yar e
section
variable {α:Type}
theorem zx0 {lt:α→Bool} {l:List α} : ∀ n,n≤l.length→(∀ i,posL lt l n≤i→i<n→∀ h:i<l.length,lt l[i]=true)∧(∀ h:0<posL lt l n,∃ h':posL lt l n-1<l.length,lt l[posL lt l n-1]=false)
 | 0,_=>⟨fun i _ h=>absurd h (by omega),fun h=>absurd h (by simp [posL])⟩
 | n+1,hn=>by
  have ih:=zx0 (lt:=lt) (l:=l) n (by omega)
  have e1:l[n]?=some l[n]:=List.getElem?_eq_getElem (by omega)
  by_cases c:lt l[n]=true
  ·have e2:posL lt l (n+1)=posL lt l n:=by rw [posL,e1];simp only;rw [if_pos c]
   rw [e2];refine ⟨fun i h1 h2 h=>?_,ih.2⟩
   by_cases e:i=n
   ·subst e;exact c
   ·exact ih.1 i h1 (by omega) h
  ·have e2:posL lt l (n+1)=n+1:=by rw [posL,e1];simp only;rw [if_neg c]
   rw [e2];refine ⟨fun i h1 h2 h=>by omega,fun _=>⟨by omega,?_⟩⟩
   show lt l[n+1-1]=false
   simpa using c
theorem z07 {lt:α→α→Bool} (tr : ∀ {a b c},lt a b=true→lt b c=true→lt a c=true) (tot : ∀ {a b},a≠b→lt a b=true∨lt b a=true) {x:α} {l:List α}
  (hs:l.Pairwise fun a b=>lt a b=true) (hx:x∉l):(insL (fun o=>lt x o) x l).Pairwise fun a b=>lt a b=true:=by
 have hsp:=zx0 (lt:=fun o=>lt x o) (l:=l) l.length (Nat.le_refl _)
 have hle:=z03 (fun o=>lt x o) l l.length
 unfold insL
 generalize posL (fun o=>lt x o) l l.length=p at hsp hle
 have hup : ∀ b∈l.drop p,lt x b=true:=by
  intro b hb;obtain ⟨i,hi,e⟩:=List.mem_iff_getElem.1 hb;rw [List.length_drop] at hi;rw [List.getElem_drop] at e;have:=hsp.1 (p+i) (by omega) (by omega) (by omega)
  rw [← e];exact this
 have hdn : ∀ a∈l.take p,lt a x=true:=by
  intro a ha;obtain ⟨i,hi,e⟩:=List.mem_take_iff_getElem.1 ha;have hp:0<p:=by omega
  obtain ⟨h',hf⟩:=hsp.2 hp;have hne:l[p-1]≠x:=fun e=>hx (e▸List.getElem_mem h')
  have hl:lt l[p-1] x=true:=by
   rcases tot hne with h | h
   ·exact h
   ·rw [h] at hf;cases hf
  rw [← e];by_cases hi2:i=p-1
  ·subst hi2;exact hl
  ·exact tr (List.pairwise_iff_getElem.1 hs i (p-1) (by omega) h' (by omega)) hl
 rw [List.pairwise_append]
 refine ⟨hs.sublist (List.take_sublist _ _),List.pairwise_cons.2 ⟨hup,hs.sublist (List.drop_sublist _ _)⟩,fun a ha b hb=>?_⟩
 rcases List.mem_cons.1 hb with e | e
 ·rw [e];exact hdn a ha
 ·exact tr (hdn a ha) (hup b e)
end
theorem z4f {a:List Prt} : ∀ (l out:List (List Prt)),a∈l.foldl (fun o a=>insL (fun x=>zbc a x) a o) out↔a∈l∨a∈out
 | [],out=>by simp
 | b::l,out=>by
  rw [List.foldl_cons,z4f l,zf5,List.mem_cons];constructor
  ·rintro (h | h | h)
   ·exact .inl (.inr h)
   ·exact .inl (.inl h)
   ·exact .inr h
  ·rintro ((h | h) | h)
   ·exact .inr (.inl h)
   ·exact .inl h
   ·exact .inr (.inr h)
theorem zvi {a:List Prt} {l:List (List Prt)}:a∈insT l↔a∈l:=by unfold insT;rw [z4f];simp
theorem zqg : ∀ (l out:List (List Prt)),(out.Pairwise fun a b=>zbc a b=true)→l.Nodup→(∀ a∈l,a∉out)→(l.foldl (fun o a=>insL (fun x=>zbc a x) a o) out).Pairwise fun a b=>zbc a b=true
 | [],out,h,_,_=>h
 | b::l,out,h,hn,hd=>by
  rw [List.nodup_cons] at hn;rw [List.foldl_cons];refine zqg l _ (z07 (lt:=zbc) zqf zxz h (hd b (List.mem_cons_self ..))) hn.2 fun a ha hm=>?_
  rcases zf5.1 hm with e | e
  ·subst e;exact hn.1 ha
  ·exact hd a (List.mem_cons_of_mem _ ha) e
theorem z08 {l:List (List Prt)} (h:l.Nodup):(insT l).Pairwise fun a b=>zbc a b=true:=zqg l [] List.Pairwise.nil h fun _ _ h=>by cases h
theorem z4g : ∀ (l out:List (List Prt)),(l.foldl (fun o a=>insL (fun x=>zbc a x) a o) out).length=out.length+l.length
 | [],out=>rfl
 | b::l,out=>by rw [List.foldl_cons,z4g l,zl4,List.length_cons];omega
theorem yez (l:List (List Prt)):(insT l).length=l.length:=by unfold insT;rw [z4g];simp
def sprL (g:Lang):List Prt→List (List Prt)
 | []=>[[]]
 | p::ps=>(List.range (zde g.lex p.entry).length).flatMap fun (k:Nat)=>(sprL g ps).map fun t=>(⟨p.entry,p.alt,k⟩:Prt)::t
theorem yas (g:Lang) : ∀ (f:Nat) (p:List Prt) (i:Nat),i+f=p.length→sprT g f p i=(sprL g (p.drop i)).map fun t=>p.take i++t
 | 0,p,i,h=>by
  rw [sprT,List.drop_eq_nil_of_le (by omega),List.take_of_length_le (by omega)]
  simp [sprL]
 | f+1,p,i,h=>by
  have hi:i<p.length:=by omega
  have eg:p.getD i ⟨0,0,0⟩=p[i]:=by rw [List.getD_eq_getElem?_getD,List.getElem?_eq_getElem hi];rfl
  rw [sprT,eg,List.drop_eq_getElem_cons hi,sprL,List.map_flatMap];refine ze1 fun k _=>?_
  rw [yas g f _ (i+1) (by rw [List.length_set];omega),List.map_map]
  have e1:(p.set i ⟨p[i].entry,p[i].alt,(k:Int)⟩).drop (i+1)=p.drop (i+1):=by rw [List.drop_set];rw [if_pos (by omega)]
  have e2:(p.set i ⟨p[i].entry,p[i].alt,(k:Int)⟩).take (i+1)=p.take i++[⟨p[i].entry,p[i].alt,(k:Int)⟩]:=by
   rw [List.take_succ_eq_append_getElem (by rw [List.length_set];exact hi),List.getElem_set_self,List.take_set_of_le (by omega)]
  rw [e1,e2];congr 1
  funext t
  simp
theorem ye0 (g:Lang) (a:List Prt):sprT g a.length a 0=sprL g a:=by
 rw [yas g a.length a 0 (by omega)]
 simp
def Choice (g:Lang):List Prt→List Prt→Prop
 | [],[]=>True
 | p::ps,q::qs=>(q.entry=p.entry∧q.alt=p.alt∧0≤q.sense∧q.sense<(zde g.lex p.entry).length)∧Choice g ps qs
 | _,_=>False
theorem zjv (g:Lang) : ∀ {a q:List Prt},q∈sprL g a↔Choice g a q
 | [],q=>by
  rw [sprL,List.mem_singleton];cases q with
  | nil=>simp [Choice]
  | cons _ _=>simp [Choice]
 | p::ps,q=>by
  rw [sprL,List.mem_flatMap];constructor
  ·rintro ⟨k,hk,h⟩
   obtain ⟨t,ht,rfl⟩:=List.mem_map.1 h;have:=List.mem_range.1 hk
   exact ⟨⟨rfl,rfl,by show (0:Int)≤(k:Int);omega,by show (k:Int)<_;omega⟩,(zjv g).1 ht⟩
  ·intro h
   cases q with
   | nil=>simp [Choice] at h
   | cons x t=>
    obtain ⟨⟨h1,h2,h3,h4⟩,h5⟩:=h;refine ⟨x.sense.toNat,List.mem_range.2 (by omega),List.mem_map.2 ⟨t,(zjv g).2 h5,?_⟩⟩
    congr 1
    exact Prt.ext' h1.symm h2.symm (by show ((x.sense.toNat:Nat):Int)=x.sense;omega)
theorem ztt (g:Lang) : ∀ a:List Prt,(sprL g a).Nodup
 | []=>by rw [sprL];simp
 | p::ps=>by
  have ih:=ztt g ps;rw [sprL];unfold List.Nodup at ih ⊢;rw [List.pairwise_flatMap];refine ⟨fun k _=>?_,?_⟩
  ·rw [List.pairwise_map]
   exact ih.imp fun h e=>h (List.cons.inj e).2
  ·refine List.Pairwise.imp ?_ List.pairwise_lt_range
   intro i j hij x hx y hy e;obtain ⟨t,_,rfl⟩:=List.mem_map.1 hx;obtain ⟨u,_,rfl⟩:=List.mem_map.1 hy;have:=(List.cons.inj e).1
   have:=congrArg Prt.sense this
   simp only at this
   omega
def bare (a:List Prt):List Prt:=a.map fun p=>⟨p.entry,p.alt,0⟩
theorem zfs {g:Lang} : ∀ {a q:List Prt},Choice g a q→bare q=bare a
 | [],[],_=>rfl
 | [],_::_,h=>h.elim
 | _::_,[],h=>h.elim
 | p::ps,q::qs,h=>by
  obtain ⟨⟨h1,h2,_⟩,h5⟩:=h;have:=zfs h5
  unfold bare at this ⊢;rw [List.map_cons,List.map_cons,this,h1,h2]
theorem yhb {a:List Prt} (h : ∀ p∈a,p.sense=0):bare a=a:=by
 unfold bare
 conv=>rhs;rw [← List.map_id a]
 refine List.map_congr_left fun p hp=>?_
 exact Prt.ext' rfl rfl (h p hp).symm
end Go.V
namespace Go.V
open Go Go.Proofs
def zsd (g:Lang) (p:Prt):Prop:=∃ e∈g.lex,p.entry=e.id∧p.sense=0∧∃ alt:Nat,alt<e.forms.length∧p.alt=alt
theorem zsd.ok {g:Lang} (hg:LightF g) {p:Prt} (h:zsd g p) : ∃ e∈g.lex,∃ alt:Nat,alt<e.forms.length∧p=⟨e.id,alt,0⟩:=by
 obtain ⟨e,he,h1,h2,alt,h3,h4⟩:=h
 exact ⟨e,he,alt,h3,Prt.ext' h1 h4 h2⟩
theorem zvj {g:Lang} {w:List Int} : ∀ (f:Nat) (a b:List Prt),b∈furF g w f a→∃ t,b=a++t∧t≠[]∧t.length≤f∧(∀ p∈t,zsd g p)∧licB g w b=true
 | 0,a,b,h=>by simp [furF] at h
 | f+1,a,b,h=>by
  unfold furF at h;rw [List.mem_flatMap] at h;obtain ⟨e,he,h⟩:=h;split at h
  ·rw [List.mem_flatMap] at h
   obtain ⟨alt,ha,h⟩:=h;have ha:=List.mem_range.1 ha;have hp:zsd g ⟨e.id,(alt:Int),0⟩:=⟨e,he,rfl,rfl,alt,ha,rfl⟩
   split at h
   ·cases h
   ·rcases List.mem_append.1 h with h | h
    ·split at h
     ·rename_i hl
      rw [List.mem_singleton] at h;subst h;exact ⟨[⟨e.id,(alt:Int),0⟩],rfl,by simp,by simp,(by intro p hp';rw [List.mem_singleton] at hp';rw [hp'];exact hp),hl⟩
     ·cases h
    ·obtain ⟨t,rfl,h1,h2,h3,h4⟩:=zvj f _ b h
     exact ⟨⟨e.id,(alt:Int),0⟩::t,by simp,by simp,by simp;omega,(fun p hm=>(List.mem_cons.1 hm).elim (fun e=>e▸hp) (h3 p)),h4⟩
  ·cases h
theorem yat {g:Lang} (hg:LightF g):g.lex.Pairwise fun e e'=>e.id<e'.id:=by
 rw [List.pairwise_iff_getElem]
 intro i j hi hj hij
 have:=lex_lt hg.lex.up (j-i-1) i (by omega)
 simpa [show i+(j-i-1)+1=j by omega] using this
theorem zjw {g:Lang} {w:List Int} {f:Nat} {a x:List Prt} {p:Prt} (h:x∈(if zo3 g w<(zbt g.lex (a++[p])).length then [] else (if licB g w (a++[p])=true then [a++[p]] else [])++furF g w f (a++[p]))) : ∃ t,x=a++p::t:=by
 split at h
 ·cases h
 ·rcases List.mem_append.1 h with h | h
  ·split at h
   ·rw [List.mem_singleton] at h;exact ⟨[],h⟩
   ·cases h
  ·obtain ⟨t,e,_⟩:=zvj f _ x h
   exact ⟨t,by rw [e];simp⟩
theorem zx1 {g:Lang} (hg:LightF g) (w:List Int) : ∀ (f:Nat) (a:List Prt),(furF g w f a).Nodup
 | 0,_=>by simp [furF]
 | f+1,a=>by
  unfold furF List.Nodup;rw [List.pairwise_flatMap];refine ⟨fun e he=>?_,?_⟩
  ·split
   ·rw [List.pairwise_flatMap]
    refine ⟨fun alt ha=>?_,?_⟩
    ·split
     ·exact List.Pairwise.nil
     ·rw [List.pairwise_append]
      refine ⟨by split <;> simp,zx1 hg w f _,fun x hx y hy e=>?_⟩
      subst e;obtain ⟨t,e,h1,_⟩:=zvj f _ x hy;split at hx
      ·rw [List.mem_singleton] at hx
       rw [hx] at e;have:=congrArg List.length e
       simp only [List.length_append,List.length_cons,List.length_nil] at this;exact h1 (List.length_eq_zero_iff.1 (by omega))
      ·cases hx
    ·refine List.Pairwise.imp ?_ List.pairwise_lt_range
     intro i j hij x hx y hy e;obtain ⟨t,rfl⟩:=zjw hx;obtain ⟨u,rfl⟩:=zjw hy;have:=(List.cons.inj (List.append_cancel_left e)).1
     have:=congrArg Prt.alt this
     simp only at this
     omega
   ·exact List.Pairwise.nil
  ·refine List.Pairwise.imp ?_ (yat hg)
   intro e e' hlt x hx y hy heq;split at hx
   ·split at hy
    ·rw [List.mem_flatMap] at hx hy
     obtain ⟨_,_,hx⟩:=hx;obtain ⟨_,_,hy⟩:=hy;obtain ⟨t,rfl⟩:=zjw hx;obtain ⟨u,rfl⟩:=zjw hy;have:=(List.cons.inj (List.append_cancel_left heq)).1
     have:=congrArg Prt.entry this
     simp only at this
     omega
    ·cases hy
   ·cases hx
structure PlainF (g:Lang) (w:List Int) (b:List Prt):Prop where
 pos:b≠[]
 len:b.length≤4
 parts : ∀ p∈b,zsd g p
 lic:licE g w b=true
theorem zg2 {g:Lang} {w:List Int} {b:List Prt} (h:b∈zdv g w):PlainF g w b:=by
 unfold zdv at h
 split at h
 ·cases h
 ·obtain ⟨t,rfl,h1,h2,h3,h4⟩:=zvj 4 [] b h
  unfold licB at h4;rw [Bool.and_eq_true] at h4;exact ⟨h1,h2,h3,h4.2⟩
theorem z09 {g:Lang} (hg:LightF g) (w:List Int):(zdv g w).Nodup:=by
 unfold zdv
 split
 ·simp
 ·exact zx1 hg w 4 []
theorem PlainF.bare {g:Lang} {w:List Int} {b:List Prt} (h:PlainF g w b):bare b=b:=yhb fun p hp=>by obtain ⟨_,_,_,h2,_⟩:=h.parts p hp;exact h2
theorem yau (g:Lang) (w:List Int):allT g w=(zdv g w).flatMap (sprL g):=by
 unfold allT
 refine ze1 fun a _=>?_
 rw [ye0]
theorem zvk {g:Lang} {w:List Int} {q:List Prt}:q∈allT g w↔∃ a∈zdv g w,Choice g a q:=by
 rw [yau,List.mem_flatMap]
 constructor
 ·rintro ⟨a,h1,h2⟩;exact ⟨a,h1,(zjv g).1 h2⟩
 ·rintro ⟨a,h1,h2⟩;exact ⟨a,h1,(zjv g).2 h2⟩
theorem z7b {g:Lang} (hg:LightF g) (w:List Int):(allT g w).Nodup:=by
 rw [yau]
 unfold List.Nodup
 rw [List.pairwise_flatMap]
 refine ⟨fun a _=>ztt g a,List.Pairwise.imp_of_mem ?_ (z09 hg w)⟩
 intro a b ha hb hne x hx y hy e
 subst e
 have h1:=zfs ((zjv g).1 hx)
 have h2:=zfs ((zjv g).1 hy)
 rw [(zg2 ha).bare] at h1
 rw [(zg2 hb).bare] at h2
 exact hne (h1.symm.trans h2)
theorem znc {g:Lang} : ∀ {a q:List Prt},Choice g a q→q.length=a.length
 | [],[],_=>rfl
 | [],_::_,h=>h.elim
 | _::_,[],h=>h.elim
 | p::ps,q::qs,h=>by rw [List.length_cons,List.length_cons,znc h.2]
theorem zod (l:List Ent) (a:List Prt):za5 l (bare a)=za5 l a:=by
 unfold za5 bare
 rw [List.flatMap_map]
 rfl
theorem zx2 (l:List Ent) (a:List Prt):zbt l (bare a)=zbt l a:=by
 unfold zbt bare
 rw [List.flatMap_map]
 rfl
theorem zqh {g:Lang} {a q:List Prt} (h:Choice g a q):zbt g.lex q=zbt g.lex a:=by rw [← zx2,zfs h,zx2]
theorem zse {g:Lang} {a q:List Prt} (h:Choice g a q):za5 g.lex q=za5 g.lex a:=by rw [← zod,zfs h,zod]
theorem zoe {g:Lang} (hg:LightF g) : ∀ {a q:List Prt},Choice g a q→(∀ p∈a,zsd g p)→∀ p∈q,zlu g.lex p=0
 | [],[],_,_,p,hp=>by cases hp
 | [],_::_,h,_,_,_=>h.elim
 | _::_,[],h,_,_,_=>h.elim
 | p::ps,q::qs,h,hv,x,hx=>by
  rcases List.mem_cons.1 hx with e | hx
  ·subst e
   obtain ⟨⟨h1,h2,h3,h4⟩,_⟩:=h;obtain ⟨e,he,alt,ha,rfl⟩:=(hv p (List.mem_cons_self ..)).ok hg;simp only at h1 h2 h4
   have hf:=ziu hg he ha;have hf':zhn g.lex x=(e,e.forms[alt]?.getD [],true):=by
    obtain ⟨x1,x2,x3⟩:=x;simp only at h1 h2
    subst h1;subst h2;exact hf
   unfold zlu;rw [hf',h1,zu7 hg.lex.up he];simp only [Bool.true_eq_false,if_false];rw [if_neg (by omega)]
  ·exact zoe hg h.2 (fun y hy=>hv y (List.mem_cons_of_mem _ hy)) x hx
theorem z1a {g:Lang} (hg:LightF g) {a:List Prt} (h : ∀ p∈a,zsd g p) : ∀ p∈a,zlu g.lex p=0:=by
 intro p hp
 obtain ⟨e,he,alt,ha,rfl⟩:=(h p hp).ok hg
 exact zxj hg he ha
theorem z1b {g:Lang} (hg:LightF g) {a q:List Prt} (h:Choice g a q) (hv : ∀ p∈a,zsd g p):zgj g q=zgj g a:=by
 have h1:=zhq (zoe hg h hv)
 have h2:=zhq (z1a hg hv)
 unfold zgj zgv
 rw [znc h,zqh h,zse h,h1,h2]
theorem yav {g:Lang} (hg:LightF g) {w:List Int} {q:List Prt} (h:q∈allT g w):(zgj g q).2=0∧(zgj g q).1=w∧q.length≤4:=by
 obtain ⟨a,ha,hc⟩:=zvk.1 h
 have hp:=zg2 ha
 rw [z1b hg hc hp.parts,znc hc]
 have:=hp.lic
 unfold licE at this
 rw [decide_eq_true_eq] at this
 exact ⟨this.1,this.2,hp.len⟩
theorem zqi {g:Lang} (hg:LightF g) : ∀ {a:List Prt},(∀ p∈a,zsd g p)→Choice g a a
 | [],_=>trivial
 | p::ps,h=>by
  refine ⟨?_,zqi hg fun x hx=>h x (List.mem_cons_of_mem _ hx)⟩
  obtain ⟨e,he,alt,ha,rfl⟩:=(h p (List.mem_cons_self ..)).ok hg;have hs:0<(zde g.lex e.id).length:=List.length_pos_iff.2 (hg.senses he)
  exact ⟨rfl,rfl,Int.le_refl _,by show (0:Int)<((zde g.lex e.id).length:Int);omega⟩
theorem zvl {g:Lang} (hg:LightF g) : ∀ {a:List Prt},(∀ p∈a,zsd g p)→zb5 (zbt g.lex a)
 | [],_=>fun x hx=>by cases hx
 | p::ps,h=>by
  have ih:=zvl hg fun x hx=>h x (List.mem_cons_of_mem _ hx)
  obtain ⟨e,he,alt,ha,rfl⟩:=(h p (List.mem_cons_self ..)).ok hg;have:zbt g.lex (⟨e.id,(alt:Int),0⟩::ps)=e.forms[alt]?.getD []++zbt g.lex ps:=by
   unfold zbt;rw [List.flatMap_cons,ziu hg he ha];rfl
  rw [this];refine zb5.app ?_ ih
  rw [List.getElem?_eq_getElem ha];exact z3y hg he (List.getElem_mem ha)
structure BasJ (x:BasS):Prop where
 seen : ∀ k∈x.1,∃ b∈x.2,keyS b=k
theorem zvm (f:List Prt→List Int) : ∀ (l:List (List Prt)) (x:BasS),BasJ x→BasJ (sF basF (x,true) (l.map fun b=>(b,f b))).1 ∧
  (∀ b∈(sF basF (x,true) (l.map fun b=>(b,f b))).1.2,b∈x.2∨∃ a∈l,f a=b)∧(∀ b∈x.2,b∈(sF basF (x,true) (l.map fun b=>(b,f b))).1.2) ∧
  ∀ a∈l,∃ b∈(sF basF (x,true) (l.map fun b=>(b,f b))).1.2,keyS b=keyS (f a)
 | [],x,h=>⟨h,fun b hb=>.inl hb,fun b hb=>hb,fun a ha=>by cases ha⟩
 | a::l,x,h=>by
  rw [List.map_cons,zve,if_neg (by simp)]
  have hF:basF x a (f a)=((basF x a (f a)).1,true):=rfl
  rw [hF];by_cases hm:keyS (f a)∈x.1
  ·have e:(basF x a (f a)).1=x:=by unfold basF;rw [if_pos hm]
   rw [e];obtain ⟨i1,i2,i3,i4⟩:=zvm f l x h;refine ⟨i1,fun b hb=>(i2 b hb).imp id fun ⟨c,hc,e⟩=>⟨c,List.mem_cons_of_mem _ hc,e⟩,i3,fun c hc=>?_⟩
   rcases List.mem_cons.1 hc with e2 | hc
   ·subst e2
    obtain ⟨b,hb,e3⟩:=h.seen _ hm;exact ⟨b,i3 b hb,e3⟩
   ·exact i4 c hc
  ·have e:(basF x a (f a)).1=(x.1++[keyS (f a)],insL (fun o=>ydj (f a) o) (f a) x.2):=by unfold basF;rw [if_neg hm]
   rw [e];obtain ⟨i1,i2,i3,i4⟩:=zvm f l (x.1++[keyS (f a)],insL (fun o=>ydj (f a) o) (f a) x.2) ⟨fun k hk=>by
    rcases List.mem_append.1 hk with hk | hk
    ·obtain ⟨b,hb,e⟩:=h.seen k hk
     exact ⟨b,zf5.2 (.inr hb),e⟩
    ·rw [List.mem_singleton] at hk
     exact ⟨f a,zf5.2 (.inl rfl),hk.symm⟩⟩
   refine ⟨i1,fun b hb=>?_,fun b hb=>i3 b (zf5.2 (.inr hb)),fun c hc=>?_⟩
   ·rcases i2 b hb with hb | ⟨c,hc,e⟩
    ·rcases zf5.1 hb with e | hb
     ·exact .inr ⟨a,List.mem_cons_self ..,e.symm⟩
     ·exact .inl hb
    ·exact .inr ⟨c,List.mem_cons_of_mem _ hc,e⟩
   ·rcases List.mem_cons.1 hc with e2 | hc
    ·subst e2
     exact ⟨f c,i3 _ (zf5.2 (.inl rfl)),rfl⟩
    ·exact i4 c hc
theorem ztu {g:Lang} (hg:LightF g) {w:List Int} {b:List Int}:b∈z4c g w↔∃ a∈zdv g w,zbt g.lex a=b:=by
 obtain ⟨_,i2,_,i4⟩:=zvm (zbt g.lex) (zdv g w) ([],[]) ⟨fun k hk=>by cases hk⟩
 unfold z4c
 constructor
 ·intro h
  rcases i2 b h with h | h
  ·cases h
  ·exact h
 ·rintro ⟨a,ha,rfl⟩
  obtain ⟨c,hc,e⟩:=i4 a ha;rcases i2 c hc with h | ⟨a2,ha2,e2⟩
  ·cases h
  ·have:=key_inj (by rw [← e2];exact zvl hg (zg2 ha2).parts) (zvl hg (zg2 ha).parts) e
   rw [← this];exact hc
end Go.V
namespace Go.V
open Go Go.Proofs
def z1c (n:Int):Prop:=(Lit.int .i64 n).wf=true
theorem z1c.I64 {n:Int} (h:z1c n):I64 n:=by
 have:=bounds_i64 h
 unfold Go.V.I64;omega
def Prt.ok (p:Prt):Prop:=z1c p.entry∧z1c p.alt∧z1c p.sense
abbrev yit:List Sh:=[.int .i64,.int .i64,.int .i64]
def ygd (l:List Prt):Prop:=l.length≤maxLen∧∀ x∈l,x.ok
theorem zx3 {d:D} (h:FitD d (.sl yit)) : ∃ l,d=zab l∧ygd l:=by
 obtain ⟨xs,rfl,h1,h2⟩:=FitD.zpm (row:=Prt.row) (good:=Prt.ok) (fun r hr=>by
  obtain ⟨_,_,rfl,g1,r1⟩:=hr.zai;obtain ⟨_,_,rfl,g2,r2⟩:=r1.zai;obtain ⟨_,_,rfl,g3,r3⟩:=r2.zai;obtain rfl:=r3.zb9;obtain ⟨a,rfl,wa⟩:=g1.zbl;obtain ⟨b,rfl,wb⟩:=g2.zbl;obtain ⟨c,rfl,wc⟩:=g3.zbl;exact ⟨⟨a,b,c⟩,rfl,wa,wb,wc⟩) h
 exact ⟨xs,rfl,h1,h2⟩
end Go.V
namespace Go.V
open Go Go.Proofs
theorem zfb {α:Type} {M:Nat} {row:α→List D} : ∀ {l:List α},CapR M (l.map row)→∀ x∈l,Caps M (row x)
 | [],_,x,hx=>by cases hx
 | a::l,h,x,hx=>by
  simp only [List.map_cons,CapR] at h;rcases List.mem_cons.1 hx with e | e
  ·rw [e];exact h.1
  ·exact zfb h.2 x e
theorem zbw {α:Type} {row:α→List D} {shs:List Sh} {d:D} (h : ∀ r,zbk r shs→∃ x,r=row x) (hf:FitD d (.sl shs)) : ∃ xs:List α,d = .sl (xs.map row):=by
 obtain ⟨xs,e,_,_⟩:=FitD.zpm (row:=row) (good:=fun _=>True) (fun r hr=>by obtain ⟨x,e⟩:=h r hr;exact ⟨x,e,trivial⟩) hf
 exact ⟨xs,e⟩
theorem yhc {r:List D} (h:zbk r [.int .i64]) : ∃ n:Int,r=[int n]:=by
 obtain ⟨_,_,rfl,g1,r1⟩:=h.zai
 obtain rfl:=r1.zb9
 obtain ⟨a,rfl,_⟩:=g1.zbl
 exact ⟨a,rfl⟩
theorem zjx {d:D} (h:FitD d (.sl [.int .i64])) : ∃ l,d=ints l:=zbw (row:=fun n:Int=>[int n]) (fun r hr=>yhc hr) h
theorem ye1 {r:List D} (h:zbk r [.str,.int .i64]) : ∃ p:Phon,r=p.row:=by
 obtain ⟨_,_,rfl,g1,r1⟩:=h.zai
 obtain ⟨_,_,rfl,g2,r2⟩:=r1.zai
 obtain rfl:=r2.zb9
 obtain ⟨a,rfl,_⟩:=g1.zfg
 obtain ⟨b,rfl,_⟩:=g2.zbl
 exact ⟨⟨a,b⟩,rfl⟩
theorem ye2 {r:List D} (h:zbk r [.str,.sl [.int .i64]]) : ∃ p:Grap,r=p.row:=by
 obtain ⟨_,_,rfl,g1,r1⟩:=h.zai
 obtain ⟨_,_,rfl,g2,r2⟩:=r1.zai
 obtain rfl:=r2.zb9
 obtain ⟨a,rfl,_⟩:=g1.zfg
 obtain ⟨b,rfl⟩:=zjx g2
 exact ⟨⟨a,b⟩,rfl⟩
theorem yaw {r:List D} (h:zbk r [.str]) : ∃ s:ByteArray,r=[.str s]:=by
 obtain ⟨_,_,rfl,g1,r1⟩:=h.zai
 obtain rfl:=r1.zb9
 obtain ⟨a,rfl,_⟩:=g1.zfg
 exact ⟨a,rfl⟩
theorem ye3 {r:List D} (h:zbk r [.sl [.str]]) : ∃ l:List ByteArray,r=[.sl (l.map fun s=>[.str s])]:=by
 obtain ⟨_,_,rfl,g1,r1⟩:=h.zai
 obtain rfl:=r1.zb9
 obtain ⟨l,rfl⟩:=zbw (row:=fun s:ByteArray=>[D.str s]) (fun r hr=>yaw hr) g1
 exact ⟨l,rfl⟩
theorem zpd {r:List D} (h:zbk r [.int .i64,.int .i64]) : ∃ a b:Int,r=[int a,int b]:=by
 obtain ⟨_,_,rfl,g1,r1⟩:=h.zai
 obtain ⟨_,_,rfl,g2,r2⟩:=r1.zai
 obtain rfl:=r2.zb9
 obtain ⟨a,rfl,_⟩:=g1.zbl
 obtain ⟨b,rfl,_⟩:=g2.zbl
 exact ⟨a,b,rfl⟩
theorem yax {d:D} (h:FitD d (.sl [.int .i64,.int .i64])) : ∃ l,d=clsD l:=zbw (row:=Cls.row) (fun r hr=>by obtain ⟨a,b,rfl⟩:=zpd hr;exact ⟨⟨a,b⟩,rfl⟩) h
theorem ye4 {r:List D} (h:zbk r [.sl [.int .i64],.sl [.int .i64],.sl [.int .i64,.int .i64],.sl [.int .i64,.int .i64],.bool,.bool]) : ∃ x:Rule,r=x.row:=by
 obtain ⟨_,_,rfl,g1,r1⟩:=h.zai
 obtain ⟨_,_,rfl,g2,r2⟩:=r1.zai
 obtain ⟨_,_,rfl,g3,r3⟩:=r2.zai
 obtain ⟨_,_,rfl,g4,r4⟩:=r3.zai
 obtain ⟨_,_,rfl,g5,r5⟩:=r4.zai
 obtain ⟨_,_,rfl,g6,r6⟩:=r5.zai
 obtain rfl:=r6.zb9
 obtain ⟨a,rfl⟩:=zjx g1
 obtain ⟨b,rfl⟩:=zjx g2
 obtain ⟨c,rfl⟩:=yax g3
 obtain ⟨d,rfl⟩:=yax g4
 obtain ⟨e,rfl⟩:=g5.zkt
 obtain ⟨f,rfl⟩:=g6.zkt
 exact ⟨⟨a,b,c,d,e,f⟩,rfl⟩
theorem yhd {r:List D} (h:zbk r [.int .i64,.int .i64,.int .i64]) : ∃ x:Stp,r=x.row:=by
 obtain ⟨_,_,rfl,g1,r1⟩:=h.zai
 obtain ⟨a,b,rfl⟩:=zpd r1
 obtain ⟨c,rfl,_⟩:=g1.zbl
 exact ⟨⟨c,a,b⟩,rfl⟩
theorem ye5 {r:List D} (h:zbk r [.str,.str]) : ∃ x:Sens,r=x.row:=by
 obtain ⟨_,_,rfl,g1,r1⟩:=h.zai
 obtain ⟨b,rfl⟩:=yaw r1
 obtain ⟨a,rfl,_⟩:=g1.zfg
 exact ⟨⟨a,b⟩,rfl⟩
theorem yay {d:D} (h:FitD d (.sl [.sl [.int .i64]])) : ∃ l,d=zbh l:=zbw (row:=fun a:List Int=>[ints a]) (fun r hr=>by
 obtain ⟨_,_,rfl,g1,r1⟩:=hr.zai
 obtain rfl:=r1.zb9
 obtain ⟨a,rfl⟩:=zjx g1
 exact ⟨a,rfl⟩) h
abbrev yiu:List Sh:=[.int .i64,.sl [.int .i64],.int .i64,.sl [.sl [.int .i64]],.int .i64,.sl [.str,.str],.sl [.int .i64,.int .i64],.sl [.int .i64,.int .i64]]
theorem yhe {r:List D} (h:zbk r yiu) : ∃ x:Ent,r=x.row:=by
 obtain ⟨_,_,rfl,g1,r1⟩:=h.zai
 obtain ⟨_,_,rfl,g2,r2⟩:=r1.zai
 obtain ⟨_,_,rfl,g3,r3⟩:=r2.zai
 obtain ⟨_,_,rfl,g4,r4⟩:=r3.zai
 obtain ⟨_,_,rfl,g5,r5⟩:=r4.zai
 obtain ⟨_,_,rfl,g6,r6⟩:=r5.zai
 obtain ⟨_,_,rfl,g7,r7⟩:=r6.zai
 obtain ⟨_,_,rfl,g8,r8⟩:=r7.zai
 obtain rfl:=r8.zb9
 obtain ⟨a,rfl,_⟩:=g1.zbl
 obtain ⟨b,rfl⟩:=zjx g2
 obtain ⟨c,rfl,_⟩:=g3.zbl
 obtain ⟨d,rfl⟩:=yay g4
 obtain ⟨e,rfl,_⟩:=g5.zbl
 obtain ⟨f,rfl⟩:=zbw (row:=Sens.row) (fun r hr=>ye5 hr) g6
 obtain ⟨k,rfl⟩:=zbw (row:=Lnk.row) (fun r hr=>by obtain ⟨a,b,rfl⟩:=zpd hr;exact ⟨⟨a,b⟩,rfl⟩) g7
 obtain ⟨m,rfl⟩:=zbw (row:=Rf.row) (fun r hr=>by obtain ⟨a,b,rfl⟩:=zpd hr;exact ⟨⟨a,b⟩,rfl⟩) g8
 exact ⟨⟨a,b,c,d,e,f,k,m⟩,rfl⟩
abbrev yge:List Sh:=[.sl [.str,.int .i64],.str,.sl [.str,.sl [.int .i64]],.sl [.sl [.str]],.sl [.sl [.int .i64],.sl [.int .i64],.sl [.int .i64,.int .i64],.sl [.int .i64,.int .i64],.bool,.bool],.int .i64,.sl [.int .i64,.int .i64,.int .i64],.sl [.int .i64],.sl yiu]
theorem z1d {l:List D} (h:zbk l yge) : ∃ g:Lang,D.agg l=g.d:=by
 obtain ⟨_,_,rfl,g1,r1⟩:=h.zai
 obtain ⟨_,_,rfl,g2,r2⟩:=r1.zai
 obtain ⟨_,_,rfl,g3,r3⟩:=r2.zai
 obtain ⟨_,_,rfl,g4,r4⟩:=r3.zai
 obtain ⟨_,_,rfl,g5,r5⟩:=r4.zai
 obtain ⟨_,_,rfl,g6,r6⟩:=r5.zai
 obtain ⟨_,_,rfl,g7,r7⟩:=r6.zai
 obtain ⟨_,_,rfl,g8,r8⟩:=r7.zai
 obtain ⟨_,_,rfl,g9,r9⟩:=r8.zai
 obtain rfl:=r9.zb9
 obtain ⟨a,rfl⟩:=zbw (row:=Phon.row) (fun r hr=>ye1 hr) g1
 obtain ⟨b,rfl,_⟩:=g2.zfg
 obtain ⟨c,rfl⟩:=zbw (row:=Grap.row) (fun r hr=>ye2 hr) g3
 obtain ⟨d,rfl⟩:=zbw (row:=fun r:List ByteArray=>[D.sl (r.map fun s=>[.str s])]) (fun r hr=>ye3 hr) g4
 obtain ⟨e,rfl⟩:=zbw (row:=Rule.row) (fun r hr=>ye4 hr) g5
 obtain ⟨f,rfl,_⟩:=g6.zbl
 obtain ⟨k,rfl⟩:=zbw (row:=Stp.row) (fun r hr=>yhd hr) g7
 obtain ⟨m,rfl⟩:=zjx g8
 obtain ⟨n,rfl⟩:=zbw (row:=Ent.row) (fun r hr=>yhe hr) g9
 exact ⟨⟨a,⟨b,c,d⟩,e,⟨f,k,m⟩,n⟩,rfl⟩
theorem yaz {g:Lang} (h:CapT 1048576 g.d):LangC g:=by
 simp only [Lang.d,CapT,Caps,Cap,invD,zbd,zdy,zcb,stepsD,ints,lexD,int,List.length_map,and_true] at h
 obtain ⟨⟨a1,a2⟩,b1,⟨c1,c2⟩,⟨d1,d2⟩,⟨e1,e2⟩,_,⟨k1,_⟩,⟨m1,_⟩,n1,n2⟩:=h
 refine {inv:=⟨a1,fun p hp=>?_⟩,orth:=⟨b1,fun u hu=>?_,fun L hL=>?_,c1,d1⟩,rules:=⟨e1,fun r hr=>?_⟩,steps:=k1,final:=m1,lex:=⟨n1,fun e he=>?_⟩}
 ·have:=zfb a2 p hp
  simp only [Phon.row,Caps,Cap,int] at this;exact this.1
 ·have:=zfb c2 u hu
  simp only [Grap.row,Caps,Cap,int,ints,List.length_map] at this;exact ⟨this.1,this.2.1.1⟩
 ·have:=zfb d2 L hL
  simp only [Caps,Cap,List.length_map] at this;refine ⟨this.1.1,fun s hs=>?_⟩
  have:=zfb this.1.2 s hs
  simp only [Caps,Cap] at this;exact this.1
 ·have:=zfb e2 r hr
  simp only [Rule.row,Caps,Cap,int,ints,List.length_map] at this;exact ⟨this.1.1,this.2.1.1⟩
 ·have:=zfb n2 e he
  simp only [Ent.row,Caps,Cap,int,ints,zbh,zbu,lnkD,rfD,List.length_map] at this;obtain ⟨_,⟨f1,_⟩,_,⟨g1,g2⟩,_,⟨s1,s2⟩,⟨l1,_⟩,⟨r1,_⟩,_⟩:=this;refine ⟨f1,⟨g1,fun w hw=>?_⟩,⟨s1,fun s hs=>?_⟩,l1,r1⟩
  ·have:=zfb g2 w hw
   simp only [Caps,Cap,List.length_map] at this;exact this.1.1
  ·have:=zfb s2 s hs
   simp only [Sens.row,Caps,Cap] at this;exact ⟨this.1,this.2.1⟩
end Go.V
namespace Go.V
open Go Go.Proofs
theorem z7c {g:Lang} {q:List Prt} (h:(zgj g q).2=0):zgv g q=0:=by
 unfold zgj at h
 split at h
 ·rename_i h1;exact absurd h h1
 ·rename_i h1;exact Classical.byContradiction h1
structure AllOk (g:Lang) (w:List Int) (L:List (List Prt)):Prop where
 few:L.length≤200
 form : ∀ q∈L,(zgj g q).2=0∧(zgj g q).1=w∧q.length≤4
 up:L.Pairwise fun a b=>zbc a b=true
 base : ∀ q∈L,zbt g.lex q∈z4c g w
 all : ∀ b∈z4c g w,∃ q∈L,zbt g.lex q=b
theorem z1e {g:Lang} (hg:LightF g) (w:List Int):((allE g w).2≠0→(allE g w).1=[])∧((allE g w).2=0→AllOk g w (allE g w).1):=by
 rw [yha]
 by_cases h0:zij g.inv w≠0
 ·rw [if_pos h0]
  exact ⟨fun _=>rfl,fun h=>absurd h h0⟩
 rw [if_neg h0]
 by_cases h:200<(allT g w).length
 ·rw [if_pos h]
  exact ⟨fun _=>rfl,fun h=>by cases h⟩
 rw [if_neg h]
 refine ⟨fun h=>absurd rfl h,fun _=>⟨?_,fun q hq=>yav hg (zvi.1 hq),z08 (z7b hg w),fun q hq=>?_,fun b hb=>?_⟩⟩
 ·show (insT (allT g w)).length≤200
  rw [yez];omega
 ·obtain ⟨a,ha,hc⟩:=zvk.1 (zvi.1 hq)
  rw [zqh hc];exact (ztu hg).2 ⟨a,ha,rfl⟩
 ·obtain ⟨a,ha,rfl⟩:=(ztu hg).1 hb
  exact ⟨a,zvi.2 (zvk.2 ⟨a,ha,zqi hg (zg2 ha).parts⟩),rfl⟩
end Go.V
namespace Go.V
open Go Go.Proofs
structure FormF (g:Lang) (w:List Int) (a:List Prt):Prop where
 word:zij g.inv w=0
 plain:bare a∈zdv g w
 choice:Choice g (bare a) a
end Go.V

/- Contracts and plain laws of this seat: part MA. It needs no conditions. -/
import Derived.Test.YtgglheknmlfghaaGreatM9
set_option linter.unusedVariables false
set_option linter.unusedSimpArgs false
set_option linter.unusedSectionVars false
set_option maxRecDepth 100000
namespace Go.V
open Go Go.Proofs
def St.unmv (st:St):St:={st with moved:=st.moved.filter (fun i=>decide (i<st.base))}
theorem Mods.unmv {X:Nat→Prop} {w0:Base} {st:St} {β:Nat→Value} {a:Act} {w:World} (hm:Mods X w0 st β a w):Mods X w0 st.unmv β a w:=
 {hm with still:=⟨hm.still.1,fun id hid hk=>hm.still.2 id hid (fun hmem=>hk (List.mem_filter.2 ⟨hmem,decide_eq_true hid⟩))⟩}
def unmR (Q:St→Prop):St→Prop:=fun st=>Q st.unmv
theorem zex {P:Program} (hmix:P.follows .mixedOrders=true) {f:Nat} {fn:Func} {c:Code} (hf:P.funcs[f]?=some fn) (hb:fn.body=some c) (hcall:callable P f=true)
  {args:List Sym} {own:List (Nat×Obj')} {n:Nat} {s:Sym} {nx:Nat} {own':List (Nat×Obj')} {mv:List Nat} (hl:Sym.los n args)
  (h:ev P c (zw6 (unmR (resC P fn.results.toList n s nx own' mv))) (initC fn.ntmps args own n)):zcb P f args own n s nx own' mv:=by
 refine ⟨hcall,fun X w0 β w vs hβ hm hs=>?_⟩
 refine calls_of_wp hf hb ?_
 refine wp_mono (zaq hmix h X w0 _ _ w (hm.initC hs hl)) ?_
 rintro e a' w' ⟨de,st',β',he,hq,hm'⟩
 cases e <;> cases de <;> simp only [exM] at he
 ·obtain ⟨v,h1,h2,h3,h4⟩:=zjn hm'.unmv hq
  exact ⟨hm'.defers,v,h1,β',v,rfl,h2,h3,h4⟩
 ·exact hq.elim
 ·obtain ⟨v,h1,h2,h3,h4⟩:=zjn hm'.unmv hq
  exact ⟨hm'.defers,v,h1,β',v,rfl,h2,h3,h4⟩
abbrev AllS:=List (List Prt)×Bool
def addF (x:AllS) (a:List Prt):AllS×Bool:=if x.1.length=200 then ((x.1,true),false) else ((insL (fun o=>zdk a o) a x.1,x.2),true)
def spO (x:AllS):List (Nat×Obj'):=[(0,.box 47 [.ar 2]),(1,.box 4 [.d (.bool x.2)]),(2,.arr 39 1 (x.1.map fun a=>[zad a]))]
set_option maxHeartbeats 16000000 in
theorem yd0 (x:AllS) (hx:x.1.length≤200) (hxb : ∀ b∈x.1,b.length<2^40) (a:List Prt) (ha:a.length<2^40) :
  zcb Tryz.prog 49 [.d (anaD a),.bp 0 0,.bp 1 0] (spO x) 3 (.d (.bool (addF x a).2)) 3 (spO (addF x a).1) [2]:=by
 obtain ⟨out,full⟩:=x
 simp only at hx hxb
 refine zex mixed Tryz.func49 rfl call_49 (by simp [Sym.los,Sym.lo]) ?_
 unfold addF
 by_cases h200:out.length=200
 ·have h200':(out.length:Int)=200:=by omega
  simp +decide [Tryz.f49,spO,int,anaD,zad,h200,h200',unmR,St.unmv];done
 have h200':¬(out.length:Int)=200:=by omega
 simp +decide [Tryz.f49,spO,int,anaD,zad,h200,h200',unmR,St.unmv]
 refine zbc mixed (fun k:Nat=>{n:=40,next:=4,slots:=[(1,.bp 0 0),(2,.bp 1 0),(3,.bp 3 0),(5,.d (int k))],own:=(3,.box 39 [.d (zad a)])::spO (out,full),base:=3})
  (fun k=>k≤out.length∧posL (fun o=>zdk a o) out k=posL (fun o=>zdk a o) out out.length) (fun k=>k) out.length ⟨Nat.le_refl _,rfl⟩ ?_ ?_
 ·simp +decide [spO,int,anaD,zad]
 intro k ⟨hk,hpos⟩
 by_cases hk0:0<k
 case neg=>
  have hz:posL (fun o=>zdk a o) out out.length=k:=by
   rw [← hpos];have:k=0:=by omega
   subst this;rfl
  have hk0':¬(0:Int)<k:=by omega
  refine zaq mixed ?_
  simp +decide [spO,int,anaD,zad,I64,hk0,hk0'];unfold insL;rw [hz];clear hpos;generalize k=p at *;refine ⟨by omega,by unfold maxLen;omega,?_⟩
  refine z9s mixed 7 (by rfl) (by rfl) (by rfl) (by rfl) (by simp) ?_
  have hn1:¬(p:Int)=(out.length:Int)+1:=by omega
  by_cases hke:p=out.length
  ·subst hke
   simp +decide [int,zad,u32,I64,unmR,St.unmv,hn1];exact ⟨⟨by omega,by omega⟩,by omega,by omega,by omega⟩
  ·have hp1:p<out.length:=by omega
   have hke':¬(p:Int)=(out.length:Int):=by omega
   have hA:p+(out.length+1-p)=out.length+1:=by omega
   obtain ⟨a1,a2,a3⟩:=zv0 (R:=out.map (fun a=>[zad a])) (by intro r hr;obtain ⟨y,_,rfl⟩:=List.mem_map.1 hr;rfl) (nr:=[.sl []]) rfl (zad a) (p:=p) (L:=out.length) (by simp) hp1
   unfold shM at a2 a3;simp only [zad] at a1 a2 a3;simp +decide [int,zad,u32,I64,unmR,St.unmv,hn1,hke',hA];refine ⟨⟨by omega,by omega⟩,⟨by omega,hk⟩,by omega,a1,by omega,by omega,by omega,a2,a3⟩
 obtain ⟨j,rfl⟩ : ∃ j,k=j+1:=⟨k-1,by omega⟩
 have hlt:j<out.length:=by omega
 have hlt':(j:Int)<out.length:=by omega
 obtain ⟨o,eo⟩ : ∃ o,out[j]=o:=⟨_,rfl⟩
 have e1:out[j]?=some o:=by rw [List.getElem?_eq_getElem hlt,eo]
 have hB:=ybg a o (by omega) (by have:=hxb out[j] (List.getElem_mem hlt);rw [eo] at this;omega)
 rw [posL,e1] at hpos
 simp only at hpos
 refine zaq mixed ?_
 simp +decide [spO,int,anaD,zad,I64,hlt,hlt',eo,e1]
 refine ⟨by omega,?_⟩
 refine zah (by rfl) (by rfl) hB (by simp [D.scalar]) ?_
 cases hl:zdk a o with
 | true=>
  rw [if_pos hl] at hpos;simp +decide [spO,int,anaD,zad,I64,hl];exact ⟨by omega,j,⟨by omega,hpos⟩,by omega,rfl⟩
 | false=>
  rw [if_neg (by rw [hl];decide)] at hpos
  simp +decide [spO,int,anaD,zad,I64,hl];unfold insL;rw [← hpos];rw [show (j:Int)+1=((j+1:Nat):Int) from by omega]
  clear hpos e1 eo hlt hlt' hk0;generalize j+1=p at *;refine ⟨by omega,by unfold maxLen;omega,?_⟩
  refine z9s mixed 7 (by rfl) (by rfl) (by rfl) (by rfl) (by simp) ?_
  have hn1:¬(p:Int)=(out.length:Int)+1:=by omega
  by_cases hke:p=out.length
  ·subst hke
   simp +decide [int,zad,u32,I64,unmR,St.unmv,hn1];exact ⟨⟨by omega,by omega⟩,by omega,by omega,by omega⟩
  ·have hp1:p<out.length:=by omega
   have hke':¬(p:Int)=(out.length:Int):=by omega
   have hA:p+(out.length+1-p)=out.length+1:=by omega
   obtain ⟨a1,a2,a3⟩:=zv0 (R:=out.map (fun a=>[zad a])) (by intro r hr;obtain ⟨y,_,rfl⟩:=List.mem_map.1 hr;rfl) (nr:=[.sl []]) rfl (zad a) (p:=p) (L:=out.length) (by simp) hp1
   unfold shM at a2 a3;simp only [zad] at a1 a2 a3;simp +decide [int,zad,u32,I64,unmR,St.unmv,hn1,hke',hA];refine ⟨⟨by omega,by omega⟩,⟨by omega,hk⟩,by omega,a1,by omega,by omega,by omega,a2,a3⟩
end Go.V
namespace Go.V
open Go Go.Proofs
section
variable {σ α:Type}
def zdv (G:σ→α→σ×Bool):σ×Bool→List α→σ×Bool
 | z,[]=>z
 | z,a::r=>if z.2=false then z else zdv G (G z.1 a) r
theorem ze8 (G:σ→α→σ×Bool) (z:σ×Bool) (a:α) (r:List α):zdv G z (a::r)=if z.2=false then z else zdv G (G z.1 a) r:=rfl
theorem zgo {G:σ→α→σ×Bool} {z:σ×Bool} (h:z.2=false) : ∀ l,zdv G z l=z
 | []=>rfl
 | a::r=>by rw [ze8,if_pos h]
theorem zfv {G:σ→α→σ×Bool} : ∀ (z:σ×Bool) (l r:List α),zdv G z (l++r)=zdv G (zdv G z l) r
 | z,[],r=>rfl
 | z,a::l,r=>by
  rw [List.cons_append,ze8,ze8];by_cases h:z.2=false
  ·rw [if_pos h,if_pos h]
   exact (zgo h r).symm
  ·rw [if_neg h,if_neg h]
   exact zfv _ l r
end
def sprT (g:Lang):Nat→List Prt→Nat→List (List Prt)
 | 0,p,_=>[p]
 | f+1,p,i=>(List.range (zcp g.lex (p.getD i ⟨0,0,0⟩).entry).length).flatMap fun (k:Nat)=>sprT g f (p.set i ⟨(p.getD i ⟨0,0,0⟩).entry,(p.getD i ⟨0,0,0⟩).alt,k⟩) (i+1)
def allI (x:AllS):Prop:=x.1.length≤200∧∀ b∈x.1,b.length≤4
theorem ybj {x:AllS} (h:allI x) {a:List Prt} (ha:a.length≤4):allI (addF x a).1:=by
 unfold addF
 split
 ·exact h
 ·rename_i hl
  refine ⟨by simp only [zlb];have:=h.1;omega,fun b hb=>?_⟩
  rcases zfu.1 hb with e | e
  ·rw [e];exact ha
  ·exact h.2 b e
theorem zpb : ∀ (l:List (List Prt)) (z:AllS×Bool),allI z.1→(∀ a∈l,a.length≤4)→allI (zdv addF z l).1
 | [],z,h,_=>h
 | a::l,z,h,hl=>by
  rw [ze8];split
  ·exact h
  ·exact zpb l _ (ybj h (hl a (List.mem_cons_self ..))) fun b hb=>hl b (List.mem_cons_of_mem _ hb)
theorem ztx (g:Lang) : ∀ (f:Nat) (p:List Prt) (i:Nat),∀ q∈sprT g f p i,q.length=p.length
 | 0,p,i,q,h=>by rw [sprT,List.mem_singleton] at h;rw [h]
 | f+1,p,i,q,h=>by
  rw [sprT,List.mem_flatMap] at h;obtain ⟨k,_,h⟩:=h;rw [ztx g f _ _ q h,List.length_set]
def sprK (g:Lang) (f:Nat) (p:List Prt) (i k:Nat):List (List Prt):=(List.range k).flatMap fun (k:Nat)=>sprT g f (p.set i ⟨(p.getD i ⟨0,0,0⟩).entry,(p.getD i ⟨0,0,0⟩).alt,k⟩) (i+1)
theorem zv1 (g:Lang) (f:Nat) (p:List Prt) (i k:Nat):sprK g f p i (k+1)=sprK g f p i k++sprT g f (p.set i ⟨(p.getD i ⟨0,0,0⟩).entry,(p.getD i ⟨0,0,0⟩).alt,k⟩) (i+1):=by
 unfold sprK;rw [List.range_succ,List.flatMap_append,List.flatMap_singleton]
theorem zv2 (g:Lang) (f:Nat) (p:List Prt) (i:Nat) (z:AllS×Bool) (k:Nat) (h:(zdv addF z (sprK g f p i k)).2=false) : ∀ d,zdv addF z (sprK g f p i (k+d))=zdv addF z (sprK g f p i k)
 | 0=>rfl
 | d+1=>by
  rw [← Nat.add_assoc,zv1,zfv,zv2 g f p i z k h d];exact zgo h _
theorem z0w {l:List Ent} (h : ∀ e∈l,e.senses.length<2^40) : ∀ ids,(senW l ids).length<2^40
 | []=>by simp [senW]
 | x::r=>by
  unfold senW;split
  ·unfold getE
   cases hf:l.find? (·.id=x) with
   | none=>simp [Ent.zero]
   | some e=>exact h e (List.mem_of_find?_eq_some hf)
  ·exact z0w h r
def SprC (g:Lang) (f:Nat):Prop:=∀ (x:AllS) (p:List Prt) (i:Nat),allI x→p.length≤4→i+f=p.length →
 zcb Tryz.prog 51 [.d g.d,.d (zad p),.d (int i),.fn 49 [.bp 0 0,.bp 1 0]] (spO x) 3 (.d (.bool (zdv addF (x,true) (sprT g f p i)).2)) 3 (spO (zdv addF (x,true) (sprT g f p i)).1) [2]
set_option maxHeartbeats 16000000 in
theorem zyt (g:Lang):SprC g 0:=by
 intro x p i hx hp hi
 have hip:(i:Int)=p.length:=by omega
 have hadd:=yd0 x hx.1 (fun b hb=>by have:=hx.2 b hb;omega) p (by omega)
 rw [show zdv addF (x,true) (sprT g 0 p i)=addF x p from by simp [sprT,zdv]]
 generalize addF x p=z at hadd
 obtain ⟨zx,zb⟩:=z
 obtain ⟨out,full⟩:=x
 obtain ⟨zo,zf⟩:=zx
 refine zex mixed Tryz.func51 rfl call_51 (by simp [Sym.los,Sym.lo]) ?_
 simp +decide [Tryz.f51,spO,int,zad,zak,Lang.d,hip]
 refine ⟨fun a _=>rfl,by omega,by unfold maxLen;omega,?_⟩
 refine zal.mutf [4] rfl [0,1,2] [.d (anaD p),.bp 0 0,.bp 1 0] (spO (out,full)) (by rfl) (by simp [rens,ren,rho,anaD,zad]) (by simp) ?_ hadd ?_
 ·simp [Fits,zf0,spO,St.look,zab,zcm,rens,ren,rho,int,List.range,List.range.loop,zad]
 simp +decide [int,zad,spO,unmR,St.unmv]
set_option maxHeartbeats 16000000 in
theorem zyu (g:Lang) (hg:LightF g) (hc:LangC g) (f:Nat) (ih:SprC g f):SprC g (f+1):=by
 intro x p i hx hp hi
 have hip:¬(i:Int)=p.length:=by omega
 have hlt:i<p.length:=by omega
 have hlt':(i:Int)<p.length:=by omega
 obtain ⟨q,eq⟩ : ∃ q,p[i]=q:=⟨_,rfl⟩
 have e1:p[i]?=some q:=by rw [List.getElem?_eq_getElem hlt,eq]
 have eg:p.getD i ⟨0,0,0⟩=q:=by rw [List.getD_eq_getElem?_getD,e1];rfl
 have hR:=hg.z3e hc
 have hS:=zoy g.lex q.entry hR.lex.len hR.lex.senses
 refine zex mixed Tryz.func51 rfl call_51 (by simp [Sym.los,Sym.lo]) ?_
 simp +decide [Tryz.f51,spO,int,zad,zak,Lang.d,hip,Prt.row,hlt,hlt',e1,eq]
 refine zah (by rfl) (by rfl) hS (by simp [D.scalar,zbq,int]) ?_
 simp +decide [spO,int,zad,zak,Lang.d,zbq]
 unfold sprT
 rw [eg]
 obtain ⟨ns,ens⟩ : ∃ ns,(zcp g.lex q.entry).length=ns:=⟨_,rfl⟩
 have hns:ns<2^40:=by
  rw [← ens];unfold zcp;rw [zte];exact z0w hR.lex.senses _
 rw [ens]
 refine zbc mixed (fun k:Nat=>{n:=49,next:=4,slots:=[(1,.d (zad p)),(2,.d (int i)),(3,.fn 49 [.bp 0 0,.bp 1 0]),(4,.bp 3 0),(29,.d (int ns)),(30,.d (int k))],own:=(3,.box 36 (zak g.d))::spO (zdv addF (x,true) (sprK g f p i k)).1,base:=3,moved:=[2,4]})
  (fun k=>k≤ns∧(zdv addF (x,true) (sprK g f p i k)).2=true) (fun k=>ns-k) 0 ⟨Nat.zero_le _,rfl⟩ ?_ ?_
 ·simp +decide [spO,int,zad,zak,Lang.d,sprK,zdv]
 intro k ⟨hk,hgo⟩
 have hall:=zpb (sprK g f p i k) (x,true) hx (fun a ha=>by
  unfold sprK at ha;rw [List.mem_flatMap] at ha;obtain ⟨_,_,ha⟩:=ha;rw [ztx g f _ _ a ha,List.length_set];exact hp)
 have hnx:=zv1 g f p i k
 rw [eg] at hnx
 have hstep:zdv addF (x,true) (sprK g f p i (k+1))=zdv addF (zdv addF (x,true) (sprK g f p i k)) (sprT g f (p.set i ⟨q.entry,q.alt,k⟩) (i+1)):=by rw [hnx,zfv]
 by_cases hkn:k<ns
 case neg=>
  have:k=ns:=by omega
  subst this;have hfin:(List.range k).flatMap (fun (k:Nat)=>sprT g f (p.set i ⟨q.entry,q.alt,k⟩) (i+1))=sprK g f p i k:=by unfold sprK;rw [eg]
  rw [hfin];generalize zdv addF (x,true) (sprK g f p i k)=z at hgo;obtain ⟨zx,zb⟩:=z;simp only at hgo
  subst hgo;refine zaq mixed ?_
  simp +decide [spO,int,zad,zak,Lang.d,unmR,St.unmv]
 have hkn':(k:Int)<ns:=by omega
 generalize zdv addF (x,true) (sprK g f p i k)=z at hgo hstep hall
 obtain ⟨⟨out,full⟩,zb⟩:=z
 simp only at hgo
 subst hgo
 have hcall:=ih (out,full) (p.set i ⟨q.entry,q.alt,k⟩) (i+1) hall (by rw [List.length_set];exact hp) (by rw [List.length_set];omega)
 have hset:(p.map Prt.row).set i [.int .i64 q.entry,.int .i64 q.alt,.int .i64 k]=(p.set i ⟨q.entry,q.alt,(k:Int)⟩).map Prt.row:=by rw [List.map_set];rfl
 refine zaq mixed ?_
 simp +decide [spO,int,zad,zak,Lang.d,hkn,hkn',I64,Prt.row,hlt,hlt']
 rw [eq,hset]
 refine ⟨by omega,by unfold maxLen;omega,⟨by omega,by omega⟩,?_⟩
 generalize zdv addF ((out,full),true) (sprT g f (p.set i ⟨q.entry,q.alt,(k:Int)⟩) (i+1))=z2 at hcall hstep
 obtain ⟨⟨o2,f2⟩,b2⟩:=z2
 refine zal.mutf [4] rfl [0,1,2] [.d g.d,.d (zad (p.set i ⟨q.entry,q.alt,(k:Int)⟩)),.d (int (i+1)),.fn 49 [.bp 0 0,.bp 1 0]] (spO (out,full)) (by rfl) (by simp [rens,ren,rho,anaD,zad,Lang.d,int]) (by simp) ?_ (by simpa using hcall) ?_
 ·simp [Fits,zf0,spO,St.look,zab,zcm,rens,ren,rho,int,List.range,List.range.loop,zad]
 cases b2 with
 | true=>
  simp +decide [int,zad,spO,unmR,St.unmv,zak,Lang.d,I64];exact ⟨⟨by omega,by omega⟩,k+1,⟨hkn,by rw [hstep]⟩,by omega,by omega,by rw [hstep],by rw [hstep]⟩
 | false=>
  simp +decide [int,zad,spO,unmR,St.unmv,zak,Lang.d,I64];have hst:=zv2 g f p i (x,true) (k+1) (by rw [hstep]) (ns-(k+1))
  rw [show k+1+(ns-(k+1))=ns by omega,hstep] at hst
  have hfin:(List.range ns).flatMap (fun (k:Nat)=>sprT g f (p.set i ⟨q.entry,q.alt,k⟩) (i+1))=sprK g f p i ns:=by unfold sprK;rw [eg]
  rw [hfin,hst];exact ⟨rfl,rfl,rfl⟩
theorem zv3 (g:Lang) (hg:LightF g) (hc:LangC g) : ∀ f,SprC g f
 | 0=>zyt g
 | f+1=>zyu g hg hc f (zv3 g hg hc f)
end Go.V
namespace Go.V
open Go Go.Proofs
def allF (g:Lang) (x:AllS) (a:List Prt) (_:List Int):AllS×Bool:=zdv addF (x,true) (sprT g a.length a 0)
def zc0 (g:Lang) (x:AllS):List (Nat×Obj'):=[(2,.box 36 (zak g.d)),(3,.box 87 [.fn 49 [.bp 4 0,.bp 5 0]]),(4,.box 47 [.ar 6]),(5,.box 4 [.d (.bool x.2)]),(6,.arr 39 1 (x.1.map fun a=>[zad a]))]
set_option maxHeartbeats 8000000 in
theorem yd1 (g:Lang) (hg:LightF g) (hc:LangC g) (w:List Int) (tr:List (List Int)) (x:AllS) (hx:allI x) (a:List Prt) (ha:a.length≤4) (base:List Int) :
  zcb Tryz.prog 50 [.d (zad a),.d (ints base),.bp 2 0,.bp 3 0] (zaj g w tr (.fn 50 [.bp 2 0,.bp 3 0]) (zc0 g x)) 7
   (.d (.bool (allF g x a base).2)) 7 (zaj g w tr (.fn 50 [.bp 2 0,.bp 3 0]) (zc0 g (allF g x a base).1)) [6]:=by
 have hS:=zv3 g hg hc a.length x a 0 hx ha (by omega)
 unfold allF
 generalize zdv addF (x,true) (sprT g a.length a 0)=z at hS
 obtain ⟨⟨o2,f2⟩,b2⟩:=z
 obtain ⟨out,full⟩:=x
 refine zbg mixed Tryz.func50 rfl call_50 (by simp [Sym.los,Sym.lo]) ?_
 simp +decide [Tryz.f50,zaj,zc0,zak,Lang.d,int,ints,u32,zad]
 refine zal.mut [4,5,6] [.d g.d,.d (zad a),.d (int 0),.fn 49 [.bp 0 0,.bp 1 0]] (spO (out,full)) (by rfl) (by simp [rens,ren,rho,Lang.d,int,ints,zad]) (by simp) ?_ hS ?_
 ·simp [Fits,zf0,spO,St.look,zab,zcm,rens,ren,rho,int,List.range,List.range.loop,zad]
 simp +decide [zaj,zc0,spO,zak,Lang.d,int,ints,u32,zad]
theorem ybk (g:Lang) (x:AllS):RestOk 7 (.fn 50 [.bp 2 0,.bp 3 0]) (zc0 g x) where
 two:=by omega
 keys:=by simp [zc0]
 ids i o h:=by
  simp only [zc0,List.mem_cons,List.not_mem_nil,or_false] at h;rcases h with h | h | h | h | h <;> (cases h;simp [Obj'.lo,Sym.los,Sym.lo,zak,Lang.d])
 range:=rfl
 thawed k x h:=by
  have h2:¬(2=k):=by omega
  have h3:¬(3=k):=by omega
  have h4:¬(4=k):=by omega
  have h5:¬(5=k):=by omega
  have h6:¬(6=k):=by omega
  simp [zc0,zcl,zt8,zmu,thaw,h2,h3,h4,h5,h6,zak,Lang.d]
 thawC k x h:=by simp [thaw]
 fn:=by simp [Sym.lo,Sym.los]
theorem ybl {g:Lang} {x:AllS} {a:List Prt} {base:List Int} (h:allI x) (ha:a.length≤4):allI (allF g x a base).1:=
 zpb _ _ h fun q hq=>by rw [ztx g _ _ _ q hq];exact ha
def allC (g:Lang) (hg:LightF g) (hc:LangC g) (w:List Int):Clo Tryz.prog g w AllS where
 F:=allF g
 rest:=zc0 g
 fid:=50
 caps:=[.bp 2 0,.bp 3 0]
 n:=7
 mv:=[6]
 mvOk i h:=by rw [List.mem_singleton] at h;omega
 mvCaps:=by simp [zbt,zar]
 Inv _ x:=allI x
 ok:=ybk g
 mono _ _ h:=h
 call k x tr a base hI hk ha hb:=⟨yd1 g hg hc w tr x hI a ha base,ybl hI ha⟩
set_option maxHeartbeats 16000000 in
theorem z6x (g:Lang) (hg:LightF g) (hc:LangC g) (w:List Int) (hw:w.length≤30)  :
  zcb Tryz.prog 41 [.d g.d,.d (ints w),.fn 50 [.bp 0 0,.bp 1 0]] ([(0,.box 36 (zak g.d)),(1,.box 87 [.fn 49 [.bp 2 0,.bp 3 0]]),(2,.box 47 [.ar 4]),(3,.box 4 [.d (.bool (([],false):AllS).2)]),(4,.arr 39 1 ((([],false):AllS).1.map fun a=>[zad a]))]) 5
   (.tup []) 5 ([(0,.box 36 (zak g.d)),(1,.box 87 [.fn 49 [.bp 2 0,.bp 3 0]]),(2,.box 47 [.ar 4]),(3,.box 4 [.d (.bool (sF (allF g) (([],false),true) ((zdg g w).map fun b=>(b,zba g.lex b))).1.2)]),(4,.arr 39 1 ((sF (allF g) (([],false),true) ((zdg g w).map fun b=>(b,zba g.lex b))).1.1.map fun a=>[zad a]))]) [4]:=by
 refine zbg mixed Tryz.func41 rfl call_41 (by simp [Sym.los,Sym.lo]) ?_
 by_cases h0:w.length=0
 ·have h0':(w.length:Int)=0:=by omega
  simp +decide [Tryz.f41,zak,Lang.d,int,ints,u32,h0,h0',zdg,sF,zc0];done
 have h0':¬(w.length:Int)=0:=by omega
 by_cases h1:24<w.length
 ·have h1':(24:Int)<w.length:=by omega
  simp +decide [Tryz.f41,zak,Lang.d,int,ints,u32,h0,h0',h1,h1',zdg,sF,zc0];done
 have h1':¬(24:Int)<w.length:=by omega
 simp +decide [Tryz.f41,zak,Lang.d,int,ints,u32,h0,h0',h1,h1',zc0]
 have hR:=(hg.z3e hc).rules
 have hsh:=z15 g.rules (by have:=hR.2;omega) (fun r hr=>by have h1:=(hR.1 r hr).dst;have h2:=(hR.1 r hr).src;omega)
 refine yf7 mixed 7 [] (by rfl) (by rfl) (by rfl) (by rfl) (by rfl) ?_
 simp +decide [zak,Lang.d,int,ints,u32]
 refine zah (by rfl) (by rfl) hsh (by simp [D.scalar]) ?_
 simp +decide [zak,Lang.d,int,ints,u32]
 refine ⟨by rfl,?_⟩
 have hf:=hg.net'.ok.2.1
 have hfl:g.net.final.length<2^40:=hg.net'.few2
 refine zbc mixed (fun k:Nat=>{n:=46,next:=8,slots:=[(6,.bp 7 0),(28,.d (ints g.net.final)),(29,.d (int g.net.final.length)),(30,.d (int k))],own:=((7,.box 130 (zak g.d++[.d (ints w),.d (.bool (zez g.rules)),.d (u32 (zbz (g.net.final.take k))),.mp 6,.fn 50 [.bp 0 0,.bp 1 0]]))::(6,.map 81 [])::[(0,.box 36 (zak g.d)),(1,.box 87 [.fn 49 [.bp 2 0,.bp 3 0]]),(2,.box 47 [.ar 4]),(3,.box 4 [.d (.bool (([],false):AllS).2)]),(4,.arr 39 1 ((([],false):AllS).1.map fun a=>[zad a]))]),base:=5})
  (fun k=>k≤g.net.final.length) (fun k=>g.net.final.length-k) 0 (by simp) ?_ ?_
 ·simp +decide [zak,Lang.d,int,ints,u32,zbz,zc0]
 intro k hk
 by_cases hlt:k<g.net.final.length
 ·have hlt':(k:Int)<g.net.final.length:=by omega
  have hsn:zbz (g.net.final.take (k+1))=zg5 (zbz (g.net.final.take k)) g.net.final[k]:=by unfold zbz;rw [zam hlt,List.foldl_append];rfl
  have hm8:zbz (g.net.final.take k)<8:=zgg _ 0 (fun x hx=>hf x (List.mem_of_mem_take hx)) (by omega)
  have hq:=hf g.net.final[k] (List.getElem_mem hlt);obtain ⟨c,ec⟩ : ∃ c,g.net.final[k]=c:=⟨_,rfl⟩;have e1:g.net.final[k]?=some c:=by rw [List.getElem?_eq_getElem hlt,ec]
  rw [ec] at hsn hq;generalize zbz (g.net.final.take k)=mm at hsn hm8;have hwb:=zmc hm8 hq.1 (show c<3 by omega)
  refine zaq mixed ?_
  simp +decide [zak,Lang.d,int,ints,u32,hlt,hlt',e1,ec,I64,zc0];refine ydc mixed 9 7 (by rfl) rfl rfl rfl rfl (by rfl) (by simp) ?_
  simp +decide [zak,Lang.d,int,ints,u32,hlt,hlt',e1,ec,I64];exact ⟨hq.1,⟨by omega,by omega⟩,k+1,hlt,by omega,by omega,by rw [hsn];exact hwb⟩
 have:k=g.net.final.length:=by omega
 subst this
 rw [List.take_length]
 refine zaq mixed ?_
 simp +decide [zak,Lang.d,int,ints,u32,zc0]
 have hwc:=walk_nil ((zvz g hg hc w (by omega) (allC g hg hc w) 4).call 0 (([],false):AllS) [] [] 1 [] ⟨Nat.zero_le _,fun b hb=>by cases hb⟩ (by decide) (fun _ h=>by cases h) rfl (by omega) (by simp) (fun _ h=>by cases h))
 have hpl:=zyr hg h0 (by omega) (allC g hg hc w) (([],false):AllS)
 generalize zas g w (allC g hg hc w) 4 ((([],false):AllS),[]) [] 1 []=z at hwc hpl
 obtain ⟨⟨zx,zt⟩,zb⟩:=z
 have hzx:(sF (allF g) ((([],false):AllS),true) ((zdg g w).map fun b=>(b,zba g.lex b))).1=zx:=by
  have:=congrArg Prod.fst hpl;exact this.symm
 refine zal.mut [7,6,0,1,2,3,4] [.bp 0 0,.nils,.d (u32 1),.nils] (zaj g w [] (.fn 50 [.bp 2 0,.bp 3 0]) (zc0 g (([],false):AllS))) (by rfl) (by simp [rens,ren,rho,u32]) (by simp) ?_ hwc ?_
 ·simp [Fits,zf0,zaj,zc0,St.look,zab,zcm,rens,ren,rho,zak,Lang.d,znh,int,ints,u32,List.range,List.range.loop]
 simp +decide [zaj,zak,Lang.d,int,ints,u32,hzx,allC,zc0]
end Go.V
namespace Go.V
open Go Go.Proofs
def z6y (g:Lang) (w:List Int):AllS:=(sF (allF g) (([],false),true) ((zdg g w).map fun b=>(b,zba g.lex b))).1
def allE (g:Lang) (w:List Int):List (List Prt)×Int:=if zg6 g.inv w≠0 then ([],zg6 g.inv w) else if (z6y g w).2=true then ([],11) else ((z6y g w).1,0)
set_option maxHeartbeats 8000000 in
theorem ybm (g:Lang) (hg:LightF g) (hc:LangC g) (w:List Int) (hw:w.length≤30):zay Tryz.prog 20 [g.d,ints w] (.tup [zh0 (allE g w).1,int (allE g w).2]):=by
 have hR:=z6x g hg hc w hw
 have hW:=ydz g.inv w (by omega)
 unfold allE
 rw [show (sF (allF g) (([],false),true) ((zdg g w).map fun b=>(b,zba g.lex b))).1=z6y g w from rfl] at hR
 generalize z6y g w=z at hR
 obtain ⟨out,full⟩:=z
 refine ztf Tryz.func20 rfl call_20 ?_
 by_cases hwc:zg6 g.inv w=0
 case neg=>
  refine zaq mixed ?_
  simp +decide [Tryz.f20,zak,Lang.d,int,ints,hwc];refine zal.pure (by rfl) hW (by simp [int,D.scalar]) ?_
  simp +decide [int,ints,hwc,zh0]
 rw [hwc] at hW
 refine zhz mixed 5 {n:=24,next:=5,slots:=[(1,.d (ints w)),(2,.bp 0 0),(7,.bp 2 0),(8,.bp 3 0),(9,.bp 4 0)],own:=[(0,.box 36 (zak g.d)),(2,.box 47 [.nils]),(3,.box 4 [.d (.bool false)]),(4,.box 87 [.fn 49 [.bp 2 0,.bp 3 0]])]} rfl ?_ ?_
 ·simp +decide [Tryz.f20,ze4,cutK,zak,Lang.d,int,ints]
  refine zal.pure (by rfl) hW (by simp [int,D.scalar]) ?_
  simp +decide [int,ints,hwc,zh0,ze4,cutK]
 simp only [zfr]
 refine ztw 2 0 39 1 (T:=47) (l:=[.nils]) rfl rfl ?_
 refine zaq mixed ?_
 simp +decide [Tryz.f20,zak,Lang.d,int,ints,St.new,St.set,aset]
 refine zal.mut [0,4,2,3,5] [.d g.d,.d (ints w),.fn 50 [.bp 0 0,.bp 1 0]] ([(0,.box 36 (zak g.d)),(1,.box 87 [.fn 49 [.bp 2 0,.bp 3 0]]),(2,.box 47 [.ar 4]),(3,.box 4 [.d (.bool (([],false):AllS).2)]),(4,.arr 39 1 ((([],false):AllS).1.map fun a=>[zad a]))]) (by rfl) (by simp [rens,ren,rho,Lang.d,int,ints]) (by simp) ?_ hR ?_
 ·simp [Fits,zf0,St.look,zab,zcm,rens,ren,rho,int,List.range,List.range.loop,zak,Lang.d,ints]
 cases full with
 | true=>
  simp +decide [int,ints,zh0,hwc]
 | false=>
  simp +decide [int,ints,zh0,hwc]
end Go.V

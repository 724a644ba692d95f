/- Contracts and plain laws of this seat: part M5. It needs no conditions. -/
import Derived.Test.YtmpknkjlhapcmaaGreatM4
import Derived.Test.YtmpknkjlhapcmaaGreatB1
import Derived.Test.YtmpknkjlhapcmaaGreatU0
set_option linter.unusedVariables false
set_option linter.unusedSimpArgs false
set_option linter.unusedSectionVars false
set_option maxRecDepth 100000
namespace Go.V
open Go Go.Proofs
def blsR (S m:Nat):List (List D):=(bls S m).map fun b=>[.bool b]
set_option maxHeartbeats 4000000 in
theorem z1y (n:Nett) (hn:NetL n) (m:Nat) (c:Int) :
  ydm Tryz.prog 187 [.agg n.cells,za7 (bls n.states.toNat m),int c] 4 1 (blsR n.states.toNat (zb9 n.steps m c)):=by
 have h1:=hn.lo
 have h3:=hn.hi
 have hfew:=hn.few
 refine zng mixed Tryz.func187 rfl call_187 (by intro r hr;unfold blsR at hr;rw [List.mem_map] at hr;obtain ⟨b,_,rfl⟩:=hr;rfl) ?_
 simp +decide [Tryz.f187,Nett.cells,int,ints,za7]
 refine ⟨by omega,by omega,by unfold maxLen;omega,?_⟩
 refine zad mixed (fun k:Nat=>{n:=45,next:=3,slots:=[(1,.d (za7 (bls n.states.toNat m))),(2,.d (int c)),(3,.bp 0 0),(7,.ar 2),(8,.d (int k))],own:=[(0,.box 53 (n.cells.map .d)),(2,.arr 4 1 ((bls n.states.toNat (zb9 (n.steps.take k) m c)).map fun b=>[.bool b]))],moved:=[]})
  (fun k=>k≤n.steps.length) (fun k=>n.steps.length-k) 0 (by simp) (by simp +decide [int,ints,zb9,zqf,Nett.cells,za7]) ?_
 intro k hk
 by_cases hlt:k<n.steps.length
 case neg=>
  have:k=n.steps.length:=by omega
  subst this;rw [List.take_length];simp +decide [int,ints,za7,Nett.cells,stepsD,blsR]
 have hlt':(k:Int)<n.steps.length:=by omega
 have hq:=hn.steps n.steps[k] (List.getElem_mem hlt)
 have hsn:zb9 (n.steps.take (k+1)) m c=zfg m c (zb9 (n.steps.take k) m c) n.steps[k]:=by unfold zb9;rw [zal hlt,List.foldl_append];rfl
 obtain ⟨x,eq⟩ : ∃ x,n.steps[k]=x:=⟨_,rfl⟩
 have e1:n.steps[k]?=some x:=by rw [List.getElem?_eq_getElem hlt,eq]
 rw [eq] at hq hsn
 obtain ⟨⟨q1,q2⟩,⟨q3,q4⟩,q5⟩:=hq
 have hb:=zi8 (S:=n.states.toNat) (m:=m) (q:=x.src.toNat) (by omega)
 have hst:=z1v (S:=n.states.toNat) (m:=zb9 (n.steps.take k) m c) (q:=x.dst.toNat) (by omega)
 rw [show ((x.dst.toNat:Nat):Int)=x.dst by omega] at hst
 have hgt:=zi8 (S:=n.states.toNat) (m:=zb9 (n.steps.take k) m c) (q:=x.dst.toNat) (by omega)
 have hms:(List.map (fun b=>[D.bool b]) (bls n.states.toNat (zb9 (n.steps.take k) m c))).set x.dst.toNat [D.bool true]=List.map (fun b=>[D.bool b]) (bls n.states.toNat (zft (zb9 (n.steps.take k) m c) x.dst)):=by
  rw [← hst,List.map_set]
 unfold zfg hasS at hsn
 cases hx:m.testBit x.src.toNat with
 | false=>
  rw [hx] at hb hsn;rw [if_neg (by simp)] at hsn
  simp +decide [int,ints,hlt,hlt',e1,eq,q1,q2,q3,q4,hb,za7,Nett.cells,stepsD,Stp.row];exact ⟨by omega,⟨by omega,by omega⟩,k+1,hlt,by omega,by omega,by rw [hsn]⟩
 | true=>
  rw [hx] at hb hsn;by_cases hc:c=0∨x.cls=c
  ·rw [if_pos ⟨rfl,hc⟩] at hsn
   simp +decide [int,ints,hlt,hlt',e1,eq,q1,q2,q3,q4,hb,za7,Nett.cells,stepsD,Stp.row,hc,hgt];refine ⟨by omega,fun h0=>⟨fun h=>⟨by omega,by omega,⟨by omega,by omega⟩,k+1,hlt,by omega,by omega,by rw [hsn];exact hms⟩,fun h=>absurd hc (by rintro (h' | h');exact h0 h';exact h h')⟩,fun h0=>⟨by omega,by omega,⟨by omega,by omega⟩,k+1,hlt,by omega,by omega,by rw [hsn];exact hms⟩⟩
  ·rw [if_neg (fun h=>hc h.2)] at hsn
   have hc1:¬ c=0:=fun h=>hc (.inl h)
   have hc2:¬ x.cls=c:=fun h=>hc (.inr h)
   simp +decide [int,ints,hlt,hlt',e1,eq,q1,q2,q3,q4,hb,za7,Nett.cells,stepsD,Stp.row,hc1,hc2];exact ⟨by omega,⟨by omega,by omega⟩,k+1,hlt,by omega,by omega,by rw [hsn]⟩
def zcg (l:List Stp):Nat→Nat→Nat
 | 0,m=>m
 | k+1,m=>zb9 l (zcg l k m) 0 ||| zcg l k m
def mixB (S a b k:Nat):List Bool:=(List.range S).map fun q=>if q<k then (a.testBit q || b.testBit q) else a.testBit q
@[simp] theorem ylh (S a b k:Nat):(mixB S a b k).length=S:=by simp [mixB]
theorem zjb {S a b k q:Nat} (h:q<(mixB S a b k).length):(mixB S a b k)[q]=if q<k then (a.testBit q || b.testBit q) else a.testBit q:=by simp [mixB]
theorem ya5 (S a b:Nat):mixB S a b 0=bls S a:=by
 apply List.ext_getElem
 ·simp
 ·intro i h1 h2;rw [zjb,zo4];simp
theorem ya6 (S a b:Nat):mixB S a b S=bls S (a ||| b):=by
 apply List.ext_getElem
 ·simp
 ·intro i h1 h2
  have:i<S:=by simpa using h1
  rw [zjb,zo4,if_pos this,Nat.testBit_or]
theorem yfy {S a b k:Nat} (h:k<S):(mixB S a b k)[k]?=some (a.testBit k):=by
 rw [List.getElem?_eq_getElem (by simpa using h),zjb,if_neg (by omega)]
theorem yfz {S a b k:Nat} (h:k<S):(mixB S a b k).set k (a.testBit k || b.testBit k)=mixB S a b (k+1):=by
 apply List.ext_getElem
 ·simp
 ·intro i h1 h2
  rw [List.getElem_set,zjb];by_cases e:k=i
  ·subst e;rw [if_pos rfl,zjb,if_pos (by omega)]
  ·rw [if_neg e,zjb]
   by_cases hik:i<k
   ·rw [if_pos hik,if_pos (by omega)]
   ·rw [if_neg hik,if_neg (by omega)]
set_option maxHeartbeats 16000000 in
theorem zya (n:Nett) (hn:NetL n) (m:Nat):zam Tryz.prog 201 [.agg n.cells,za7 (bls n.states.toNat m)] (za7 (bls n.states.toNat (zcg n.steps n.states.toNat m))):=by
 have h1:=hn.lo
 have h3:=hn.hi
 refine zaa mixed Tryz.func201 rfl call_201 ?_
 simp +decide [Tryz.f201,Nett.cells,int,ints]
 refine zaz mixed (fun r:Nat=>{n:=38,next:=2,slots:=[(1,.d (za7 (bls n.states.toNat (zcg n.steps r m)))),(2,.bp 0 0),(5,.d (int r))],own:=[(0,.box 53 (n.cells.map .d))],moved:=[2]})
  (fun r=>r≤n.states.toNat) (fun r=>n.states.toNat-r) 0 (by simp) (by simp +decide [int,ints,Nett.cells,zcg]) ?_
 intro r hr
 by_cases hlt:r<n.states.toNat
 ·have hlt':(r:Int)<n.states:=by omega
  have hA:=z1y n hn (zcg n.steps r m) 0;have hsn:zcg n.steps (r+1) m=zb9 n.steps (zcg n.steps r m) 0 ||| zcg n.steps r m:=rfl
  generalize zcg n.steps r m=b at hA hsn;generalize zb9 n.steps b 0=a at hA hsn;refine zfs mixed 1 {n:=38,next:=2,slots:=[(1,.d (za7 (bls n.states.toNat b))),(2,.bp 0 0),(5,.d (int r))],own:=[(0,.box 53 (n.cells.map .d))],moved:=[2]} rfl (by simp +decide [zev,cutK,int,ints,Nett.cells,hlt']) ?_
  simp only [zfo];refine zcl (zcb (zfs mixed 2 {n:=38,next:=3,slots:=[(1,.d (za7 (bls n.states.toNat b))),(2,.bp 0 0),(5,.d (int r)),(6,.ar 2)],own:=[(0,.box 53 (n.cells.map .d)),(2,.arr 4 1 ((mixB n.states.toNat a b n.states.toNat).map fun b=>[.bool b]))],moved:=[2]} rfl ?_ ?_)) mixed
  ·simp +decide [zev,int,ints,Nett.cells]
   refine zaj.fresh (by rfl) hA (by simp) ?_
   simp +decide [int,ints,Nett.cells];refine zad mixed (fun k:Nat=>{n:=38,next:=3,slots:=[(1,.d (za7 (bls n.states.toNat b))),(2,.bp 0 0),(5,.d (int r)),(6,.ar 2),(7,.d (int k))],own:=[(0,.box 53 (n.cells.map .d)),(2,.arr 4 1 ((mixB n.states.toNat a b k).map fun b=>[.bool b]))],moved:=[2]})
    (fun k=>k≤n.states.toNat) (fun k=>n.states.toNat-k) 0 (by simp) (by simp +decide [int,ints,Nett.cells,ya5,blsR]) ?_
   intro k hk;by_cases hlk:k<n.states.toNat
   ·have hlk':(k:Int)<n.states:=by omega
    have g1:=yfy (a:=a) (b:=b) hlk;have g2:=zi8 (m:=b) hlk;have hms:(List.map (fun b=>[D.bool b]) (mixB n.states.toNat a b k)).set k [D.bool (a.testBit k || b.testBit k)]=List.map (fun b=>[D.bool b]) (mixB n.states.toNat a b (k+1)):=by
     rw [← yfz hlk,List.map_set]
    cases hx:a.testBit k with
    | true=>
     rw [hx] at g1 hms;rw [Bool.true_or] at hms;simp +decide [int,ints,Nett.cells,hlk,hlk',g1,zjb,zo4,hx,za7,I64];exact ⟨by omega,⟨by omega,by omega⟩,k+1,hlk,by omega,by omega,hms⟩
    | false=>
     rw [hx] at g1 hms;rw [Bool.false_or] at hms;simp +decide [int,ints,Nett.cells,hlk,hlk',g1,g2,zjb,zo4,hx,za7,I64];exact ⟨by omega,⟨by omega,by omega⟩,k+1,hlk,by omega,by omega,hms⟩
   ·have:k=n.states.toNat:=by omega
    have hlk':¬(k:Int)<n.states:=by omega
    rw [this] at hlk' ⊢;simp +decide [int,ints,Nett.cells,hlk',cutK];omega
  ·simp only [zfo]
   refine ze5 [2] ?_
   refine zao mixed ?_
   rw [ya6,← hsn];simp +decide [int,ints,Nett.cells,I64];exact ⟨⟨by omega,by omega⟩,r+1,hlt,by omega,rfl,by omega⟩
 ·have:r=n.states.toNat:=by omega
  have hlt':¬(r:Int)<n.states:=by omega
  rw [← this];refine zao mixed ?_
  simp +decide [int,ints,Nett.cells,hlt']
def endB (n:Nett) (q:Nat):Bool:=zi2 n.states.toNat (zcg n.steps n.states.toNat (zft 0 (q:Int))) (zbe n.final)
def zi3 (n:Nett) (k:Nat):List Bool:=(List.range n.states.toNat).map fun q=>decide (q<k)&&endB n q
def znz (n:Nett):Nat:=(List.range n.states.toNat).foldl (fun m q=>if endB n q=true then m ||| (1 <<< q) else m) 0
theorem z8b (n:Nett):zi3 n 0=List.replicate n.states.toNat false:=by
 apply List.ext_getElem
 ·simp [zi3]
 ·intro i h1 h2;simp [zi3]
theorem ya7 {n:Nett} {k:Nat} (h:k<n.states.toNat):(zi3 n k).set k (endB n k)=zi3 n (k+1):=by
 apply List.ext_getElem
 ·simp [zi3]
 ·intro i h1 h2
  rw [List.getElem_set];simp only [zi3,List.getElem_map,List.getElem_range];by_cases e:k=i
  ·subst e;simp
  ·rw [if_neg e]
   congr 1
   have:(i<k)↔(i<k+1):=by omega
   simp [this]
theorem ya8 {n:Nett} {k:Nat} (h:k<n.states.toNat):(zi3 n k)[k]?=some false:=by
 rw [List.getElem?_eq_getElem (by simpa [zi3] using h)]
 simp [zi3]
theorem zv8 (f:Nat→Bool) : ∀ (l:List Nat) (m j:Nat),(l.foldl (fun m q=>if f q=true then m ||| (1 <<< q) else m) m).testBit j=(m.testBit j || decide (j∈l∧f j=true))
 | [],m,j=>by simp
 | q::l,m,j=>by
  rw [List.foldl_cons,zv8 f l];by_cases hq:f q=true
  ·rw [if_pos hq,zi9]
   by_cases e:q=j
   ·subst e;simp [hq]
   ·have e':¬ j=q:=fun h=>e h.symm
    simp [e,e']
  ·rw [if_neg hq]
   by_cases e:j=q
   ·subst e;simp [hq]
   ·simp [e]
theorem z8c (n:Nett):zi3 n n.states.toNat=bls n.states.toNat (znz n):=by
 apply List.ext_getElem
 ·simp [zi3]
 ·intro i h1 h2
  have hi:i<n.states.toNat:=by simpa using h2
  rw [zo4];unfold znz;rw [zv8];simp [zi3,hi];intro _;omega
set_option maxHeartbeats 16000000 in
theorem ya9 (n:Nett) (hn:NetL n):zam Tryz.prog 186 [.agg n.cells] (za7 (bls n.states.toNat (znz n))):=by
 have h1:=hn.lo
 have h3:=hn.hi
 refine zaa mixed Tryz.func186 rfl call_186 ?_
 simp +decide [Tryz.f186,Nett.cells,int,ints]
 refine ⟨by omega,by omega,by unfold maxLen;omega,?_⟩
 refine zad mixed (fun k:Nat=>{n:=29,next:=3,slots:=[(1,.bp 0 0),(3,.ar 2),(4,.d (int k))],own:=[(0,.box 53 (n.cells.map .d)),(2,.arr 4 1 ((zi3 n k).map fun b=>[.bool b]))],moved:=[]})
  (fun k=>k≤n.states.toNat) (fun k=>n.states.toNat-k) 0 (by simp) (by simp +decide [int,ints,Nett.cells,z8b]) ?_
 intro k hk
 by_cases hlk:k<n.states.toNat
 ·have hlk':(k:Int)<n.states:=by omega
  simp +decide [int,ints,Nett.cells,hlk'];have hS:=zqg n hn [(k:Int)] (by intro q hq;rw [List.mem_singleton] at hq;omega) (by simp)
  have hR:=zya n hn (zbe [(k:Int)]);have hF:=zqg n hn n.final hn.final hn.few2;have hB:=zq8 n.states.toNat (zcg n.steps n.states.toNat (zbe [(k:Int)])) (zbe n.final) (by omega)
  have hE:zi2 n.states.toNat (zcg n.steps n.states.toNat (zbe [(k:Int)])) (zbe n.final)=endB n k:=rfl
  rw [hE] at hB;have hms:(List.map (fun b=>[D.bool b]) (zi3 n k)).set k [D.bool (endB n k)]=List.map (fun b=>[D.bool b]) (zi3 n (k+1)):=by
   rw [← ya7 hlk,List.map_set]
  have hg:=ya8 hlk;have hll:(zi3 n k).length=n.states.toNat:=by simp [zi3]
  refine yih mixed 14 (by rfl) rfl rfl rfl rfl (by rfl) (by simp) ?_
  simp +decide [int,ints,Nett.cells,hlk'];refine zac (by rfl) (by rfl) hS (by simp [int,ints,Nett.cells]) ?_
  simp +decide [int,ints,Nett.cells];refine zac (by rfl) (by rfl) hR (by simp [int,ints,Nett.cells]) ?_
  simp +decide [int,ints,Nett.cells];refine zac (by rfl) (by rfl) hF (by simp [int,ints,Nett.cells]) ?_
  simp +decide [int,ints,Nett.cells];refine zac (by rfl) (by rfl) hB (by simp [int,ints,Nett.cells]) ?_
  simp +decide [int,ints,Nett.cells,hll,hg,hlk,hlk',I64];exact ⟨⟨by omega,by omega⟩,k+1,hlk,by omega,by omega,hms⟩
 ·have:k=n.states.toNat:=by omega
  have hlk':¬(k:Int)<n.states:=by omega
  rw [← z8c,← this];simp +decide [int,ints,Nett.cells,hlk',za7]
def zdk (n:Nett) (cs:List Int) (k:Nat):List Int:=((List.range k).map fun (i:Nat)=>(i:Int)+1).filter fun c=>zi2 n.states.toNat (zaw n.steps (runS n.steps cs) c) (znz n)
theorem zyb (n:Nett) (cs:List Int) (k:Nat):zdk n cs (k+1)=zdk n cs k++(if zi2 n.states.toNat (zaw n.steps (runS n.steps cs) ((k:Int)+1)) (znz n)=true then [(k:Int)+1] else []):=by
 unfold zdk
 rw [List.range_succ,List.map_append,List.filter_append]
 congr 1
 by_cases h:zi2 n.states.toNat (zaw n.steps (runS n.steps cs) ((k:Int)+1)) (znz n)=true
 ·simp [h]
 ·simp [h]
theorem zrb (n:Nett) (cs:List Int) (k:Nat):(zdk n cs k).length≤k:=by
 unfold zdk
 refine Nat.le_trans (List.length_filter_le ..) ?_
 simp
set_option maxHeartbeats 16000000 in
theorem z1z (n:Nett) (hn:NetL n) (cs:List Int) (hc:cs.length<2^40):zam Tryz.prog 161 [.agg n.cells,ints cs] (ints (zdk n cs 20)):=by
 have h1:=hn.lo
 have h3:=hn.hi
 refine zaa mixed Tryz.func161 rfl call_161 ?_
 simp +decide [Tryz.f161,Nett.cells,int,ints]
 refine zaj.pure (by rfl) (zra n hn cs hc) (by simp [int,ints,Nett.cells]) ?_
 simp +decide [Nett.cells,int,ints]
 refine zaj.pure (by rfl) (ya9 n hn) (by simp [int,ints,Nett.cells]) ?_
 simp +decide [Nett.cells,int,ints,za7]
 refine zad mixed (fun k:Nat=>{n:=29,next:=3,slots:=[(2,.bp 0 0),(5,.ar 2),(6,.d (za7 (bls n.states.toNat (runS n.steps cs)))),(7,.d (za7 (bls n.states.toNat (znz n)))),(8,.d (int ((k:Int)+1)))],own:=[(0,.box 53 (n.cells.map .d)),(2,.arr 3 1 ((zdk n cs k).map fun n=>[int n]))],moved:=[2]})
  (fun k=>k≤20) (fun k=>20-k) 0 (by simp) (by simp +decide [int,ints,Nett.cells,za7,zdk]) ?_
 intro k hk
 by_cases hlk:k<20
 ·have hlk':(k:Int)+1≤20:=by omega
  have hsn:=zyb n cs k;have hll:=zrb n cs k;have hA:=zuj n hn (runS n.steps cs) ((k:Int)+1);rw [zq9 hn _ (by omega)] at hA
  have hB:=zq8 n.states.toNat (zaw n.steps (runS n.steps cs) ((k:Int)+1)) (znz n) (by omega)
  simp +decide [int,ints,Nett.cells,za7,hlk'];refine zaj.pure (by rfl) hA (by simp [int,ints,Nett.cells,za7]) ?_
  simp +decide [int,ints,Nett.cells,za7];refine zaj.pure (by rfl) hB (by simp [int,ints,Nett.cells,za7]) ?_
  cases hb:zi2 n.states.toNat (zaw n.steps (runS n.steps cs) ((k:Int)+1)) (znz n) with
  | false=>
   rw [if_neg (by rw [hb];decide),List.append_nil] at hsn
   simp +decide [int,ints,Nett.cells,I64];exact ⟨⟨by omega,by omega⟩,k+1,hlk,by omega,by omega,by rw [hsn]⟩
  | true=>
   rw [if_pos hb] at hsn;simp +decide [int,ints,Nett.cells,I64];exact ⟨by omega,by unfold maxLen;omega,⟨by omega,by omega⟩,k+1,hlk,by omega,by omega,by rw [hsn];simp⟩
 ·have:k=20:=by omega
  subst this;simp +decide [int,ints,Nett.cells]
end Go.V
namespace Go.V
open Go Go.Proofs
theorem yba (m:Nat) (q:Int) (j:Nat):(zft m q).testBit j=(m.testBit j || decide (q.toNat=j)):=by unfold zft;exact zi9 m q.toNat j
theorem zuk (m:Nat) (c:Int) (j:Nat) : ∀ (l:List Stp) (out:Nat),(l.foldl (zfg m c) out).testBit j=(out.testBit j || l.any fun x=>m.testBit x.src.toNat&&(decide (c=0) || decide (x.cls=c))&&decide (x.dst.toNat=j))
 | [],out=>by simp
 | x::l,out=>by
  rw [List.foldl_cons,zuk m c j l,List.any_cons];unfold zfg hasS;by_cases h:m.testBit x.src.toNat=true∧(c=0∨x.cls=c)
  ·rw [if_pos h,yba,h.1]
   have:(decide (c=0) || decide (x.cls=c))=true:=by rcases h.2 with e | e <;> simp [e]
   rw [this,Bool.and_true,Bool.true_and,Bool.or_assoc]
  ·rw [if_neg h]
   have:(m.testBit x.src.toNat&&(decide (c=0) || decide (x.cls=c)))=false:=by
    cases hb:m.testBit x.src.toNat with
    | false=>rfl
    | true=>
     rw [Bool.true_and];have h2:¬(c=0∨x.cls=c):=fun e=>h ⟨hb,e⟩
     simp only [Bool.or_eq_false_iff,decide_eq_false_iff_not];exact ⟨fun e=>h2 (.inl e),fun e=>h2 (.inr e)⟩
   rw [this,Bool.false_and,Bool.false_or]
theorem zex (l:List Stp) (m:Nat) (c:Int) (j:Nat):(zb9 l m c).testBit j=l.any fun x=>m.testBit x.src.toNat&&(decide (c=0) || decide (x.cls=c))&&decide (x.dst.toNat=j):=by
 unfold zb9;rw [zuk];simp
def z8d (s0 s1 s2 m:Nat):Nat:=(if m.testBit 0=true then s0 else 0) ||| (if m.testBit 1=true then s1 else 0) ||| (if m.testBit 2=true then s2 else 0)
def zhg (s0 s1 s2:Nat):Nat→Nat→Nat
 | 0,m=>m
 | k+1,m=>z8d s0 s1 s2 (zhg s0 s1 s2 k m) ||| zhg s0 s1 s2 k m
theorem yiu : ∀ s0 m:Fin 2,z8d s0.val 0 0 (zhg s0.val 0 0 1 m.val) ||| zhg s0.val 0 0 1 m.val=zhg s0.val 0 0 1 m.val:=by decide +kernel
theorem closed2 : ∀ s0 s1 m:Fin 4,z8d s0.val s1.val 0 (zhg s0.val s1.val 0 2 m.val) ||| zhg s0.val s1.val 0 2 m.val=zhg s0.val s1.val 0 2 m.val:=by decide +kernel
theorem yiv : ∀ s0 s1 s2 m:Fin 8,z8d s0.val s1.val s2.val (zhg s0.val s1.val s2.val 3 m.val) ||| zhg s0.val s1.val s2.val 3 m.val=zhg s0.val s1.val s2.val 3 m.val:=by decide +kernel
theorem zn0 (q j:Nat):(1 <<< q).testBit j=decide (q=j):=by rw [Nat.one_shiftLeft,Nat.testBit_two_pow]
def zku (l:List Stp) (q:Nat):Nat:=zb9 l (1 <<< q) 0
theorem zrd (l:List Stp) (hl : ∀ x∈l,0≤x.src∧x.src<3) (m:Nat):zb9 l m 0=z8d (zku l 0) (zku l 1) (zku l 2) m:=by
 apply Nat.eq_of_testBit_eq
 intro j
 have hb : ∀ q,(zku l q).testBit j=l.any fun x=>decide (q=x.src.toNat)&&decide (x.dst.toNat=j):=by
  intro q;unfold zku;rw [zex];congr 1
  funext x
  rw [zn0];simp
 have hi : ∀ q,(if m.testBit q=true then zku l q else 0).testBit j=(m.testBit q&&l.any fun x=>decide (q=x.src.toNat)&&decide (x.dst.toNat=j)):=by
  intro q;cases h:m.testBit q with
  | true=>rw [if_pos rfl,hb];rfl
  | false=>rw [if_neg (by decide)];simp
 unfold z8d
 rw [Nat.testBit_or,Nat.testBit_or,hi,hi,hi,zex,Bool.eq_iff_iff]
 simp only [Bool.or_eq_true,Bool.and_eq_true,List.any_eq_true,decide_eq_true_eq]
 constructor
 ·rintro ⟨x,hx,⟨h1,_⟩,h3⟩
  have h4:=hl x hx;have:x.src.toNat=0∨x.src.toNat=1∨x.src.toNat=2:=by omega
  rcases this with e | e | e
  ·rw [e] at h1;exact .inl (.inl ⟨h1,x,hx,e.symm,h3⟩)
  ·rw [e] at h1;exact .inl (.inr ⟨h1,x,hx,e.symm,h3⟩)
  ·rw [e] at h1;exact .inr ⟨h1,x,hx,e.symm,h3⟩
 ·rintro ((⟨h,x,hx,e,h3⟩ | ⟨h,x,hx,e,h3⟩) | ⟨h,x,hx,e,h3⟩) <;> exact ⟨x,hx,⟨by rw [← e];exact h,by simp⟩,h3⟩
theorem zyc (l:List Stp) (hl : ∀ x∈l,0≤x.src∧x.src<3) (m:Nat) : ∀ k,zcg l k m=zhg (zku l 0) (zku l 1) (zku l 2) k m
 | 0=>rfl
 | k+1=>by unfold zcg zhg;rw [zyc l hl m k,zrd l hl]
theorem ybb {m S:Nat} (h : ∀ j,m.testBit j=true→j<S):m<2^S:=by
 apply Nat.lt_pow_two_of_testBit
 intro j hj
 cases hb:m.testBit j with
 | false=>rfl
 | true=>exact absurd (h j hb) (by omega)
theorem z14 {n:Nett} (hn:NetL n) (q:Nat):zku n.steps q<2^n.states.toNat:=by
 apply ybb
 intro j hj
 unfold zku at hj
 rw [zex,List.any_eq_true] at hj
 obtain ⟨x,hx,h⟩:=hj
 simp only [Bool.and_eq_true,decide_eq_true_eq] at h
 have:=(hn.steps x hx).2.1
 omega
theorem zyd {n:Nett} (hn:NetL n) {q:Nat} (hq:n.states.toNat≤q):zku n.steps q=0:=by
 apply Nat.eq_of_testBit_eq
 intro j
 rw [Nat.zero_testBit]
 unfold zku
 rw [zex,List.any_eq_false]
 intro x hx h
 rw [zn0] at h
 simp only [Bool.and_eq_true,decide_eq_true_eq] at h
 have:=(hn.steps x hx).1
 omega
theorem zv9 {n:Nett} (hn:NetL n) {m:Nat} (hm:m<2^n.states.toNat):zb9 n.steps (zcg n.steps n.states.toNat m) 0 ||| zcg n.steps n.states.toNat m=zcg n.steps n.states.toNat m:=by
 have hl : ∀ x∈n.steps,0≤x.src∧x.src<3:=fun x hx=>by have:=(hn.steps x hx).1;have:=hn.hi;omega
 rw [zrd _ hl,zyc _ hl]
 have h0:=z14 hn 0
 have h1:=z14 hn 1
 have h2:=z14 hn 2
 have hS:n.states.toNat=1∨n.states.toNat=2∨n.states.toNat=3:=by have:=hn.lo;have:=hn.hi;omega
 have z1:=fun h=>zyd hn (q:=1) h
 have z2:=fun h=>zyd hn (q:=2) h
 generalize zku n.steps 0=s0 at *
 generalize zku n.steps 1=s1 at *
 generalize zku n.steps 2=s2 at *
 rcases hS with e | e | e
 ·rw [e] at h0 hm z1 z2 ⊢
  rw [z1 (by omega),z2 (by omega)]
  exact yiu ⟨s0,h0⟩ ⟨m,hm⟩
 ·rw [e] at h0 h1 hm z2 ⊢
  rw [z2 (by omega)]
  exact closed2 ⟨s0,h0⟩ ⟨s1,h1⟩ ⟨m,hm⟩
 ·rw [e] at h0 h1 h2 hm ⊢
  exact yiv ⟨s0,h0⟩ ⟨s1,h1⟩ ⟨s2,h2⟩ ⟨m,hm⟩
def Sub (a b:Nat):Prop:=∀ j,a.testBit j=true→b.testBit j=true
theorem ybc {l:List Stp} {a b:Nat} {c:Int} (h:Sub a b):Sub (zb9 l a c) (zb9 l b c):=by
 intro j hj
 rw [zex,List.any_eq_true] at hj ⊢
 obtain ⟨x,hx,h1⟩:=hj
 simp only [Bool.and_eq_true] at h1 ⊢
 exact ⟨x,hx,⟨h _ h1.1.1,h1.1.2⟩,h1.2⟩
theorem zlh (l:List Stp) (m:Nat) : ∀ k,Sub m (zcg l k m)
 | 0=>fun _ h=>h
 | k+1=>fun j h=>by unfold zcg;rw [Nat.testBit_or,zlh l m k j h,Bool.or_true]
theorem zre {l:List Stp} {m R:Nat} (h:Sub m R) (hc:zb9 l R 0 ||| R=R) : ∀ k,Sub (zcg l k m) R
 | 0=>h
 | k+1=>fun j hj=>by
  unfold zcg at hj;rw [Nat.testBit_or,Bool.or_eq_true] at hj;rcases hj with hj | hj
  ·have:=ybc (zre h hc k) j hj
   rw [← hc,Nat.testBit_or,this,Bool.true_or]
  ·exact zre h hc k j hj
theorem sub_one {m q:Nat} (h:m.testBit q=true):Sub (1 <<< q) m:=by
 intro j hj
 rw [zn0,decide_eq_true_eq] at hj
 rw [← hj];exact h
theorem zul (q:Nat):zft 0 (q:Int)=1 <<< q:=by unfold zft;simp
theorem yki {q S:Nat} (h:q<S):1 <<< q<2^S:=ybb fun j hj=>by rw [zn0,decide_eq_true_eq] at hj;omega
theorem ybd {n:Nett} (hn:NetL n) {x:Stp} (hx:x∈n.steps) (h:endB n x.dst.toNat=true):endB n x.src.toNat=true:=by
 obtain ⟨⟨s1,s2⟩,⟨d1,d2⟩,_⟩:=hn.steps x hx
 unfold endB at h ⊢
 rw [zul] at h ⊢
 unfold zi2 at h ⊢
 rw [List.any_eq_true] at h ⊢
 obtain ⟨j,hj,h1⟩:=h
 rw [Bool.and_eq_true] at h1
 refine ⟨j,hj,?_⟩
 rw [Bool.and_eq_true]
 refine ⟨?_,h1.2⟩
 have hcl:=zv9 hn (yki (S:=n.states.toNat) (q:=x.src.toNat) (by omega))
 have hself:=zlh n.steps (1 <<< x.src.toNat) n.states.toNat x.src.toNat (by rw [zn0];simp)
 generalize zcg n.steps n.states.toNat (1 <<< x.src.toNat)=R at hcl hself ⊢
 refine zre (R:=R) (sub_one ?_) hcl n.states.toNat j h1.1
 rw [← hcl,Nat.testBit_or,zex,Bool.or_eq_true]
 left
 rw [List.any_eq_true]
 exact ⟨x,hx,by simp [hself]⟩
theorem zye {n:Nett} {q:Nat} (h:q<n.states.toNat):(znz n).testBit q=endB n q:=by
 unfold znz
 rw [zv8]
 simp [h]
def Dead (n:Nett) (s:Nat):Prop:=zi2 n.states.toNat s (znz n)=false
theorem zwa {n:Nett} {s:Nat}:Dead n s↔∀ q,q<n.states.toNat→s.testBit q=true→endB n q=false:=by
 unfold Dead zi2
 rw [List.any_eq_false]
 constructor
 ·intro h q hq hs
  have:=h q (List.mem_range.2 hq)
  rw [hs,Bool.true_and,zye hq] at this;simpa using this
 ·intro h q hq
  have hq:=List.mem_range.1 hq;cases hs:s.testBit q with
  | false=>simp
  | true=>rw [zye hq,h q hq hs];simp
theorem z8e {n:Nett} (hn:NetL n) {s:Nat} (hs:s<2^n.states.toNat) (h:Dead n s) {c:Int} (hc:1≤c):Dead n (zaw n.steps s c):=by
 rw [zwa] at h ⊢
 intro q hq hb
 rw [← zq9 hn s hc,zex,List.any_eq_true] at hb
 obtain ⟨x,hx,h1⟩:=hb
 simp only [Bool.and_eq_true,decide_eq_true_eq] at h1
 cases he:endB n q with
 | false=>rfl
 | true=>
  rw [← h1.2] at he;have h2:=ybd hn hx he;have:=(hn.steps x hx).1
  rw [h x.src.toNat (by omega) h1.1.1] at h2
  cases h2
theorem zum {n:Nett} (hn:NetL n) {s:Nat} (hs:s<2^n.states.toNat) (h:Dead n s):s &&& zbe n.final=0:=by
 rw [zwa] at h
 apply Nat.eq_of_testBit_eq
 intro j
 rw [Nat.zero_testBit,Nat.testBit_and]
 cases hb:s.testBit j with
 | false=>rfl
 | true=>
  rw [Bool.true_and];cases hf:(zbe n.final).testBit j with
  | false=>rfl
  | true=>
   have hj:j<n.states.toNat:=by
    rcases Nat.lt_or_ge j n.states.toNat with h' | h'
    ·exact h'
    ·have h1:=Nat.testBit_lt_two_pow (i:=j) (Nat.lt_of_lt_of_le hs (Nat.pow_le_pow_right (by omega) h'))
     rw [h1] at hb;cases hb
   have h2:=h j hj hb;unfold endB zi2 at h2;rw [List.any_eq_false] at h2;have h3:=h2 j (List.mem_range.2 hj);rw [zul,zlh _ _ _ j (by rw [zn0];simp),hf] at h3
   exact absurd rfl h3
end Go.V
namespace Go.V
open Go Go.Proofs Go.RowKit Go.WideShapes
mutual
def Cap (M:Nat):D→Prop
 | .str b=>b.size≤M
 | .sl l=>l.length≤M∧CapR M l
 | _=>True
def CapR (M:Nat):List (List D)→Prop
 | []=>True
 | r::rs=>Caps M r∧CapR M rs
def Caps (M:Nat):List D→Prop
 | []=>True
 | d::ds=>Cap M d∧Caps M ds
end
def CapT (M:Nat):D→Prop
 | .agg l=>Caps M l
 | d=>Cap M d
theorem yiw {M:Nat} {d:D} (h:Cap M d):(∀ l,d≠.agg l)→CapT M d:=by
 intro hn
 cases d <;> first | exact h | exact absurd rfl (hn _)
theorem Caps.app {M:Nat} : ∀ {a b:List D},Caps M a→Caps M b→Caps M (a++b)
 | [],b,_,h=>h
 | d::a,b,h,h'=>by
  simp only [Caps,List.cons_append] at h ⊢;exact ⟨h.1,Caps.app h.2 h'⟩
theorem ybe {M:Nat} : ∀ {l:List (List D)},(∀ i (h:i<l.length),Caps M l[i])→CapR M l
 | [],_=>by simp [CapR]
 | r::rs,h=>by
  simp only [CapR];exact ⟨h 0 (by simp),ybe fun i hi=>h (i+1) (by simp;omega)⟩
structure BulkFn {H:Type} (bulk:DataW H→Nat):Prop where
 str : ∀ bytes,bytes.length≤bulk (.lit (.string bytes))
 sl : ∀ es rest,es.length≤bulk (.slice es rest)
 el : ∀ es rest e,e∈es→bulk e≤bulk (.slice es rest)
 part : ∀ ps p,p∈ps→bulk p≤bulk (.agg ps)
section
variable {H:Type} {enc:TypeId×Value→H} {P:Program} {w:World} {base:Nat} {spare:Nat→Bool} {held:Bool} {bulk:DataW H→Nat}
theorem zun {g:Nat→Option (List Sh)} {m:Nat} {cs:List Value} {M:Nat}
  (hg : ∀ (f:Field) (l:List Sh),g f.type=some l→∀ x,DataW.trod enc P w base spare held m f.type ((cs.drop f.offset).take (P.cellsOf f.type))=some x→bulk x.1≤M→∃ ds,zbo ds l∧Caps M ds∧zah w Ez ds ((cs.drop f.offset).take (P.cellsOf f.type))) :
  ∀ (fs:List Field) (off:Nat) (shs:List Sh),zqs g P fs off=some shs→off+shs.length=cs.length →
   (∀ f∈fs,∃ x,DataW.trod enc P w base spare held m f.type ((cs.drop f.offset).take (P.cellsOf f.type))=some x∧bulk x.1≤M)→∃ ds,zbo ds shs∧Caps M ds∧zah w Ez ds (cs.drop off)
 | [],off,shs,h,hl,_=>by
  simp only [zqs,Option.some.injEq] at h;subst h;simp at hl
  exact ⟨[],by simp [zbo],by simp [Caps],by simp [zah,List.drop_eq_nil_of_le,hl]⟩
 | f::r,off,shs,h,hl,ht=>by
  simp only [zqs] at h;split at h
  ·rename_i ho
   split at h
   ·rename_i l hgl
    split at h
    ·rename_i hlen
     split at h
     ·rename_i m' hm
      cases h;obtain ⟨x,hx,hxm⟩:=ht f (by simp)
      obtain ⟨ds,hd1,hdc,hd2⟩:=hg f l hgl x hx hxm;obtain ⟨ds',hd1',hdc',hd2'⟩:=zun hg r (off+l.length) m' hm (by simp at hl;omega) fun f' hf'=>ht f' (by simp [hf'])
      refine ⟨ds++ds',hd1.app hd1',hdc.app hdc',?_⟩
      have e:cs.drop off=(cs.drop off).take (P.cellsOf f.type)++cs.drop (off+l.length):=by
       rw [hlen,← List.drop_drop,List.take_append_drop]
      rw [e];subst ho;exact hd2.app hd2'
     ·cases h
    ·cases h
   ·cases h
  ·cases h
theorem zwb (hB:BulkFn bulk) {M:Nat} : ∀ (fuel n t:Nat) (shs:List Sh) (cs:List Value) (x:DataW H×List MemPlace),shapes P n t=some shs→DataW.trod enc P w base spare held fuel t cs=some x→bulk x.1≤M →
  ∃ ds,zbo ds shs∧Caps M ds∧zah w Ez ds cs
 | 0,_,_,_,_,_,_,h,_=>by simp [DataW.trod] at h
 | fuel+1,n,t,shs,cs,x,hs,h,hM=>by
  cases n with
  | zero=>simp [shapes] at hs
  | succ n=>
  simp only [shapes] at hs;split at hs
  ·rename_i k ht
   cases hs;obtain ⟨m,rfl,_,hw⟩:=DataW.trod_int ht h;exact ⟨[.int k m],by simp [zbo,FitD,hw],by simp [Caps,Cap],by simp only [zah,R];exact ⟨_,_,rfl,rfl,rfl,rfl⟩⟩
  ·rename_i ht
   cases hs;obtain ⟨b,rfl,_⟩:=DataW.trod_bool ht h;exact ⟨[.bool b],by simp [zbo,FitD],by simp [Caps,Cap],by simp only [zah,R];exact ⟨_,_,rfl,rfl,rfl,rfl⟩⟩
  ·rename_i ht
   cases hs;obtain ⟨s,rfl,rfl,hw⟩:=DataW.trod_string ht h;have hsz:=hB.str s.data.toList;have e0:s.data.toList.length=s.size:=by rw [Array.length_toList];rfl
   exact ⟨[.str s],by simp [zbo,FitD,hw],by simp only [Caps,Cap,and_true];simp only at hM;omega,by simp only [zah,R];exact ⟨_,_,rfl,rfl,rfl,rfl⟩⟩
  ·rename_i e ht
   split at hs
   ·rename_i l hl
    split at hs
    ·rename_i hlen
     cases hs;rcases DataW.trod_slice ht h with ⟨rfl,_⟩ | ⟨a,len,cap,elems,rest,m,hm,rfl,rfl,_,hlc,hcm,hel,helem,_⟩
     ·exact ⟨[.sl []],by simp [zbo,FitD,zqr],by simp [Caps,Cap,CapR],by simp only [zah,R];exact ⟨_,_,rfl,rfl,⟨none,0,rfl,by simp,by simp,fun _=>rfl,fun h=>absurd rfl h⟩,rfl⟩⟩
     ·cases hm
      have cellf : ∀ i,i<len→∃ cs' x',w.cells? base (a.add (i*P.cellsOf e)) (P.cellsOf e)=some cs'∧DataW.trod enc P w base spare held fuel e cs'=some x'∧bulk x'.1≤M:=by
       intro i hi;have h1:=helem i hi;have h2:elems[i]?=some (elems[i]'(by omega)):=List.getElem?_eq_getElem (by omega)
       rw [h2,Option.bind_eq_some_iff] at h1;obtain ⟨cs',hc1,hc2⟩:=h1;exact ⟨cs',_,hc1,hc2,Nat.le_trans (hB.el _ _ _ (List.mem_map.mpr ⟨_,List.getElem_mem _,rfl⟩)) hM⟩
      have hspot:0<len→a.spot=none∧a.block<w.heap.size:=by
       intro hp;obtain ⟨cs',_,hc1,_,_⟩:=cellf 0 hp;obtain ⟨_,hcl,hcell⟩:=World.cells?_some hc1;have c0:=hcell 0 (by omega)
       have:cs'[0]?=some (cs'[0]'(by omega)):=List.getElem?_eq_getElem (by omega)
       rw [this] at c0;exact ⟨by simpa [Addr.add] using World.cell?_spot c0,by simpa [Addr.add] using cell_lt c0⟩
      have each : ∀ i,i<len→∃ ds,(zbo ds l∧Caps M ds)∧Rrow w Ez a.block ds (a.off+i*P.cellsOf e):=by
       intro i hi;obtain ⟨q3,q4⟩:=hspot (by omega)
       obtain ⟨cs',x',hc1,hc2,hxm⟩:=cellf i hi;obtain ⟨ds,hf,hfc,hr⟩:=zwb hB fuel n e l cs' _ hl hc2 hxm;obtain ⟨_,hcl,hcell⟩:=World.cells?_some hc1;refine ⟨ds,⟨hf,hfc⟩,zl8 hr fun j hj=>?_⟩
       have:=hcell j (by rw [hr.len] at hj;omega)
       rw [← this];obtain ⟨ab,ao,asp⟩:=a;subst q3;rw [add_plain,add_plain]
      obtain ⟨rows,hrl,hrow⟩:=yaj len each;have hbl:=hB.sl (elems.map (·.1)) (rest.map (·.1));rw [List.length_map] at hbl;refine ⟨[.sl rows],by simp [zbo,FitD,hrl,z4z fun i hi=>(hrow i hi).1.1];omega,by simp only [Caps,Cap,and_true];exact ⟨by simp only at hM;omega,ybe fun i hi=>(hrow i hi).1.2⟩,?_⟩
      simp only [zah,R];refine ⟨_,_,rfl,rfl,⟨some a,cap,by rw [hrl],by omega,hcm,fun h=>by simp at h,fun hne=>?_⟩,rfl⟩
      have h0:0<rows.length:=List.length_pos_iff.2 hne
      obtain ⟨q1,q2⟩:=hrow 0 h0;obtain ⟨q3,q4⟩:=hspot (by omega)
      have hsz:rowLen rows=P.cellsOf e:=by
       cases hr:rows with
       | nil=>exact absurd hr hne
       | cons r rs => 
        subst hr;simp only [rowLen];have:=q1.1.len
        simp at this
        omega
      refine ⟨a.block,a.off,?_,fun h=>h,q4,?_⟩
      ·obtain ⟨ab,ao,asp⟩:=a
       subst q3;rfl
      ·rw [hsz]
       exact z4y fun i hi=>⟨by rw [(hrow i hi).1.1.len];exact hlen.1,(hrow i hi).2⟩
    ·cases hs
   ·cases hs
  ·rename_i fs ht
   split at hs
   ·rename_i l hl
    split at hs
    ·rename_i hlen
     cases hs;obtain ⟨xs,m,hm,hxe,hcl,hxl,hx⟩:=DataW.trod_struct ht h;cases hm;have:=zun (bulk:=bulk) (M:=M) (g:=shapes P n) (m:=fuel) (cs:=cs) (P:=P) (w:=w) (enc:=enc) (base:=base) (spare:=spare) (held:=held) (fun f l' hf x hx hxm=>zwb hB fuel n f.type l' _ x hf hx hxm) fs.toList 0 shs hl (by omega) ?_
     ·simpa using this
     ·intro f hf
      obtain ⟨i,hi,rfl⟩:=List.getElem_of_mem hf;have h1:=hx i fs[i] (by simp at hi;simp [hi])
      rw [List.getElem?_eq_getElem (by simp at hi;omega)] at h1
      refine ⟨_,by simpa using h1,Nat.le_trans (hB.part _ _ (List.mem_map.mpr ⟨_,List.getElem_mem _,rfl⟩)) (by rw [hxe] at hM;exact hM)⟩
    ·cases hs
   ·cases hs
  ·cases hs
theorem yix (hB:BulkFn bulk) {M:Nat} {n t:Nat} {v:Value} {d:DataW H} {ps:List MemPlace} {r:Reach} {b0:Nat} (hs:(shapes P n t).isSome=true) (hv:Value.okWide P w r b0 t v) (h:DataW.Trod enc P w base spare held t v d ps) (hM:bulk d≤M) :
  ∃ x,FitT P n t x∧CapT M x∧R w Ez x v:=by
 obtain ⟨fuel,hf⟩:=h
 cases hq:shapes P n t with
 | none=>simp [hq] at hs
 | some shs=>
 obtain ⟨ds,h1,hc,h2⟩:=zwb hB fuel n t shs _ _ hq hf hM
 unfold FitT
 cases n with
 | zero=>simp [shapes] at hq
 | succ n=>
 have hq0:=hq
 simp only [shapes] at hq
 have scalar : ∀ s,shs=[s]→v.cells = #[v]→∃ x,(FitD x s∧CapT M x)∧R w Ez x v:=by
  intro s e hcc;subst e;rw [hcc] at h2;cases ds with
  | nil=>simp [zbo] at h1
  | cons d ds=>
   simp only [zah] at h2;obtain ⟨u,us,e,_,hr,_⟩:=h2;simp only [zbo] at h1;obtain ⟨s',r',e',hfit,_⟩:=h1;cases e'
   simp at e
   obtain ⟨rfl,rfl⟩:=e;simp only [Caps] at hc;exact ⟨d,⟨hfit,yiw hc.1 (by intro l e;subst e;simp [FitD] at hfit)⟩,hr⟩
 split at hq
 ·rename_i k ht
  cases hq;obtain ⟨m,rfl⟩:=okWide_int ht hv;obtain ⟨x,hx⟩:=scalar _ rfl rfl;exact ⟨x,by rw [ht];exact ⟨_,hq0,hx.1.1⟩,hx.1.2,hx.2⟩
 ·rename_i ht
  cases hq;obtain ⟨m,rfl⟩:=okWide_bool ht hv;obtain ⟨x,hx⟩:=scalar _ rfl rfl;exact ⟨x,by rw [ht];exact ⟨_,hq0,hx.1.1⟩,hx.1.2,hx.2⟩
 ·rename_i ht
  cases hq;obtain ⟨m,rfl⟩:=okWide_string ht hv;obtain ⟨x,hx⟩:=scalar _ rfl rfl;exact ⟨x,by rw [ht];exact ⟨_,hq0,hx.1.1⟩,hx.1.2,hx.2⟩
 ·rename_i e ht
  split at hq
  ·split at hq
   ·cases hq
    obtain ⟨a,len,cap,rfl⟩:=okWide_slice ht hv;obtain ⟨x,hx⟩:=scalar _ rfl rfl;exact ⟨x,by rw [ht];exact ⟨_,hq0,hx.1.1⟩,hx.1.2,hx.2⟩
   ·cases hq
  ·cases hq
 ·rename_i fs ht
  obtain ⟨cs,rfl,_⟩:=okWide_struct ht hv;refine ⟨.agg ds,by rw [ht];exact ⟨ds,shs,rfl,hq0,h1⟩,by simp only [CapT];exact hc,?_⟩
  simp only [R];exact ⟨cs.toList,by simp,h2⟩
 ·cases hq
theorem zwc (hB:BulkFn bulk) {M:Nat} {n:Nat} {r:Reach} {b0:Nat} : ∀ {ts:List Nat} {vs:List Value} {ds:List (DataW H)} {ps:List MemPlace},(∀ t∈ts,(shapes P n t).isSome=true) →
  (∀ (j:Nat) (t:Nat) (v:Value),ts[j]?=some t→vs[j]?=some v→Value.okWide P w r b0 t v)→DataW.TrodAll enc P w base spare held ts vs ds ps→(∀ d∈ds,bulk d≤M)→∃ xs,zi6 P n ts xs∧(∀ x∈xs,CapT M x)∧zbd w Ez xs vs
 | [],vs,ds,ps,_,_,h,_=>by
  cases vs with
  | nil=>exact ⟨[],by simp [zi6],by simp,by simp [zbd]⟩
  | cons v vs=>cases ds <;> simp [DataW.TrodAll] at h
 | t::ts,vs,ds,ps,hs,hv,h,hM=>by
  cases vs with
  | nil=>cases ds <;> simp [DataW.TrodAll] at h
  | cons v vs=>
   cases ds with
   | nil=>simp [DataW.TrodAll] at h
   | cons d ds=>
    simp only [DataW.TrodAll] at h;obtain ⟨p,q,h1,h2,_⟩:=h;obtain ⟨x,hx1,hxc,hx2⟩:=yix hB (hs t (by simp)) (hv 0 t v rfl rfl) h1 (hM d (by simp))
    obtain ⟨xs,hy1,hyc,hy2⟩:=zwc hB (ts:=ts) (fun t ht=>hs t (by simp [ht])) (fun j t v h h'=>hv (j+1) t v (by simpa using h) (by simpa using h')) h2 (fun d hd=>hM d (by simp [hd]))
    exact ⟨x::xs,by simp only [zi6];exact ⟨x,xs,rfl,hx1,hy1⟩,by intro z hz;rcases List.mem_cons.mp hz with e | e;rw [e];exact hxc;exact hyc z e,by simp only [zbd];exact ⟨v,vs,rfl,hx2,hy2⟩⟩
end
end Go.V
namespace Go.V
open Go Go.Proofs Go.Lib
def zar (s:ByteArray) (k:Nat):Nat:=(s.data.toList.getD k 0).toNat
theorem zda (s:ByteArray) (k:Nat):byteAt s (k:Int)=(zar s k:Int):=by simp [byteAt,zar]
theorem wrap_u8 (n:Int):IntKind.wrap .u8 n=n%256:=by
 simp [IntKind.wrap,IntKind.bits,IntKind.signed]
theorem ztm {n:Int} {m:Nat} (h:n=(m:Int)):UInt8.ofNat (IntKind.wrap .u8 n).toNat=UInt8.ofNat m:=by
 subst h
 apply UInt8.toNat_inj.1
 rw [wrap_u8]
 simp only [UInt8.toNat_ofNat']
 omega
theorem wrap_i64 {n:Int} (h:I64 n):IntKind.wrap .i64 n=n:=by
 obtain ⟨h1,h2⟩:=h
 simp [IntKind.wrap,IntKind.bits,IntKind.signed]
 split <;> omega
theorem zmi (s:ByteArray) (k:Nat):IntKind.wrap .i64 (zar s k:Int)=(zar s k:Int):=by
 have:zar s k<256:=UInt8.toNat_lt _
 exact wrap_i64 ⟨by omega,by omega⟩
theorem zmj (p:Nat):zam Tryz.prog 195 [int p] (.bool (decide (zea p))):=by
 refine zaa mixed Tryz.func195 rfl call_195 ?_
 by_cases h1:(p:Int)≤1114111
 ·by_cases h2:(p:Int)<55296
  ·have:zea p:=⟨by omega,by omega⟩
   simp +decide [Tryz.f195,int,h1,h2,this]
  ·have h3:zea p↔(57343:Int)<p:=⟨fun h=>by have:=h.2;omega,fun h=>⟨by omega,by omega⟩⟩
   simp +decide [Tryz.f195,int,h1,h2,h3]
 ·have:¬ zea p:=fun h=>h1 (by have:=h.1;omega)
  simp +decide [Tryz.f195,int,h1,this]
def encS (p:Nat):ByteArray:=⟨((encR p).map UInt8.ofNat).toArray⟩
theorem z5o (p:Nat) (hp:p<2^40):zam Tryz.prog 196 [int p] (.str (encS p)):=by
 refine zaa mixed Tryz.func196 rfl call_196 ?_
 have t1:(p:Int).tmod 64=((p%64:Nat):Int):=rfl
 have t2:((p:Int)/64).tmod 64=((p/64%64:Nat):Int):=by rw [show (p:Int)/64=((p/64:Nat):Int) by omega];rfl
 have t3:((p:Int)/4096).tmod 64=((p/4096%64:Nat):Int):=by rw [show (p:Int)/4096=((p/4096:Nat):Int) by omega];rfl
 by_cases h1:p<128
 ·have h1':(p:Int)<128:=by omega
  simp +decide [Tryz.f196,int,h1',t1,t2,t3,zdh,bytesOf];rw [ztm (m:=p) (by omega)]
  simp [encS,encR,h1]
 have h1':¬(p:Int)<128:=by omega
 by_cases h2:p<2048
 ·have h2':(p:Int)<2048:=by omega
  simp +decide [Tryz.f196,int,h1',h2',t1,t2,t3,zdh,bytesOf,I64];rw [ztm (m:=192+p/64) (by omega),ztm (m:=128+p%64) (by omega)]
  refine ⟨by omega,by omega,by omega,?_⟩
  simp [encS,encR,h1,h2]
 have h2':¬(p:Int)<2048:=by omega
 by_cases h3:p<65536
 ·have h3':(p:Int)<65536:=by omega
  simp +decide [Tryz.f196,int,h1',h2',h3',t1,t2,t3,zdh,bytesOf,I64];rw [ztm (m:=224+p/4096) (by omega),ztm (m:=128+p/64%64) (by omega),ztm (m:=128+p%64) (by omega)]
  refine ⟨by omega,by omega,by omega,by omega,by omega,?_⟩
  simp [encS,encR,h1,h2,h3]
 have h3':¬(p:Int)<65536:=by omega
 simp +decide [Tryz.f196,int,h1',h2',h3',t1,t2,t3,zdh,bytesOf,I64]
 rw [ztm (m:=240+p/262144) (by omega),ztm (m:=128+p/4096%64) (by omega),ztm (m:=128+p/64%64) (by omega),ztm (m:=128+p%64) (by omega)]
 refine ⟨by omega,by omega,by omega,by omega,by omega,by omega,by omega,?_⟩
 simp [encS,encR,h1,h2,h3]
theorem bytes_inj {a b:ByteArray} (h:a.toList=b.toList):a=b:=by
 rw [← MapKept.bytes_beq,beq_toListBytes,beq_iff_eq];exact h
def accR (s:ByteArray) (at_ p0:Nat):Nat→Nat
 | 0=>p0
 | k+1=>accR s at_ p0 k*64+zar s (at_+(k+1))%64
theorem zrf {s:ByteArray} {at_ p0:Nat} (h:p0<256) : ∀ k,accR s at_ p0 k<256*64^k
 | 0=>by simpa [accR] using h
 | k+1=>by
  have:=zrf (s:=s) (at_:=at_) h k
  simp only [accR,Nat.pow_succ];omega
def bytes4 (s:ByteArray) (at_:Nat):List Nat:=[zar s at_,zar s (at_+1),zar s (at_+2),zar s (at_+3)]
theorem ybf (s:ByteArray) (at_ p0:Nat) : ∀ n,n≤4→zzq p0 ([zar s (at_+1),zar s (at_+2),zar s (at_+3)].take (n-1))=accR s at_ p0 (n-1)
 | 0,_=>rfl
 | 1,_=>rfl
 | 2,_=>rfl
 | 3,_=>rfl
 | 4,_=>rfl
theorem zmk : ∀ {a b:List UInt8},a.map UInt8.toNat=b.map UInt8.toNat→a=b
 | [],[],_=>rfl
 | [],_::_,h=>by simp at h
 | _::_,[],h=>by simp at h
 | x::a,y::b,h=>by
  simp only [List.map_cons,List.cons.injEq] at h;rw [UInt8.toNat_inj.1 h.1,zmk h.2]
theorem ybg {s:ByteArray} {at_ n:Nat} (hn:n≤4) (h:at_+n≤s.size):(s.extract at_ (at_+n)).data.toList.map UInt8.toNat=(bytes4 s at_).take n:=by
 have hsz:s.size=s.data.toList.length:=by rw [Array.length_toList];rfl
 have he:(s.extract at_ (at_+n)).data.toList=(s.data.toList.drop at_).take n:=by
  simp only [ByteArray.data_extract,Array.toList_extract,List.extract_eq_take_drop];congr 1;omega
 rw [he]
 apply List.ext_getElem?
 intro j
 rw [List.getElem?_map,List.getElem?_take,List.getElem?_take]
 by_cases hj:j<n
 ·rw [if_pos hj,if_pos hj,List.getElem?_drop,List.getElem?_eq_getElem (by omega)]
  have hb : ∀ k,(hk:k<s.data.toList.length)→(s.data.toList[k]'hk).toNat=zar s k:=fun k hk=>by simp [zar,List.getD,List.getElem?_eq_getElem hk]
  have hj4:j=0∨j=1∨j=2∨j=3:=by omega
  rw [Option.map_some,hb];rcases hj4 with rfl | rfl | rfl | rfl <;> rfl
 ·rw [if_neg hj,if_neg hj];rfl
theorem z8f (p:Nat):(encS p).data.toList.map UInt8.toNat=(encR p).map (· % 256):=by
 simp only [encS,List.map_map]
 apply List.map_congr_left
 intro b _
 simp
theorem z5p {s:ByteArray} {at_ n p:Nat} (hn:n≤4) (h:at_+n≤s.size):encS p=s.extract at_ (at_+n)↔(encR p).map (· % 256)=(bytes4 s at_).take n:=by
 rw [← z8f,← ybg hn h]
 constructor
 ·intro e;rw [e]
 ·intro e
  have:=zmk e
  have e2:(encS p).data=(s.extract at_ (at_+n)).data:=Array.ext' this
  cases hA:encS p;cases hB:s.extract at_ (at_+n)
  rw [hA,hB] at e2;simp only at e2;rw [e2]
def zuo (s:ByteArray) (at_:Nat):Option (Nat×Nat):=zr4 (s.size-at_) (zar s at_) (zar s (at_+1)) (zar s (at_+2)) (zar s (at_+3))
def zdb:Option (Nat×Nat)→D
 | none=>.tup [int (-1),int 0]
 | some r=>.tup [int r.1,int r.2]
theorem zml {s:ByteArray} {at_ p0 n:Nat} (hl:zfj (zar s at_)=(p0,n)) (hn:n≤4):zuo s at_=if s.size-at_<n then none else if zea (accR s at_ p0 (n-1))∧(encR (accR s at_ p0 (n-1))).map (· % 256)=(bytes4 s at_).take n then some (accR s at_ p0 (n-1),n) else none:=by
 unfold zuo zr4
 rw [hl]
 simp only
 rw [ybf s at_ p0 n hn]
 rfl
set_option maxHeartbeats 4000000 in
theorem yf0 (s:ByteArray) (at_:Nat) (hat:at_<s.size) (hs:s.size≤1048576):zam Tryz.prog 176 [.str s,int at_] (zdb (zuo s at_)):=by
 refine zaa mixed Tryz.func176 rfl call_176 ?_
 have hb:zar s at_<256:=UInt8.toNat_lt _
 have e0:=zda s at_
 have w0:=zmi s at_
 by_cases c4:240≤zar s at_
 ·have q4:(240:Int)≤zar s at_:=by omega
  have hl:zfj (zar s at_)=(zar s at_-240,4):=by simp [zfj,c4]
  rw [zml hl (by omega)]
  by_cases hsz:s.size-at_<4
  ·have g1:(s.size:Int)<(at_:Int)+4:=by omega
   rw [if_pos hsz];have ep0:(zar s at_:Int)-240=((zar s at_-240:Nat):Int):=by omega
   simp +decide [Tryz.f176,int,hat,e0,w0,q4,g1,I64,zdh,zdb,ep0];omega
  have g1:¬(s.size:Int)<(at_:Int)+4:=by omega
  rw [if_neg hsz];have hp0:zar s at_-240<256:=by omega
  have ep0:(zar s at_:Int)-240=((zar s at_-240:Nat):Int):=by omega
  simp +decide [Tryz.f176,int,hat,e0,w0,q4,g1,I64,zdh,ep0];refine ⟨by omega,⟨by omega,by omega⟩,?_⟩
  refine zad mixed (fun j:Nat=>{n:=65,next:=0,slots:=[(0,.d (.str s)),(1,.d (int at_)),(6,.d (int (accR s at_ (zar s at_-240) j))),(7,.d (int 4)),(8,.d (int (j+1)))],own:=[]})
   (fun j=>j+1≤4) (fun j=>4-j) 0 (by simp) (by simp +decide [int,accR]) ?_
  intro j hj;have hac:=zrf (s:=s) (at_:=at_) hp0 j;have hac2:accR s at_ (zar s at_-240) j<2^30:=Nat.lt_of_lt_of_le hac (Nat.le_trans (Nat.mul_le_mul_left _ (Nat.pow_le_pow_right (by omega) (show j≤3 by omega))) (by decide))
  by_cases hjn:j+1<4
  ·have k1:(j:Int)+1<4:=by omega
   have e1:byteAt s ((at_:Int)+((j:Int)+1))=(zar s (at_+(j+1)):Int):=zda s (at_+(j+1))
   have w1:=zmi s (at_+(j+1));have t1:(zar s (at_+(j+1)):Int).tmod 64=((zar s (at_+(j+1))%64:Nat):Int):=rfl
   simp +decide [int,k1,e1,w1,t1,I64,zdh];exact ⟨by omega,by omega,⟨by omega,by omega⟩,by omega,by omega,j+1,by omega,by omega,by simp only [accR];omega,by omega⟩
  ·obtain rfl:j=3:=by omega
   simp +decide [int,I64,zdh];generalize hq:accR s at_ (zar s at_-240) 3=q at hac2 ⊢;refine zac (by rfl) (by rfl) (zmj q) (by simp) ?_
   by_cases hsc:zea q
   case neg=>simp +decide [hsc,int,zdb]
   simp +decide [hsc,int];refine zac (by rfl) (by rfl) (z5o q (by omega)) (by simp) ?_
   have z1:((at_:Int)+4).toNat=at_+4:=by omega
   have he:=z5p (s:=s) (at_:=at_) (n:=4) (p:=q) (by omega) (by omega)
   by_cases hE:encS q=s.extract at_ (at_+4)
   ·simp +decide [hsc,int,z1,hE,he.1 hE,zdb,I64]
    omega
   ·have hE2:¬((encR q).map (· % 256)=(bytes4 s at_).take 4):=fun h=>hE (he.2 h)
    have hE3:¬(encS q).toList=(s.extract at_ (at_+4)).toList:=fun h=>hE (bytes_inj h)
    simp +decide [hsc,int,z1,hE2,hE3,zdb,I64];omega
 have q4:¬(240:Int)≤zar s at_:=by omega
 by_cases c3:224≤zar s at_
 ·have q3:(224:Int)≤zar s at_:=by omega
  have hl:zfj (zar s at_)=(zar s at_-224,3):=by simp [zfj,c4,c3]
  rw [zml hl (by omega)]
  by_cases hsz:s.size-at_<3
  ·have g1:(s.size:Int)<(at_:Int)+3:=by omega
   rw [if_pos hsz];have ep0:(zar s at_:Int)-224=((zar s at_-224:Nat):Int):=by omega
   simp +decide [Tryz.f176,int,hat,e0,w0,q4,q3,g1,I64,zdh,zdb,ep0];omega
  have g1:¬(s.size:Int)<(at_:Int)+3:=by omega
  rw [if_neg hsz];have hp0:zar s at_-224<256:=by omega
  have ep0:(zar s at_:Int)-224=((zar s at_-224:Nat):Int):=by omega
  simp +decide [Tryz.f176,int,hat,e0,w0,q4,q3,g1,I64,zdh,ep0];refine ⟨by omega,⟨by omega,by omega⟩,?_⟩
  refine zad mixed (fun j:Nat=>{n:=65,next:=0,slots:=[(0,.d (.str s)),(1,.d (int at_)),(6,.d (int (accR s at_ (zar s at_-224) j))),(7,.d (int 3)),(8,.d (int (j+1)))],own:=[]})
   (fun j=>j+1≤3) (fun j=>3-j) 0 (by simp) (by simp +decide [int,accR]) ?_
  intro j hj;have hac:=zrf (s:=s) (at_:=at_) hp0 j;have hac2:accR s at_ (zar s at_-224) j<2^30:=Nat.lt_of_lt_of_le hac (Nat.le_trans (Nat.mul_le_mul_left _ (Nat.pow_le_pow_right (by omega) (show j≤3 by omega))) (by decide))
  by_cases hjn:j+1<3
  ·have k1:(j:Int)+1<3:=by omega
   have e1:byteAt s ((at_:Int)+((j:Int)+1))=(zar s (at_+(j+1)):Int):=zda s (at_+(j+1))
   have w1:=zmi s (at_+(j+1));have t1:(zar s (at_+(j+1)):Int).tmod 64=((zar s (at_+(j+1))%64:Nat):Int):=rfl
   simp +decide [int,k1,e1,w1,t1,I64,zdh];exact ⟨by omega,by omega,⟨by omega,by omega⟩,by omega,by omega,j+1,by omega,by omega,by simp only [accR];omega,by omega⟩
  ·obtain rfl:j=2:=by omega
   simp +decide [int,I64,zdh];generalize hq:accR s at_ (zar s at_-224) 2=q at hac2 ⊢;refine zac (by rfl) (by rfl) (zmj q) (by simp) ?_
   by_cases hsc:zea q
   case neg=>simp +decide [hsc,int,zdb]
   simp +decide [hsc,int];refine zac (by rfl) (by rfl) (z5o q (by omega)) (by simp) ?_
   have z1:((at_:Int)+3).toNat=at_+3:=by omega
   have he:=z5p (s:=s) (at_:=at_) (n:=3) (p:=q) (by omega) (by omega)
   by_cases hE:encS q=s.extract at_ (at_+3)
   ·simp +decide [hsc,int,z1,hE,he.1 hE,zdb,I64]
    omega
   ·have hE2:¬((encR q).map (· % 256)=(bytes4 s at_).take 3):=fun h=>hE (he.2 h)
    have hE3:¬(encS q).toList=(s.extract at_ (at_+3)).toList:=fun h=>hE (bytes_inj h)
    simp +decide [hsc,int,z1,hE2,hE3,zdb,I64];omega
 have q3:¬(224:Int)≤zar s at_:=by omega
 by_cases c2:192≤zar s at_
 ·have q2:(192:Int)≤zar s at_:=by omega
  have hl:zfj (zar s at_)=(zar s at_-192,2):=by simp [zfj,c4,c3,c2]
  rw [zml hl (by omega)]
  by_cases hsz:s.size-at_<2
  ·have g1:(s.size:Int)<(at_:Int)+2:=by omega
   rw [if_pos hsz];have ep0:(zar s at_:Int)-192=((zar s at_-192:Nat):Int):=by omega
   simp +decide [Tryz.f176,int,hat,e0,w0,q4,q3,q2,g1,I64,zdh,zdb,ep0];omega
  have g1:¬(s.size:Int)<(at_:Int)+2:=by omega
  rw [if_neg hsz];have hp0:zar s at_-192<256:=by omega
  have ep0:(zar s at_:Int)-192=((zar s at_-192:Nat):Int):=by omega
  simp +decide [Tryz.f176,int,hat,e0,w0,q4,q3,q2,g1,I64,zdh,ep0];refine ⟨by omega,⟨by omega,by omega⟩,?_⟩
  refine zad mixed (fun j:Nat=>{n:=65,next:=0,slots:=[(0,.d (.str s)),(1,.d (int at_)),(6,.d (int (accR s at_ (zar s at_-192) j))),(7,.d (int 2)),(8,.d (int (j+1)))],own:=[]})
   (fun j=>j+1≤2) (fun j=>2-j) 0 (by simp) (by simp +decide [int,accR]) ?_
  intro j hj;have hac:=zrf (s:=s) (at_:=at_) hp0 j;have hac2:accR s at_ (zar s at_-192) j<2^30:=Nat.lt_of_lt_of_le hac (Nat.le_trans (Nat.mul_le_mul_left _ (Nat.pow_le_pow_right (by omega) (show j≤3 by omega))) (by decide))
  by_cases hjn:j+1<2
  ·have k1:(j:Int)+1<2:=by omega
   have e1:byteAt s ((at_:Int)+((j:Int)+1))=(zar s (at_+(j+1)):Int):=zda s (at_+(j+1))
   have w1:=zmi s (at_+(j+1));have t1:(zar s (at_+(j+1)):Int).tmod 64=((zar s (at_+(j+1))%64:Nat):Int):=rfl
   simp +decide [int,k1,e1,w1,t1,I64,zdh];exact ⟨by omega,by omega,⟨by omega,by omega⟩,by omega,by omega,j+1,by omega,by omega,by simp only [accR];omega,by omega⟩
  ·obtain rfl:j=1:=by omega
   simp +decide [int,I64,zdh];generalize hq:accR s at_ (zar s at_-192) 1=q at hac2 ⊢;refine zac (by rfl) (by rfl) (zmj q) (by simp) ?_
   by_cases hsc:zea q
   case neg=>simp +decide [hsc,int,zdb]
   simp +decide [hsc,int];refine zac (by rfl) (by rfl) (z5o q (by omega)) (by simp) ?_
   have z1:((at_:Int)+2).toNat=at_+2:=by omega
   have he:=z5p (s:=s) (at_:=at_) (n:=2) (p:=q) (by omega) (by omega)
   by_cases hE:encS q=s.extract at_ (at_+2)
   ·simp +decide [hsc,int,z1,hE,he.1 hE,zdb,I64]
    omega
   ·have hE2:¬((encR q).map (· % 256)=(bytes4 s at_).take 2):=fun h=>hE (he.2 h)
    have hE3:¬(encS q).toList=(s.extract at_ (at_+2)).toList:=fun h=>hE (bytes_inj h)
    simp +decide [hsc,int,z1,hE2,hE3,zdb,I64];omega
 have q2:¬(192:Int)≤zar s at_:=by omega
 have hl:zfj (zar s at_)=(zar s at_,1):=by simp [zfj,c4,c3,c2]
 rw [zml hl (by omega)]
 by_cases hsz:s.size-at_<1
 ·omega
 have g1:¬(s.size:Int)<(at_:Int)+1:=by omega
 rw [if_neg hsz]
 have hp0:zar s at_<256:=by omega
 simp +decide [Tryz.f176,int,hat,e0,w0,q4,q3,q2,g1,I64,zdh]
 refine ⟨⟨by omega,by omega⟩,?_⟩
 refine zad mixed (fun j:Nat=>{n:=65,next:=0,slots:=[(0,.d (.str s)),(1,.d (int at_)),(6,.d (int (accR s at_ (zar s at_) j))),(7,.d (int 1)),(8,.d (int (j+1)))],own:=[]})
  (fun j=>j+1≤1) (fun j=>1-j) 0 (by simp) (by simp +decide [int,accR]) ?_
 intro j hj
 have hac:=zrf (s:=s) (at_:=at_) hp0 j
 have hac2:accR s at_ (zar s at_) j<2^30:=Nat.lt_of_lt_of_le hac (Nat.le_trans (Nat.mul_le_mul_left _ (Nat.pow_le_pow_right (by omega) (show j≤3 by omega))) (by decide))
 by_cases hjn:j+1<1
 ·omega
 ·obtain rfl:j=0:=by omega
  simp +decide [int,I64,zdh];generalize hq:accR s at_ (zar s at_) 0=q at hac2 ⊢;refine zac (by rfl) (by rfl) (zmj q) (by simp) ?_
  by_cases hsc:zea q
  case neg=>simp +decide [hsc,int,zdb]
  simp +decide [hsc,int];refine zac (by rfl) (by rfl) (z5o q (by omega)) (by simp) ?_
  have z1:((at_:Int)+1).toNat=at_+1:=by omega
  have he:=z5p (s:=s) (at_:=at_) (n:=1) (p:=q) (by omega) (by omega)
  by_cases hE:encS q=s.extract at_ (at_+1)
  ·simp +decide [hsc,int,z1,hE,he.1 hE,zdb,I64]
   omega
  ·have hE2:¬((encR q).map (· % 256)=(bytes4 s at_).take 1):=fun h=>hE (he.2 h)
   have hE3:¬(encS q).toList=(s.extract at_ (at_+1)).toList:=fun h=>hE (bytes_inj h)
   simp +decide [hsc,int,z1,hE2,hE3,zdb,I64];omega
def zkv (s:ByteArray):Nat→Nat→Option (List Int)
 | 0,_=>some []
 | n+1,pos=>if pos<s.size then (match zuo s pos with
  | none=>none
  | some r=>(zkv s n (pos+r.2)).map ((r.1:Int) :: ·)) else some []
theorem z15 {s:ByteArray} {pos:Nat} (h:pos<s.size):match zuo s pos with
  | none=>decodeN (s.size-pos) (zar s pos) (zar s (pos+1)) (zar s (pos+2)) (zar s (pos+3))=(65533,1)
  | some r=>decodeN (s.size-pos) (zar s pos) (zar s (pos+1)) (zar s (pos+2)) (zar s (pos+3))=r∧¬(r.1=65533∧r.2=1)∧r.2≤s.size-pos∧1≤r.2:=
 zw2 _ _ _ _ _ (by omega) (UInt8.toNat_lt _) (UInt8.toNat_lt _) (UInt8.toNat_lt _) (UInt8.toNat_lt _)
def ptsD:Option (List Int)→D
 | none=>.tup [.sl [],.bool false]
 | some l=>.tup [ints l,.bool true]
def ptsS (s:ByteArray) (x:List Int×Nat×Nat):St:=
 {n:=28,next:=2,slots:=[(0,.d (.str s)),(4,.ar 1),(5,.d (int x.2.1))],own:=[(1,.arr 3 1 (x.1.map fun n=>[.int .i64 n]))],moved:=[1]}
theorem ybh (s:ByteArray) : ∀ (m pos:Nat) (l:List Int),zkv s m pos=some l→l.length≤m
 | 0,pos,l,h=>by simp [zkv] at h;subst h;simp
 | m+1,pos,l,h=>by
  simp only [zkv] at h;split at h
  ·split at h
   ·cases h
   ·rw [Option.map_eq_some_iff] at h
    obtain ⟨l',h',rfl⟩:=h;have:=ybh s m _ l' h'
    simp;omega
  ·cases h;simp
set_option maxHeartbeats 1000000 in
theorem zjc (s:ByteArray) (hs:s.size≤1048576):zam Tryz.prog 149 [.str s] (ptsD (zkv s s.size 0)):=by
 refine zi1 mixed Tryz.func149 rfl call_149 [1,2] ?_
 simp +decide [Tryz.f149]
 refine zad mixed (ptsS s) (fun x=>x.2.1≤s.size∧s.size≤x.2.1+x.2.2∧x.1.length≤x.2.1∧zkv s s.size 0=(zkv s x.2.2 x.2.1).map (x.1 ++ ·)) (fun x=>x.2.2) ([],0,s.size)
  ⟨by simp,by simp,by simp,by simp⟩ (by simp +decide [ptsS,int]) ?_
 rintro ⟨acc,pos,m⟩ ⟨h1,h2,h3,h4⟩
 simp only at h1 h2 h3 h4
 by_cases hlt:pos<s.size
 ·have hlt':(pos:Int)<s.size:=by omega
  obtain ⟨m,rfl⟩ : ∃ k,m=k+1:=⟨m-1,by omega⟩
  simp only [zkv,if_pos hlt] at h4;have hg:=z15 hlt;have hf0:=yf0 s pos hlt hs;simp +decide [ptsS,int,hlt'];refine zaj.pure (by rfl) hf0 (by simp) ?_
  cases hf:zuo s pos with
  | none=>
   rw [hf] at h4;simp +decide [zdb,int,ptsD,h4]
  | some r=>
   rw [hf] at h4 hg;simp only at h4 hg
   obtain ⟨_,_,g3,g4⟩:=hg;have e1:¬ r.2=0:=by omega
   simp +decide [zdb,int,e1,I64];refine ⟨by omega,by unfold maxLen;omega,⟨by omega,by omega⟩,acc++[(r.1:Int)],pos+r.2,m,⟨by omega,by omega,by simp;omega,by rw [h4];cases zkv s m (pos+r.2) <;> simp⟩,by omega,?_⟩
   simp +decide [ptsS,int]
 ·have hlt':¬(pos:Int)<s.size:=by omega
  have hm:zkv s m pos=some []:=by cases m <;> simp [zkv,hlt]
  rw [hm] at h4;simp +decide [ptsS,int,hlt',h4,ptsD,ints]
end Go.V
namespace Go.V
open Go Go.Proofs
def IsB (r:D):Prop:=∃ b,r = .bool b
def IsI (r:D):Prop:=∃ e,r=int e
@[simp] theorem yly (b:Bool):IsB (.bool b):=⟨b,rfl⟩
@[simp] theorem ylz (n:Int):IsI (.int .i64 n):=⟨n,rfl⟩
theorem zup (s:ByteArray) (hs:s.size≤1048576):zeu Tryz.prog 110 [.str s] IsB:=by
 refine za3 mixed Tryz.func110 rfl call_110 ?_
 simp +decide [Tryz.f110,int]
 refine zad mixed (fun k:Nat=>{n:=38,next:=0,slots:=[(0,.d (.str s)),(3,.d (int k))],own:=[]})
  (fun k=>k≤s.size) (fun k=>s.size-k) 0 (by simp) (by simp +decide [int]) ?_
 intro k hk
 by_cases hlt:k<s.size
 ·have hlt':(k:Int)<s.size:=by omega
  have e1:byteAt s (k:Int)=(zar s k:Int):=zda s k
  by_cases b1:(zar s k:Int)<32
  ·simp +decide [int,hlt,hlt',e1,b1]
  ·by_cases b2:(zar s k:Int)=127
   ·simp +decide [int,hlt,hlt',e1,b1,b2]
   ·simp +decide [int,hlt,hlt',e1,b1,b2,I64]
    exact ⟨⟨by omega,by omega⟩,k+1,hlt,by omega,by omega⟩
 ·have hlt':¬(k:Int)<s.size:=by omega
  simp +decide [int,hlt'];refine zaj.pure (by rfl) (zjc s hs) (by simp) ?_
  cases hp:zkv s s.size 0 with
  | none=>simp +decide [ptsD,int]
  | some l=>
   by_cases c1:(1:Int)≤s.size
   ·simp +decide [ptsD,int,ints,c1]
   ·simp +decide [ptsD,int,ints,c1]
theorem z8g (s:ByteArray) (hs:s.size≤1048576):zeu Tryz.prog 113 [.str s] IsB:=by
 refine za3 mixed Tryz.func113 rfl call_113 ?_
 simp +decide [Tryz.f113,int]
 refine zad mixed (fun k:Nat=>{n:=16,next:=0,slots:=[(0,.d (.str s)),(3,.d (int k))],own:=[]})
  (fun k=>k≤s.size) (fun k=>s.size-k) 0 (by simp) (by simp +decide [int]) ?_
 intro k hk
 by_cases hlt:k<s.size
 ·have hlt':(k:Int)<s.size:=by omega
  have e1:byteAt s (k:Int)=(zar s k:Int):=zda s k
  by_cases b1:(zar s k:Int)=32
  ·simp +decide [int,hlt,hlt',e1,b1]
  ·simp +decide [int,hlt,hlt',e1,b1,I64]
   exact ⟨⟨by omega,by omega⟩,k+1,hlt,by omega,by omega⟩
 ·have hlt':¬(k:Int)<s.size:=by omega
  simp +decide [int,hlt'];refine zaj.some (by rfl) (zup s hs) ?_
  rintro r ⟨b,rfl⟩
  simp +decide [int]
end Go.V
namespace Go.V
open Go Go.Proofs
def nmS (b:Nat):Bool:=decide (97≤b)&&decide (b≤122)
def nmC (b:Nat):Bool:=nmS b || (decide (48≤b)&&decide (b≤57)) || decide (b=45) || decide (b=95)
def nameP (s:ByteArray):Bool:=decide (1≤s.size)&&decide (s.size≤32)&&nmS (zar s 0)&&(List.range s.size).all fun k=>nmC (zar s k)
theorem yf1 (b:Nat):(97≤b∧b≤122)∨(48≤b∧b≤57)∨b=45∨b=95∨(b<48∧b≠45)∨(57<b∧b<97∧b≠95)∨122<b:=by omega
theorem z8h (s:ByteArray) (hs:s.size≤9223372036854775807):zam Tryz.prog 111 [.str s] (.bool (nameP s)):=by
 refine zaa mixed Tryz.func111 rfl call_111 ?_
 simp +decide [Tryz.f111]
 refine zad mixed (fun k:Nat=>{n:=59,next:=0,slots:=[(0,.d (.str s)),(3,.d (.int .i64 k))],own:=[]})
  (fun k=>k≤s.size∧∀ j,j<k→(nmC (zar s j)=true∧(j=0→nmS (zar s 0)=true))) (fun k=>s.size-k) 0 (by simp) (by simp +decide [int]) ?_
 intro k ⟨hk,hp⟩
 by_cases hlt:k<s.size
 ·have hlt':(k:Int)<s.size:=by omega
  have e0:byteAt s (k:Int)=(zar s k:Int):=zda s k
  have good:nmC (zar s k)=true→(k=0→nmS (zar s k)=true)→∀ j,j<k+1→(nmC (zar s j)=true∧(j=0→nmS (zar s 0)=true)):=by
   intro hb h0 j hj;rcases Nat.lt_or_ge j k with hj' | hj'
   ·exact hp j hj'
   ·have:j=k:=by omega
    subst this;exact ⟨hb,fun e=>by subst e;exact h0 rfl⟩
  have bad:nmC (zar s k)=false→nameP s=false:=fun hb=>by
   have:(List.range s.size).all (fun k=>nmC (zar s k))=false:=by rw [List.all_eq_false];exact ⟨k,by simpa using hlt,by simp [hb]⟩
   simp only [nameP,this,Bool.and_false]
  have bad0:k=0→nmS (zar s k)=false→nameP s=false:=fun h0 hb=>by
   subst h0;simp only [nameP,hb,Bool.and_false,Bool.false_and]
  generalize zar s k=b at e0 good bad bad0;by_cases hs:97≤b∧b≤122
  ·obtain ⟨c1,c2⟩:=hs
   have q1:(97:Int)≤b:=by omega
   have q2:(b:Int)≤122:=by omega
   have hS:nmS b=true:=by simp [nmS];omega
   simp +decide [hlt,hlt',e0,q1,q2,I64];exact ⟨by omega,k+1,⟨by omega,good (by simp [nmC,hS]) (fun _=>hS)⟩,by omega,by omega⟩
  ·have hS:nmS b=false:=by simp [nmS];omega
   by_cases hk0:k=0
   ·subst hk0
    have hb:=bad0 rfl hS;have e0':byteAt s 0=(b:Int):=e0
    by_cases q1:(97:Int)≤b
    ·have q2:¬(b:Int)≤122:=by omega
     simp +decide [hlt,hlt',e0',q1,q2,hb]
    ·simp +decide [hlt,hlt',e0',q1,hb]
   ·have hk0':¬(k:Int)=0:=by omega
    have key : ∀ (r:Bool),nmC b=r→(decide (97≤(b:Int))&&decide ((b:Int)≤122))=false:=fun _ _=>by simp;omega
    by_cases q1:(97:Int)≤b
    ·have q2:¬(b:Int)≤122:=by omega
     have q3:¬(b:Int)=45:=by omega
     have q4:¬(b:Int)=95:=by omega
     have q5:¬(b:Int)<48:=by omega
     have q6:(57:Int)<b:=by omega
     have hb:=bad (by simp [nmC,hS];omega)
     simp +decide [hlt,hlt',e0,q1,q2,q3,q4,q5,q6,hk0,hk0',hb]
    ·rcases yf1 b with ⟨c1,c2⟩ | ⟨c1,c2⟩ | rfl | rfl | ⟨c1,c2⟩ | ⟨c1,c2,c3⟩ | c1
     ·omega
     ·have q3:¬(b:Int)=45:=by omega
      have q4:¬(b:Int)=95:=by omega
      have q5:¬(b:Int)<48:=by omega
      have q6:¬(57:Int)<b:=by omega
      simp +decide [hlt,hlt',e0,q1,q3,q4,q5,q6,hk0,hk0',I64];exact ⟨by omega,k+1,⟨by omega,good (by simp [nmC];omega) (fun h=>absurd h hk0)⟩,by omega,by omega⟩
     ·simp +decide [hlt,hlt',e0,hk0,hk0',I64]
      exact ⟨by omega,k+1,⟨by omega,good (by decide) (fun h=>absurd h hk0)⟩,by omega,by omega⟩
     ·simp +decide [hlt,hlt',e0,hk0,hk0',I64]
      exact ⟨by omega,k+1,⟨by omega,good (by decide) (fun h=>absurd h hk0)⟩,by omega,by omega⟩
     ·have q3:¬(b:Int)=45:=by omega
      have q4:¬(b:Int)=95:=by omega
      have q5:(b:Int)<48:=by omega
      have hb:=bad (by simp [nmC,hS];omega)
      simp +decide [hlt,hlt',e0,q1,q3,q4,q5,hk0,hk0',hb]
     ·have q3:¬(b:Int)=45:=by omega
      have q4:¬(b:Int)=95:=by omega
      have q5:¬(b:Int)<48:=by omega
      have q6:(57:Int)<b:=by omega
      have hb:=bad (by simp [nmC,hS];omega)
      simp +decide [hlt,hlt',e0,q1,q3,q4,q5,q6,hk0,hk0',hb]
     ·omega
 ·have:k=s.size:=by omega
  subst this;have hall:(List.range s.size).all (fun k=>nmC (zar s k))=true:=by
   rw [List.all_eq_true];intro j hj;exact (hp j (by simpa using hj)).1
  by_cases h1:1≤s.size
  ·have h1':(1:Int)≤s.size:=by omega
   have hS:=(hp 0 (by omega)).2 rfl
   simp +decide [h1',nameP,hall,hS,h1];omega
  ·have h1':¬(1:Int)≤s.size:=by omega
   simp +decide [h1',nameP,h1]
def z16 (l:List ByteArray):D:=.sl (l.map fun s=>[.str s])
theorem yf2 (l:List ByteArray) (s:ByteArray) (hl:l.length<2^40):zeu Tryz.prog 114 [z16 l,.str s] IsB:=by
 refine za3 mixed Tryz.func114 rfl call_114 ?_
 simp +decide [Tryz.f114,int,z16]
 refine zad mixed (fun k:Nat=>{n:=18,next:=0,slots:=[(0,.d (z16 l)),(1,.d (.str s)),(5,.d (int k))],own:=[]})
  (fun k=>k≤l.length) (fun k=>l.length-k) 0 (by simp) (by simp +decide [int,z16]) ?_
 intro k hk
 by_cases hlt:k<l.length
 ·have hlt':(k:Int)<l.length:=by omega
  obtain ⟨x,ex⟩ : ∃ x,l[k]=x:=⟨_,rfl⟩;have e1:l[k]?=some x:=by rw [List.getElem?_eq_getElem hlt,ex]
  by_cases b1:x=s
  ·simp +decide [int,z16,hlt,hlt',e1,ex,b1]
  ·simp +decide [int,z16,hlt,hlt',e1,ex,b1,I64]
   exact fun _=>⟨⟨by omega,by omega⟩,k+1,hlt,by omega,by omega⟩
 ·have hlt':¬(k:Int)<l.length:=by omega
  simp +decide [int,z16,hlt']
structure OrthC (o:Orth):Prop where
 name:o.name.size≤1048576
 units : ∀ u∈o.units,u.graph.size≤1048576∧u.segs.length≤1048576
 letters : ∀ l∈o.letters,l.length≤1048576∧∀ s∈l,s.size≤1048576
 few:o.units.length≤1048576∧o.letters.length≤1048576
end Go.V
namespace Go.V
open Go Go.Proofs
def InvC (inv:List Phon):Prop:=inv.length≤1048576∧∀ p∈inv,p.name.size≤1048576
set_option maxHeartbeats 4000000 in
theorem z8i (inv:List Phon) (hi:InvC inv):zeu Tryz.prog 87 [.agg [invD inv]] IsI:=by
 obtain ⟨hl,hn⟩:=hi
 refine za3 mixed Tryz.func87 rfl call_87 ?_
 by_cases h0:(60:Int)<inv.length
 ·simp +decide [Tryz.f87,int,invD,h0]
 simp +decide [Tryz.f87,int,invD,h0]
 refine zad mixed (fun k:Nat=>{n:=58,next:=1,slots:=[(1,.bp 0 0),(11,.d (int inv.length)),(12,.d (int k))],own:=[(0,.box 44 [.d (invD inv)])]})
  (fun k=>k≤inv.length) (fun k=>inv.length-k) 0 (by simp) (by simp +decide [int,invD]) ?_
 intro k hk
 by_cases hlt:k<inv.length
 ·have hlt':(k:Int)<inv.length:=by omega
  have hnk:=hn inv[k] (List.getElem_mem hlt);obtain ⟨x,ex⟩ : ∃ x,inv[k]=x:=⟨_,rfl⟩;have ex1:inv[k]?=some x:=by rw [List.getElem?_eq_getElem hlt,ex]
  rw [ex] at hnk;simp +decide [int,invD,hlt,hlt',ex,ex1,Phon.row];refine zaj.some (by rfl) (zup x.name hnk) ?_
  rintro r ⟨b,rfl⟩
  cases b with
  | false=>simp +decide [int]
  | true=>
   simp +decide [int];refine zad mixed (fun m:Nat=>{n:=58,next:=1,slots:=[(1,.bp 0 0),(3,.d (int k)),(4,.d (int m)),(11,.d (int inv.length)),(12,.d (int k))],own:=[(0,.box 44 [.d (invD inv)])]})
    (fun m=>m≤k) (fun m=>k-m) 0 (by simp) (by simp +decide [int,invD,Phon.row]) ?_
   intro m hm;by_cases hlm:m<k
   ·have hlm':(m:Int)<k:=by omega
    have hmi:m<inv.length:=by omega
    have hmi':(m:Int)<inv.length:=by omega
    obtain ⟨y,ey⟩ : ∃ y,inv[m]=y:=⟨_,rfl⟩;have ey1:inv[m]?=some y:=by rw [List.getElem?_eq_getElem hmi,ey]
    by_cases b1:y.name=x.name
    ·simp +decide [int,invD,hlm,hlm',hmi,hmi',hlt,hlt',ex,ex1,ey,ey1,Phon.row,b1]
    ·simp +decide [int,invD,hlm,hlm',hmi,hmi',hlt,hlt',ex,ex1,ey,ey1,Phon.row,b1,I64]
     exact fun _=>⟨⟨by omega,by omega⟩,m+1,hlm,by omega,by omega⟩
   ·have hlm':¬(m:Int)<k:=by omega
    by_cases b1:x.feat<0
    ·simp +decide [int,invD,hlm',hlt,hlt',ex,ex1,Phon.row,b1]
    ·by_cases b2:65536≤x.feat
     ·simp +decide [int,invD,hlm',hlt,hlt',ex,ex1,Phon.row,b1,b2]
     ·simp +decide [int,invD,hlm',hlt,hlt',ex,ex1,Phon.row,b1,b2,I64]
      exact ⟨⟨by omega,by omega⟩,k+1,hlt,by omega,by omega⟩
 ·have hlt':¬(k:Int)<inv.length:=by omega
  simp +decide [int,invD,hlt']
end Go.V
namespace Go.V
open Go Go.Proofs
def zdz (l:List Int) (n:Int):Nat:=(l.takeWhile fun x=>decide (x<n)).length
def putL (l:List Int) (n:Int):List Int:=l.take (zdz l n)++[n]++(if l[zdz l n]?=some n then l.drop (zdz l n+1) else l.drop (zdz l n))
theorem zwd {l:List Int} {n:Int} {k:Nat} (hk:k≤l.length) (h1 : ∀ x∈l.take k,x<n) (h2 : ∀ h:k<l.length,¬ l[k]<n):zdz l n=k:=by
 unfold zdz
 have e:l=l.take k++l.drop k:=(List.take_append_drop k l).symm
 have h3:(l.takeWhile fun x=>decide (x<n))=l.take k:=by
  conv=>lhs;rw [e]
  rw [List.takeWhile_append_of_pos (by intro a ha;simpa using h1 a ha)]
  by_cases hl:k<l.length
  ·rw [List.drop_eq_getElem_cons hl,List.takeWhile_cons_of_neg (by simpa using h2 hl),List.append_nil]
  ·rw [List.drop_eq_nil_of_le (by omega)];simp
 rw [h3,List.length_take];omega
set_option maxHeartbeats 4000000 in
theorem ykj (l:List Int) (n:Int) (hl:l.length<2^40):zam Tryz.prog 177 [ints l,int n] (ints (putL l n)):=by
 refine zi1 mixed Tryz.func177 rfl call_177 [1] ?_
 simp +decide [Tryz.f177,int,ints]
 refine zad mixed (fun k:Nat=>{n:=51,next:=2,slots:=[(0,.d (ints l)),(1,.d (int n)),(5,.ar 1),(6,.d (int k))],own:=[(1,.arr 3 1 ((l.take k).map fun x=>[int x]))],moved:=[1]})
  (fun k=>k≤l.length∧∀ x∈l.take k,x<n) (fun k=>l.length-k) 0 (by simp) (by simp +decide [int,ints]) ?_
 rintro k ⟨hk,hp⟩
 have hkl:(l.take k).length=k:=by rw [List.length_take];omega
 by_cases hlt:k<l.length
 ·have hlt':(k:Int)<l.length:=by omega
  have em:l[k]?=some l[k]:=List.getElem?_eq_getElem hlt
  by_cases hx:l[k]<n
  ·simp +decide [int,ints,hlt,hlt',em,hx,I64]
   refine ⟨by omega,by unfold maxLen;omega,⟨by omega,by omega⟩,k+1,⟨hlt,fun x hx2=>?_⟩,by omega,by omega,?_⟩
   ·rw [zal hlt] at hx2
    rcases List.mem_append.1 hx2 with h | h
    ·exact hp x h
    ·rw [List.mem_singleton] at h;rw [h];exact hx
   ·rw [zal (by rw [List.length_map];exact hlt),List.getElem_map]
  ·have hE:putL l n=l.take k++[n]++(if l[k]?=some n then l.drop (k+1) else l.drop k):=by
    unfold putL;rw [zwd hk hp fun _=>hx]
   rw [hE,em];by_cases hy:l[k]=n
   ·rw [if_pos (by rw [hy])]
    simp +decide [int,ints,hlt,hlt',em,hx,hy,I64];refine ⟨by omega,by unfold maxLen;omega,⟨by omega,by omega⟩,⟨by omega,by omega⟩,fun r hr=>?_,by omega,by unfold maxLen;omega,?_⟩
    ·have:=List.mem_of_mem_take (List.mem_of_mem_drop hr)
     rw [List.mem_map] at this;obtain ⟨z,_,rfl⟩:=this;rfl
    ·rw [List.take_of_length_le (by simp)]
   ·rw [if_neg (by simpa using hy)]
    simp +decide [int,ints,hlt,hlt',em,hx,hy,I64];refine ⟨by omega,by unfold maxLen;omega,by omega,fun r hr=>?_,by omega,by unfold maxLen;omega,?_⟩
    ·have:=List.mem_of_mem_take (List.mem_of_mem_drop hr)
     rw [List.mem_map] at this;obtain ⟨z,_,rfl⟩:=this;rfl
    ·rw [List.take_of_length_le (by simp)]
 ·have:k=l.length:=by omega
  subst this;have hE:putL l n=l.take l.length++[n]++[]:=by
   unfold putL;rw [zwd hk hp fun h=>absurd h (by omega)]
   simp
  rw [hE];simp +decide [int,ints,I64];exact ⟨by omega,by unfold maxLen;omega,by omega,by unfold maxLen;omega⟩
theorem yf3 (l:List Int) (n:Int):zdz l n≤l.length:=(List.takeWhile_sublist _).length_le
theorem zyf {p:Int→Bool} : ∀ {l:List Int} {x:Int},x∈l.takeWhile p→p x=true
 | [],x,h=>by cases h
 | a::r,x,h=>by
  by_cases e:p a=true
  ·rw [List.takeWhile_cons_of_pos e] at h
   rcases List.mem_cons.1 h with rfl | h
   ·exact e
   ·exact zyf h
  ·rw [List.takeWhile_cons_of_neg e] at h;cases h
theorem zuq (l:List Int) (n:Int) : ∀ x∈l.take (zdz l n),x<n:=by
 intro x hx
 have:l.take (zdz l n)=l.takeWhile fun x=>decide (x<n):=by
  unfold zdz;have:=List.takeWhile_prefix (l:=l) fun x=>decide (x<n)
  exact (List.prefix_iff_eq_take.1 this).symm
 rw [this] at hx
 simpa using zyf hx
theorem zur {l:List Int} {n:Int} (h:zdz l n<l.length):¬ l[zdz l n]<n:=by
 intro hx
 have e1:(l.takeWhile fun x=>decide (x<n))++(l.dropWhile fun x=>decide (x<n))=l:=List.takeWhile_append_dropWhile
 cases hd:l.dropWhile fun x=>decide (x<n) with
 | nil=>
  rw [hd,List.append_nil] at e1;have:zdz l n=l.length:=by unfold zdz;rw [e1]
  omega
 | cons y r=>
  have hy:=List.head_dropWhile_not (fun x=>decide (x<n)) (by rw [hd];simp:l.dropWhile (fun x=>decide (x<n))≠[])
  simp only [hd,List.head_cons,decide_eq_false_iff_not] at hy;have e0 : ∀ A B:List Int,B=y::r→(A++B)[A.length]?=some y:=by
   intro A B h;rw [h,List.getElem?_append_right (Nat.le_refl _),Nat.sub_self];rfl
  have e3:=e0 (l.takeWhile fun x=>decide (x<n)) _ hd
  rw [e1] at e3;change l[zdz l n]?=some y at e3
  rw [List.getElem?_eq_getElem h] at e3;have:=Option.some.inj e3
  rw [this] at hx;exact hy hx
theorem zyg {l:List Int} (hs:l.Pairwise fun x y=>x<y) (n:Int) : ∀ x,x∈(if l[zdz l n]?=some n then l.drop (zdz l n+1) else l.drop (zdz l n))↔x∈l∧n<x:=by
 intro x
 have hpw:=List.pairwise_iff_getElem.1 hs
 have hmem:x∈l→n<x→x∈l.drop (zdz l n):=fun hx hn=>by
  have hx':=hx;rw [← List.take_append_drop (zdz l n) l] at hx';rcases List.mem_append.1 hx' with h | h
  ·have:=zuq l n x h;omega
  ·exact h
 by_cases hlt:zdz l n<l.length
 ·have hst:=zur hlt
  have hge : ∀ y∈l.drop (zdz l n+1),l[zdz l n]<y:=fun y hy=>by
   obtain ⟨i,hi,rfl⟩:=List.mem_iff_getElem.1 hy;rw [List.length_drop] at hi;rw [List.getElem_drop];exact hpw _ _ hlt (by omega) (by omega)
  rw [List.getElem?_eq_getElem hlt];by_cases e:l[zdz l n]=n
  ·rw [if_pos (by rw [e])]
   constructor
   ·intro hx
    have:=hge x hx
    exact ⟨List.mem_of_mem_drop hx,by omega⟩
   ·rintro ⟨hx,hn⟩
    have:=hmem hx hn
    rw [List.drop_eq_getElem_cons hlt] at this;rcases List.mem_cons.1 this with h | h
    ·omega
    ·exact h
  ·rw [if_neg (by simpa using e)]
   constructor
   ·intro hx
    refine ⟨List.mem_of_mem_drop hx,?_⟩
    rw [List.drop_eq_getElem_cons hlt] at hx;rcases List.mem_cons.1 hx with h | h
    ·omega
    ·have:=hge x h;omega
   ·rintro ⟨hx,hn⟩;exact hmem hx hn
 ·have hd:l.drop (zdz l n)=[]:=List.drop_eq_nil_of_le (by omega)
  rw [List.getElem?_eq_none (by omega),if_neg (by simp),hd]
  constructor
  ·intro h;cases h
  ·rintro ⟨hx,hn⟩
   have:=hmem hx hn
   rwa [hd] at this
theorem yf4 {l:List Int} (hs:l.Pairwise fun x y=>x<y) {n x:Int}:x∈putL l n↔x=n∨x∈l:=by
 unfold putL
 rw [List.mem_append,List.mem_append,List.mem_singleton,zyg hs]
 constructor
 ·rintro ((h | h) | h)
  ·exact .inr (List.mem_of_mem_take h)
  ·exact .inl h
  ·exact .inr h.1
 ·rintro (h | h)
  ·exact .inl (.inr h)
  ·rcases Int.lt_trichotomy x n with q | q | q
   ·have h':=h
    rw [← List.take_append_drop (zdz l n) l] at h';rcases List.mem_append.1 h' with h2 | h2
    ·exact .inl (.inl h2)
    ·exfalso
     have hpw:=List.pairwise_iff_getElem.1 hs;obtain ⟨i,hi,rfl⟩:=List.mem_iff_getElem.1 h2;rw [List.length_drop] at hi;rw [List.getElem_drop] at q;have hst:=zur (l:=l) (n:=n) (by omega)
     rcases Nat.eq_zero_or_pos i with rfl | hi0
     ·exact hst q
     ·have:=hpw (zdz l n) (zdz l n+i) (by omega) (by omega) (by omega)
      omega
   ·exact .inl (.inr q)
   ·exact .inr ⟨h,q⟩
theorem z18 {l:List Int} (hs:l.Pairwise fun x y=>x<y) (n:Int):(putL l n).Pairwise fun x y=>x<y:=by
 unfold putL
 rw [List.pairwise_append,List.pairwise_append]
 have hA:=zuq l n
 have hB:=fun x=>(zyg hs n x).1
 refine ⟨⟨hs.sublist (List.take_sublist _ _),by simp,fun a ha b hb=>?_⟩,?_,fun a ha b hb=>?_⟩
 ·rw [List.mem_singleton] at hb;rw [hb];exact hA a ha
 ·split
  ·exact hs.sublist (List.drop_sublist _ _)
  ·exact hs.sublist (List.drop_sublist _ _)
 ·have h1:=(hB b hb).2
  rcases List.mem_append.1 ha with h | h
  ·have:=hA a h;omega
  ·rw [List.mem_singleton] at h;omega
def sortL (l:List Int):List Int:=l.foldl putL []
theorem zus (l:List Int) (n:Int):sortL (l++[n])=putL (sortL l) n:=by unfold sortL;rw [List.foldl_append];rfl
theorem yf5 {l:List Int} (hs:l.Pairwise fun x y=>x<y) (n:Int):(putL l n).length=l.length+(if n∈l then 0 else 1):=by
 have hle:=yf3 l n
 have hin:n∈l↔l[zdz l n]?=some n:=by
  constructor
  ·intro hm
   obtain ⟨k,hk,ek⟩:=List.mem_iff_getElem.1 hm;have hpw:=List.pairwise_iff_getElem.1 hs;have:zdz l n=k:=by
    refine zwd (Nat.le_of_lt hk) (fun x hx=>?_) (fun h=>by rw [ek];omega)
    obtain ⟨i,hi,rfl⟩:=List.mem_iff_getElem.1 hx;rw [List.length_take] at hi;rw [List.getElem_take,← ek];exact hpw i k (by omega) hk (by omega)
   rw [this,List.getElem?_eq_getElem hk,ek]
  ·intro h;exact List.mem_of_getElem? h
 unfold putL
 by_cases h:l[zdz l n]?=some n
 ·rw [if_pos h,if_pos (hin.2 h)]
  have:zdz l n<l.length:=by
   rcases Nat.lt_or_ge (zdz l n) l.length with h' | h'
   ·exact h'
   ·rw [List.getElem?_eq_none h'] at h;cases h
  simp;omega
 ·rw [if_neg h,if_neg (fun h'=>h (hin.1 h'))]
  simp;omega
theorem zli : ∀ (m:Nat) (l:List Int),l.length=m→(sortL l).Pairwise (fun x y=>x<y)∧(∀ x,x∈sortL l↔x∈l)∧(sortL l).length≤l.length∧((sortL l).length=l.length→l.Nodup)
 | 0,l,h=>by
  have:l=[]:=List.length_eq_zero_iff.mp h
  subst this;exact ⟨List.Pairwise.nil,fun x=>Iff.rfl,Nat.le_refl _,fun _=>List.nodup_nil⟩
 | m+1,l,h=>by
  have hne:l≠[]:=by intro e;subst e;cases h
  obtain ⟨a,n,rfl⟩ : ∃ a n,l=a++[n]:=⟨l.dropLast,l.getLast hne,(List.dropLast_concat_getLast hne).symm⟩;have hm:a.length=m:=by simpa using h
  obtain ⟨h1,h2,h3,h4⟩:=zli m a hm;rw [zus];have hl:=yf5 h1 n;refine ⟨z18 h1 n,fun x=>?_,?_,fun he=>?_⟩
  ·rw [yf4 h1,h2,List.mem_append,List.mem_singleton]
   exact Or.comm
  ·rw [hl,List.length_append];split <;> simp <;> omega
  ·rw [hl,List.length_append] at he
   simp only [List.length_singleton] at he;by_cases hn:n∈sortL a
   ·rw [if_pos hn] at he;omega
   ·rw [if_neg hn] at he
    rw [List.nodup_append];refine ⟨h4 (by omega),by simp,fun x hx y hy=>?_⟩
    rw [List.mem_singleton] at hy;subst hy;intro e;subst e;exact hn ((h2 x).2 hx)
theorem z19 {l:List Int} (h:(sortL l).length=l.length):l.Nodup:=(zli _ l rfl).2.2.2 h
theorem ybi (l:List Int):(sortL l).length≤l.length:=(zli _ l rfl).2.2.1
set_option maxHeartbeats 4000000 in
theorem ybj (l:List Int) (hl:l.length<2^40):zam Tryz.prog 150 [ints l] (ints (sortL l)):=by
 refine zaa mixed Tryz.func150 rfl call_150 ?_
 simp +decide [Tryz.f150,int,ints]
 refine ze5 [1] ?_
 refine zad mixed (fun k:Nat=>{n:=18,next:=2,slots:=[(0,.d (ints l)),(3,.d (ints (sortL (l.take k)))),(6,.d (int l.length)),(7,.d (int k))],own:=[],moved:=[]})
  (fun k=>k≤l.length) (fun k=>l.length-k) 0 (by simp) (by simp +decide [int,ints,sortL]) ?_
 intro k hk
 by_cases hlt:k<l.length
 case neg=>
  have:k=l.length:=by omega
  subst this;rw [List.take_length];simp +decide [int,ints]
 have hlt':(k:Int)<l.length:=by omega
 have hsn:sortL (l.take (k+1))=putL (sortL (l.take k)) l[k]:=by rw [zal hlt,zus]
 have hsl:=ybi (l.take k)
 rw [List.length_take] at hsl
 obtain ⟨n,en⟩ : ∃ n,l[k]=n:=⟨_,rfl⟩
 have e1:l[k]?=some n:=by rw [List.getElem?_eq_getElem hlt,en]
 rw [en] at hsn
 have hP:=ykj (sortL (l.take k)) n (by omega)
 rw [← hsn] at hP
 simp +decide [int,ints,hlt,hlt',e1,en]
 refine zaj.pure (by rfl) hP (by simp [int,ints]) ?_
 simp +decide [int,ints]
 exact ⟨⟨by omega,by omega⟩,k+1,hlt,by omega,rfl,by omega⟩
def zk1 (inv:List Phon) (r:Rule) (k:Nat):Bool:=!(zds inv (r.src[k]?.getD 0)) || (decide (r.dst[k]?.getD 0≠0) && !(zds inv (r.dst[k]?.getD 0)))
def zyh (inv:List Phon) (r:Rule):Int:=
 if r.src.length=0∨r.dst.length≠r.src.length then 1 else if ((List.range r.src.length).any fun k=>zk1 inv r k)=true then 19
 else if (sortL r.src).length≠r.src.length then 8 else if 2<r.left.length∨2<r.right.length then 5 else 0
set_option maxHeartbeats 8000000 in
theorem z8j (inv:List Phon) (r:Rule) (hs:r.src.length≤1048576) (hd:r.dst.length≤1048576):zam Tryz.prog 115 [.agg [invD inv],.agg r.row] (int (zyh inv r)):=by
 obtain ⟨src,dst,left,right,beg,fin⟩:=r
 simp only at hs hd
 have hS:=ybj src (by omega)
 refine zaa mixed Tryz.func115 rfl call_115 ?_
 obtain ⟨R,hR⟩ : ∃ R,zyh inv ⟨src,dst,left,right,beg,fin⟩=R:=⟨_,rfl⟩
 rw [hR]
 unfold zyh at hR
 simp only at hR
 by_cases h0:src.length=0
 ·have:R=1:=by rw [← hR,if_pos (.inl h0)]
  subst this;have h0':(src.length:Int)=0:=by omega
  simp +decide [Tryz.f115,int,ints,Rule.row,h0,h0'];done
 have h0':¬(src.length:Int)=0:=by omega
 by_cases h1:dst.length=src.length
 case neg=>
  have:R=1:=by rw [← hR,if_pos (.inr h1)]
  subst this;have h1':¬(dst.length:Int)=src.length:=by omega
  simp +decide [Tryz.f115,int,ints,Rule.row,h0,h0',h1,h1'];done
 have h1':(dst.length:Int)=src.length:=by omega
 rw [if_neg (by rintro (h | h);exact h0 h;exact h h1)] at hR
 simp +decide [Tryz.f115,int,ints,Rule.row,h0,h0',h1,h1']
 refine zad mixed (fun k:Nat=>{n:=70,next:=2,slots:=[(2,.bp 0 0),(3,.bp 1 0),(21,.d (int src.length)),(22,.d (int k))],own:=[(0,.box 44 [.d (invD inv)]),(1,.box 117 [.d (ints src),.d (ints dst),.d (clsD left),.d (clsD right),.d (.bool beg),.d (.bool fin)])]})
  (fun k=>k≤src.length∧∀ j,j<k→zk1 inv ⟨src,dst,left,right,beg,fin⟩ j=false) (fun k=>src.length-k) 0 (by simp) (by simp +decide [int,ints]) ?_
 intro k ⟨hk,hp⟩
 by_cases hlt:k<src.length
 ·have hlt':(k:Int)<src.length:=by omega
  have hld:k<dst.length:=by omega
  have hld':(k:Int)<dst.length:=by omega
  obtain ⟨x,ex⟩ : ∃ x,src[k]=x:=⟨_,rfl⟩;obtain ⟨y,ey⟩ : ∃ y,dst[k]=y:=⟨_,rfl⟩;have ex1:src[k]?=some x:=by rw [List.getElem?_eq_getElem hlt,ex]
  have ey1:dst[k]?=some y:=by rw [List.getElem?_eq_getElem hld,ey]
  have hI:=zqb inv x;have hJ:=zqb inv y;have hsb:zk1 inv ⟨src,dst,left,right,beg,fin⟩ k=(!(zds inv x) || (decide (y≠0) && !(zds inv y))):=by unfold zk1;simp only;rw [ex1,ey1];rfl
  have hbad:zk1 inv ⟨src,dst,left,right,beg,fin⟩ k=true→R=19:=by
   intro h;rw [← hR,if_pos (List.any_eq_true.2 ⟨k,List.mem_range.2 hlt,h⟩)]
  have hgood:zk1 inv ⟨src,dst,left,right,beg,fin⟩ k=false→∀ j,j<k+1→zk1 inv ⟨src,dst,left,right,beg,fin⟩ j=false:=by
   intro h j hj;rcases Nat.lt_succ_iff_lt_or_eq.mp hj with h' | h'
   ·exact hp j h'
   ·rw [h'];exact h
  rw [hsb] at hbad hgood;simp +decide [int,ints,hlt,hlt',ex,ex1];refine zac (by rfl) (by rfl) hI (by simp [int]) ?_
  cases hx:zds inv x with
  | false=>
   rw [hx] at hbad;have:=hbad rfl
   subst this;simp +decide [int]
  | true=>
   rw [hx] at hbad hgood;by_cases hy:y=0
   ·rw [decide_eq_false (by simpa using hy)] at hgood
    have hg:=hgood rfl;simp +decide [int,ints,hlt,hlt',hld,hld',ex,ex1,ey,ey1,hy,I64];exact ⟨⟨by omega,by omega⟩,k+1,⟨hlt,hg⟩,by omega,by omega⟩
   ·rw [decide_eq_true (by simpa using hy)] at hgood hbad
    simp +decide [int,ints,hlt,hlt',hld,hld',ex,ex1,ey,ey1,hy,I64];refine zac (by rfl) (by rfl) hJ (by simp [int]) ?_
    cases hz:zds inv y with
    | false=>
     rw [hz] at hbad;have:=hbad rfl
     subst this;simp +decide [int]
    | true=>
     rw [hz] at hgood;have hg:=hgood rfl;simp +decide [int,I64];exact ⟨⟨by omega,by omega⟩,k+1,⟨hlt,hg⟩,by omega,by omega⟩
 ·have:k=src.length:=by omega
  subst this;have hany:((List.range src.length).any fun k=>zk1 inv ⟨src,dst,left,right,beg,fin⟩ k)=false:=by
   rw [List.any_eq_false];intro j hj;rw [hp j (List.mem_range.1 hj)];decide
  rw [if_neg (by rw [hany];decide)] at hR
  simp +decide [int,ints];refine zac (by rfl) (by rfl) hS (by simp [int,ints]) ?_
  by_cases hn:(sortL src).length=src.length
  ·have hn':((sortL src).length:Int)=src.length:=by omega
   rw [if_neg (by simpa using hn)] at hR
   by_cases hl:2<left.length
   ·have hl':(2:Int)<left.length:=by omega
    rw [if_pos (.inl hl)] at hR;subst hR;simp +decide [int,ints,clsD,hn,hn',hl,hl']
   ·have hl':¬(2:Int)<left.length:=by omega
    by_cases hr:2<right.length
    ·have hr':(2:Int)<right.length:=by omega
     rw [if_pos (.inr hr)] at hR;subst hR;simp +decide [int,ints,clsD,hn,hn',hl,hl',hr,hr']
    ·have hr':¬(2:Int)<right.length:=by omega
     rw [if_neg (by rintro (h | h);exact hl h;exact hr h)] at hR
     subst hR;simp +decide [int,ints,clsD,hn,hn',hl,hl',hr,hr']
  ·have hn':¬((sortL src).length:Int)=src.length:=by omega
   rw [if_pos (by simpa using hn)] at hR
   subst hR;simp +decide [int,ints,clsD,hn,hn']
theorem z8k {inv:List Phon} {r:Rule} (h:zyh inv r=0) (hs:r.src.length≤1048576):RuleL r:=by
 unfold zyh at h
 split at h
 ·cases h
 rename_i h1
 split at h
 ·cases h
 split at h
 ·cases h
 rename_i h3
 split at h
 ·cases h
 rename_i h4
 have h1':r.dst.length=r.src.length:=Classical.byContradiction fun e=>h1 (.inr e)
 have h3':(sortL r.src).length=r.src.length:=Classical.byContradiction fun e=>h3 e
 exact {src:=by omega,left:=by omega,right:=by omega,dst:=h1',once:=z19 h3' }
def DstF (inv:List Phon) (r:Rule):Prop:=∀ x∈r.dst,x=0∨zds inv x=true
theorem ybk {inv:List Phon} {r:Rule} (h:zyh inv r=0):DstF inv r:=by
 unfold zyh at h
 split at h
 ·cases h
 rename_i h1
 split at h
 ·cases h
 rename_i h2
 have h1':r.dst.length=r.src.length:=Classical.byContradiction fun e=>h1 (.inr e)
 intro x hx
 obtain ⟨k,hk,ek⟩:=List.mem_iff_getElem.1 hx
 have h3:((List.range r.src.length).any fun k=>zk1 inv r k)=false:=by simpa using h2
 rw [List.any_eq_false] at h3
 have h4:=h3 k (List.mem_range.2 (by omega))
 unfold zk1 at h4
 rw [List.getElem?_eq_getElem hk,ek,Option.getD_some] at h4
 by_cases hz:x=0
 ·exact .inl hz
 ·right
  cases hs:zds inv x with
  | true=>rfl
  | false=>rw [hs] at h4;simp [hz] at h4
structure RulesC (rs:List Rule):Prop where
 few:rs.length≤1048576
 each : ∀ r∈rs,r.src.length≤1048576∧r.dst.length≤1048576
set_option maxHeartbeats 4000000 in
theorem z8l (g:Lang) (hr:RulesC g.rules):zeu Tryz.prog 89 [g.d] (fun x=>∃ e,x=int e∧(e=0→∀ r∈g.rules,RuleL r∧DstF g.inv r)):=by
 have hfew:=hr.few
 refine za3 mixed Tryz.func89 rfl call_89 ?_
 by_cases h0:(12:Int)<g.rules.length
 ·simp +decide [Tryz.f89,Lang.d,int,zbj,h0]
 simp +decide [Tryz.f89,Lang.d,int,zbj,h0]
 refine zad mixed (fun k:Nat=>{n:=27,next:=1,slots:=[(1,.bp 0 0),(3,.d (int k))],own:=[(0,.box 56 (zai g.d))]})
  (fun k=>k≤g.rules.length∧∀ r∈g.rules.take k,RuleL r∧DstF g.inv r) (fun k=>g.rules.length-k) 0 (by simp) (by simp +decide [int,zbj,zai,Lang.d]) ?_
 intro k ⟨hk,hp⟩
 by_cases hlt:k<g.rules.length
 ·have hlt':(k:Int)<g.rules.length:=by omega
  have he:=hr.each g.rules[k] (List.getElem_mem hlt);obtain ⟨r,er⟩ : ∃ r,g.rules[k]=r:=⟨_,rfl⟩;have er1:g.rules[k]?=some r:=by rw [List.getElem?_eq_getElem hlt,er]
  have hsn:=zal hlt;rw [er] at he hsn;have hC:=z8j g.inv r he.1 he.2;simp +decide [int,zbj,zai,Lang.d,hlt,hlt',er,er1,Rule.row];refine zac (by rfl) (by rfl) hC (by simp [int,Rule.row]) ?_
  by_cases hz:zyh g.inv r=0
  ·rw [hz]
   simp +decide [int,I64,zai,Lang.d,zbj];refine ⟨⟨by omega,by omega⟩,k+1,⟨hlt,fun x hx=>?_⟩,by omega,by omega⟩
   rw [hsn] at hx;rcases List.mem_append.1 hx with h | h
   ·exact hp x h
   ·rw [List.mem_singleton] at h;rw [h];exact ⟨z8k hz he.1,ybk hz⟩
  ·simp +decide [int,hz]
 ·have:k=g.rules.length:=by omega
  subst this;rw [List.take_length] at hp;simp +decide [int,zbj,zai,Lang.d];exact hp
end Go.V
namespace Go.V
open Go Go.Proofs
theorem zn1 (n:Nett) (q:Int):zam Tryz.prog 116 [.agg n.cells,int q] (.bool (decide (0≤q∧q<n.states))):=by
 refine zaa mixed Tryz.func116 rfl call_116 ?_
 by_cases h0:0≤q
 ·simp +decide [Tryz.f116,int,Nett.cells,h0]
 ·simp +decide [Tryz.f116,int,Nett.cells,h0]
def ykk (n:Nett) (s:Stp):Prop:=(0≤s.src∧s.src<n.states)∧(0≤s.dst∧s.dst<n.states)∧1≤s.cls∧s.cls≤20
structure NetF (n:Nett):Prop where
 lo:1≤n.states
 steps : ∀ s∈n.steps,ykk n s
 final : ∀ q∈n.final,0≤q∧q<n.states
set_option maxHeartbeats 16000000 in
theorem z8m (n:Nett) (hs:n.steps.length≤1048576) (hf:n.final.length≤1048576):zeu Tryz.prog 90 [.agg n.cells] (fun x=>∃ e,x=int e∧(e=0→NetF n)):=by
 refine za3 mixed Tryz.func90 rfl call_90 ?_
 by_cases h0:n.states<1
 ·simp +decide [Tryz.f90,int,Nett.cells,h0]
 by_cases h1:24<n.states
 ·simp +decide [Tryz.f90,int,Nett.cells,h0,h1]
 by_cases h2:(200:Int)<n.steps.length
 ·simp +decide [Tryz.f90,int,Nett.cells,stepsD,h0,h1,h2]
 simp +decide [Tryz.f90,int,Nett.cells,stepsD,h0,h1,h2]
 refine zad mixed (fun k:Nat=>{n:=98,next:=1,slots:=[(1,.bp 0 0),(3,.d (int k))],own:=[(0,.box 53 (n.cells.map .d))]})
  (fun k=>k≤n.steps.length∧∀ s∈n.steps.take k,ykk n s) (fun k=>n.steps.length-k) 0 (by simp) (by simp +decide [int,ints,stepsD,Nett.cells]) ?_
 intro k ⟨hk,hp⟩
 by_cases hlt:k<n.steps.length
 ·have hlt':(k:Int)<n.steps.length:=by omega
  obtain ⟨x,ex⟩ : ∃ x,n.steps[k]=x:=⟨_,rfl⟩;have ex1:n.steps[k]?=some x:=by rw [List.getElem?_eq_getElem hlt,ex]
  have hsn:=zal hlt;rw [ex] at hsn;have hA:=zn1 n x.src;have hB:=zn1 n x.dst;simp +decide [int,ints,stepsD,Nett.cells,hlt,hlt',ex,ex1,Stp.row];refine zaj.pure (by rfl) hA (by simp [int]) ?_
  by_cases a1:0≤x.src∧x.src<n.states
  case neg=>simp +decide [int,a1]
  simp +decide [int,ints,stepsD,a1];refine zaj.pure (by rfl) hB (by simp [int]) ?_
  by_cases a2:0≤x.dst∧x.dst<n.states
  case neg=>simp +decide [int,a2]
  by_cases a3:x.cls<1
  ·simp +decide [int,a2,a3]
  by_cases a4:20<x.cls
  ·simp +decide [int,a2,a3,a4]
  simp +decide [int,ints,stepsD,Nett.cells,a2,a3,a4];refine zad mixed (fun m:Nat=>{n:=98,next:=2,slots:=[(1,.bp 0 0),(3,.d (int k)),(4,.bp 1 0),(5,.d (int m))],own:=[(0,.box 53 (n.cells.map .d)),(1,.box 100 (x.row.map .d))]})
   (fun m=>m≤k) (fun m=>k-m) 0 (by simp) (by simp +decide [int,ints,stepsD,Nett.cells,Stp.row]) ?_
  intro m hm;by_cases hlm:m<k
  ·have hlm':(m:Int)<k:=by omega
   have hml:m<n.steps.length:=by omega
   have hml':(m:Int)<n.steps.length:=by omega
   obtain ⟨y,ey⟩ : ∃ y,n.steps[m]=y:=⟨_,rfl⟩;have ey1:n.steps[m]?=some y:=by rw [List.getElem?_eq_getElem hml,ey]
   simp +decide [int,ints,stepsD,Nett.cells,hlm,hlm',hml,hml',ey,ey1,Stp.row,I64];exact fun _=>⟨⟨by omega,by omega⟩,m+1,hlm,by omega,by omega⟩
  ·have hlm':¬(m:Int)<k:=by omega
   simp +decide [int,ints,stepsD,Nett.cells,hlm',I64];refine ⟨⟨by omega,by omega⟩,k+1,⟨hlt,fun s hm2=>?_⟩,by omega,by omega⟩
   rw [hsn] at hm2;rcases List.mem_append.1 hm2 with h | h
   ·exact hp s h
   ·rw [List.mem_singleton] at h;rw [h];exact ⟨a1,a2,by omega,by omega⟩
 ·have:k=n.steps.length:=by omega
  subst this;rw [List.take_length] at hp;simp +decide [int,ints,stepsD,Nett.cells];refine zad mixed (fun k:Nat=>{n:=98,next:=1,slots:=[(1,.bp 0 0),(6,.d (int ((k:Int)+1)))],own:=[(0,.box 53 (n.cells.map .d))]})
   (fun k=>k≤n.final.length) (fun k=>n.final.length-k) 0 (by simp) (by simp +decide [int,ints,stepsD,Nett.cells]) ?_
  intro i hi;by_cases hli:i+1<n.final.length
  ·have hli':(i:Int)+1<n.final.length:=by omega
   have hl0:i<n.final.length:=by omega
   have hl0':(i:Int)<n.final.length:=by omega
   obtain ⟨u,eu⟩ : ∃ u,n.final[i+1]=u:=⟨_,rfl⟩;have eu1:n.final[i+1]?=some u:=by rw [List.getElem?_eq_getElem hli,eu]
   obtain ⟨v,ev⟩ : ∃ v,n.final[i]=v:=⟨_,rfl⟩;have ev1:n.final[i]?=some v:=by rw [List.getElem?_eq_getElem hl0,ev]
   have t1:((i:Int)+1).toNat=i+1:=by omega
   have t2:0≤(i:Int)+1:=by omega
   by_cases b1:u≤v
   ·simp +decide [int,ints,stepsD,Nett.cells,hli,hli',hl0,hl0',eu,eu1,ev,ev1,t1,t2,b1,I64]
    omega
   ·simp +decide [int,ints,stepsD,Nett.cells,hli,hli',hl0,hl0',eu,eu1,ev,ev1,t1,t2,b1,I64]
    exact ⟨by omega,⟨by omega,by omega⟩,i+1,by omega,by omega,by omega⟩
  ·have hli':¬(i:Int)+1<n.final.length:=by omega
   simp +decide [int,ints,stepsD,Nett.cells,hli'];refine zad mixed (fun k:Nat=>{n:=98,next:=1,slots:=[(1,.bp 0 0),(7,.d (int k))],own:=[(0,.box 53 (n.cells.map .d))]})
    (fun k=>k≤n.final.length∧∀ q∈n.final.take k,0≤q∧q<n.states) (fun k=>n.final.length-k) 0 (by simp) (by simp +decide [int,ints,stepsD,Nett.cells]) ?_
   intro j ⟨hj,hq⟩;by_cases hlj:j<n.final.length
   ·have hlj':(j:Int)<n.final.length:=by omega
    obtain ⟨u,eu⟩ : ∃ u,n.final[j]=u:=⟨_,rfl⟩;have eu1:n.final[j]?=some u:=by rw [List.getElem?_eq_getElem hlj,eu]
    have hsn:=zal hlj;rw [eu] at hsn;have hC:=zn1 n u;simp +decide [int,ints,stepsD,Nett.cells,hlj,hlj',eu,eu1];refine zac (by rfl) (by rfl) hC (by simp [int,ints,stepsD,Nett.cells]) ?_
    by_cases a1:0≤u∧u<n.states
    ·simp +decide [int,a1,I64,ints,stepsD,Nett.cells]
     refine ⟨⟨by omega,by omega⟩,j+1,⟨hlj,fun q hm=>?_⟩,by omega,by omega⟩
     rw [hsn] at hm;rcases List.mem_append.1 hm with h | h
     ·exact hq q h
     ·rw [List.mem_singleton] at h;rw [h];exact a1
    ·simp +decide [int,a1]
   ·have:j=n.final.length:=by omega
    subst this;rw [List.take_length] at hq;simp +decide [int,ints,stepsD,Nett.cells];exact ⟨by omega,hp,hq⟩
end Go.V

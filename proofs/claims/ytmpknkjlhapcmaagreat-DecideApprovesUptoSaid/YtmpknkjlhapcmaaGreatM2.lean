/- Contracts and plain laws of this seat: part M2. It needs no conditions. -/
import Derived.Test.YtmpknkjlhapcmaaGreatM1
import Derived.Test.YtmpknkjlhapcmaaGreatW1
import Derived.Test.YtmpknkjlhapcmaaGreatX9
import Derived.Test.YtmpknkjlhapcmaaGreatProg
import Derived.KernelRfl
set_option linter.unusedVariables false
set_option linter.unusedSimpArgs false
set_option linter.unusedSectionVars false
set_option maxRecDepth 100000
namespace Go.V
open Go Go.Proofs
theorem yim:ybs Tryz.prog 63 22:=
 ⟨Tryz.f63,4,33,Tryz.func63,by kernel_rfl,by kernel_rfl,by kernel_rfl,by kernel_rfl,Tryz.underlying22,by kernel_rfl⟩
theorem zz6 {P:Program} {st:St} {f:Operand} {xs:List Operand} {dst:Option Tmp} {K:St→Prop} {g t i j s1 s2 sz lo n T1 T2:Nat} {r1 r2:List (List D)} (hc:zbf (st.val f)=some (g,[])) (hx:xs.map st.val=[.ar i,.av j sz lo n]) (hij:i≠j) (hov:ybs P g t)
  (h1:st.look i=some (.arr T1 s1 r1)) (h2:st.look j=some (.arr T2 s2 r2)) (p1:0<r1.length) (p2:0<r2.length) (hs:s2≠0) (hk:K (st.put dst (.d (.bool false)))):zaj P st f xs dst K:=by
 refine zaj.over ?_
 unfold ybt
 rw [hc,hx]
 simp only
 refine ⟨hij,⟨t,hov⟩,?_⟩
 rw [h1,h2]
 cases r1 with
 | nil=>simp at p1
 | cons x1 y1=>
  cases r2 with
  | nil=>simp at p2
  | cons x2 y2=>exact ⟨hs,hk⟩
theorem zm5 {P:Program} (hmix:P.follows .mixedOrders=true) {id:Nat} {ops:List Oper} {st:St} {Q:DE→St→Prop} (hne:ops≠[]) (hok:zb2 ops=true) (hcut:cutB ops (ops.length-1)=true) (hg:(ops.getLast hne).guard=none)
  (hkeys:(st.own.map (·.1)).Nodup) (h:zuf P ops st.next (ops.getLast hne) ops.dropLast st (Q .normal)):Triple P (.region id ops.toArray true) Q st:=by
 obtain ⟨pre,o,rfl⟩ : ∃ pre o,ops=pre++[o]:=⟨ops.dropLast,ops.getLast hne,(List.dropLast_concat_getLast hne).symm⟩
 have hgl:(pre++[o]).getLast hne=o:=by simp
 rw [hgl] at hg h
 rw [List.dropLast_concat] at h
 refine ych hmix hok ?_ hg hkeys h
 simpa using hcut
theorem z3l {α:Type} (A X:List α) (b:α):(A++b::X).take (A.length+1)=A++[b]:=by
 rw [show A++b::X=(A++[b])++X by simp,List.take_left' (by simp)]
theorem ydt {α:Type} (A B X:List α) (b c:α):(A++b::(B++c::X)).drop (A.length+1+(B.length+1))=X:=by
 rw [show A++b::(B++c::X)=(A++b::(B++[c]))++X by simp,List.drop_left' (by simp;omega)]
theorem drop_end {α:Type} (A X:List α) (b:α) (n:Nat) (h:X.length=n):(A++b::X).drop (A.length+1+n)=[]:=by
 rw [List.drop_of_length_le (by simp;omega)]
def zin {α:Type} (l:List α) (i:Nat) (x:α):List α:=l.take i++x::l.drop i
set_option maxHeartbeats 1000000 in
theorem zz7 (A B:List (List D)) (b0 r:List D) (hA : ∀ x∈A,x.length=4) (hB : ∀ x∈B,x.length=4) (h0:b0.length=4) (hr:r.length=4) (hl:A.length+B.length<2^40) :
  zcq Tryz.prog 43 [.ar 0,.d (int A.length),.ar 1] [(0,.arr 33 4 (A++b0::B)),(1,.arr 33 4 [r])] 2
   (.d (.sl (A++r::b0::B))) 2 [] [0]:=by
 refine zet mixed Tryz.func43 rfl call_43 [0,3] (by simp) ?_
 have e1:((A.length:Int)+((B.length:Int)+1)+1-(A.length:Int))=(B.length:Int)+2:=by omega
 have e2:¬(A.length:Int)=(A.length:Int)+((B.length:Int)+1):=by omega
 have e3:¬(A.length:Int)=(A.length:Int)+((B.length:Int)+2):=by omega
 simp +decide [Tryz.f43,int,maxLen,I64,e2,-eCap]
 refine ⟨by omega,by omega,?_⟩
 simp only [eCap,ti_22]
 simp +decide [-zza]
 refine ⟨by omega,fun junk hj hjl=>?_⟩
 rcases junk with _ | ⟨j0,rest⟩
 ·have f1:0<A.length+(B.length+1):=by omega
  have f2:(A.length:Int)+((B.length:Int)+1)<(A.length:Int)+((B.length:Int)+1)+1:=by omega
  have f3:¬(A.length:Int)+((B.length:Int)+1)+1≤(A.length:Int)+((B.length:Int)+1):=by omega
  have f4:max ((B.length:Int)+2) 0=(B.length:Int)+2:=by omega
  have f5:((B.length:Int)+2).toNat=B.length+2:=by omega
  have f6:min A.length (A.length+(B.length+1))=A.length:=by omega
  simp +decide [int,maxLen,I64,e1,e2,e3,hr,h0,f1,f2,f3,f4,f5,f6];refine ⟨by omega,by omega,by omega,by omega,by omega,by omega,by omega,by omega,?_⟩
  refine zm5 mixed (by simp) (by rfl) (by rfl) (by rfl) (by simp) ?_
  have g1:((A.length:Int)+((B.length:Int)+2)).toNat-A.length=B.length+2:=by omega
  have g2:min (B.length+2) 1=1:=by omega
  have g4:¬(1:Int)=(B.length:Int)+1+1:=by omega
  have g5:((A.length:Int)+((B.length:Int)+1+1)).toNat-(A.length+1)=B.length+1:=by omega
  have g6:((A.length:Int)+((B.length:Int)+1)).toNat-A.length=B.length+1:=by omega
  have g7:(A.length:Int)+((B.length:Int)+1)≤(B.length:Int)+1+(A.length:Int):=by omega
  simp +decide [int,maxLen,I64,e1,e2,e3,hr,h0,f1,f2,f3,f4,f5,f6,g1,g2,g4,g5,g6,g7];refine ⟨by omega,by omega,by omega,hB,by omega,?_⟩
  rw [z3l,drop_end _ _ _ _ (by simp)]
  simp
 ·have f1:0<A.length+(B.length+(rest.length+1)+1):=by omega
  have f2:¬(rest.length:Int)+1<1:=by omega
  have f3:1≤(rest.length:Int)+1:=by omega
  have f4:max ((A.length:Int)+((B.length:Int)+1)+1) 0=((A.length+B.length+2:Nat):Int):=by omega
  have f5:((A.length:Int)+((B.length:Int)+1)+1).toNat=A.length+B.length+2:=by omega
  have f6:0<B.length+(rest.length+1):=by omega
  simp +decide [int,maxLen,I64,e1,e2,e3,hr,h0,f1,f2,f3,f4,f5,f6];refine ⟨by omega,by omega,by omega,by omega,?_⟩
  refine zz6 (by rfl) (by rfl) (by decide) yim (by rfl) (by rfl) (by simp) (by simp;omega) (by decide) ?_
  simp +decide [int,maxLen,I64,e1,e2,e3,hr,h0,f1,f2,f3,f4,f5,f6];refine zm5 mixed (by simp) (by rfl) (by rfl) (by rfl) (by simp) ?_
  have g1:A.length+B.length+2-(A.length+1)=B.length+1:=by omega
  have g2:A.length+B.length+2-A.length=B.length+2:=by omega
  have g3:(B++j0::rest).take (B.length+1)=B++[j0]:=by rw [show B++j0::rest=(B++[j0])++rest by simp,List.take_left' (by simp)]
  have g4:(A.length:Int)+1≤((A.length+B.length+2:Nat):Int):=by omega
  have k1:(A.length:Int)+(B.length:Int)+2≤(B.length:Int)+((rest.length:Int)+1)+1+(A.length:Int):=by omega
  have k2:((A.length:Int)+(B.length:Int)+2).toNat-A.length=B.length+2:=by omega
  have k3:((A.length:Int)+(B.length:Int)+2).toNat-(A.length+1)=B.length+1:=by omega
  simp +decide [int,maxLen,I64,hr,h0,f4,f5,f6,g1,g2,g3,g4,k1,k2,k3,z3l,ydt];refine ⟨by omega,by omega,by omega,fun a ha=>ha.elim (hB a) (fun e=>by rw [e];exact hj j0 (by simp)),by omega,by omega,?_⟩
  rw [if_pos]
  ·rw [show A++r::b0::(B++rest)=(A++r::b0::B)++rest by simp,List.take_left' (by simp;omega)]
  ·refine ⟨by omega,?_⟩
   cases A with
   | nil=>exact hr
   | cons a0 A'=>exact hA a0 (by simp)
theorem zwx (A:List (List D)) (r:List D) (hA : ∀ x∈A,x.length=4) (hr:r.length=4) (hl:A.length<2^40) :
  zcq Tryz.prog 43 [.ar 0,.d (int A.length),.ar 1] [(0,.arr 33 4 A),(1,.arr 33 4 [r])] 2
   (.d (.sl (A++[r]))) 2 [] [0]:=by
 refine zet mixed Tryz.func43 rfl call_43 [0,3] (by simp) ?_
 simp +decide [Tryz.f43,int,maxLen,I64,hr]
 omega
theorem z5q (l:List Dec) (d:Dec) (i:Nat) (hi:i≤l.length) (hl:l.length<2^40) :
  zcq Tryz.prog 43 [.ar 0,.d (int i),.ar 1] [(0,.arr 33 4 (l.map Dec.row)),(1,.arr 33 4 [d.row])] 2
   (.d (.sl ((zin l i d).map Dec.row))) 2 [] [0]:=by
 have hrow : ∀ (m:List Dec),∀ x∈m.map Dec.row,x.length=4:=by
  intro m x hx;obtain ⟨e,_,rfl⟩:=List.mem_map.1 hx;rfl
 by_cases hin:i=l.length
 ·subst hin
  have:=zwx (l.map Dec.row) d.row (hrow l) rfl (by simpa using hl)
  simp only [List.length_map] at this;simpa [zin] using this
 ·have hlt:i<l.length:=by omega
  have hd:l.drop i=l[i]::l.drop (i+1):=List.drop_eq_getElem_cons hlt
  have hl':l=l.take i++l[i]::l.drop (i+1):=by rw [← hd,List.take_append_drop]
  have hti:((l.take i).map Dec.row).length=i:=by simp;omega
  have:=zz7 ((l.take i).map Dec.row) ((l.drop (i+1)).map Dec.row) l[i].row d.row (hrow _) (hrow _) rfl rfl (by simp;omega)
  rw [hti] at this;have e1:(l.take i).map Dec.row++l[i].row::(l.drop (i+1)).map Dec.row=l.map Dec.row:=by
   have:=congrArg (List.map Dec.row) hl'
   rw [List.map_append,List.map_cons] at this;exact this.symm
  have e2:(l.take i).map Dec.row++d.row::l[i].row::(l.drop (i+1)).map Dec.row=(zin l i d).map Dec.row:=by
   unfold zin;rw [hd,List.map_append,List.map_cons,List.map_cons]
  rw [e1,e2] at this;exact this
end Go.V
namespace Go.V
open Go Go.Proofs
def zfo (d x:Dec):Bool:=decide (cmpD x d=0) || za8 d x
def zcd (d:Dec) (s:List Dec×Nat) (x:Dec):List Dec×Nat:=if zfo d x=true then s else (s.1++[x],if cmpD x d<0 then (s.1++[x]).length else s.2)
def putS (d:Dec) (l:List Dec):List Dec×Nat:=l.foldl (zcd d) ([],0)
theorem z9c {d:Dec} {l:List Dec} {k:Nat} (h:k<l.length):putS d (l.take (k+1))=zcd d (putS d (l.take k)) l[k]:=by
 unfold putS;rw [take_snoc h,List.foldl_append];rfl
theorem zz8 (d:Dec) (s:List Dec×Nat) (x:Dec) (h:s.2≤s.1.length):(zcd d s x).1.length≤s.1.length+1∧(zcd d s x).2≤(zcd d s x).1.length:=by
 unfold zcd
 split
 ·exact ⟨by omega,h⟩
 ·simp only [List.length_append,List.length_cons,List.length_nil]
  refine ⟨by omega,?_⟩
  split <;> omega
theorem ydu (d:Dec) (l:List Dec):(putS d l).1.length≤l.length∧(putS d l).2≤(putS d l).1.length:=by
 have key : ∀ (l:List Dec) (s:List Dec×Nat),s.2≤s.1.length→(l.foldl (zcd d) s).1.length≤s.1.length+l.length∧(l.foldl (zcd d) s).2≤(l.foldl (zcd d) s).1.length:=by
  intro l;induction l with
  | nil=>intro s h;exact ⟨by simp,h⟩
  | cons x r ih=>
   intro s h;have h1:=zz8 d s x h;have h2:=ih (zcd d s x) h1.2;simp only [List.foldl_cons,List.length_cons];exact ⟨by omega,h2.2⟩
 have:=key l ([],0) (by simp)
 unfold putS
 simpa using this
def putP (l:List Dec) (d:Dec):List Dec:=if zcc [d]=0 then zin (putS d l).1 (putS d l).2 d else l
theorem yjs {d:Dec} (h:d.fit):zpt [d]:=fun x hx=>by simp at hx;rw [hx];exact h
theorem ydw (l:List Dec) (d:Dec) (hl:l.length<2^39) (hf:zpt l) (hd:d.fit):zam Tryz.prog 19 [za0 l,.agg d.row] (za0 (putP l d)):=by
 refine zaa mixed Tryz.func19 rfl call_19 ?_
 simp [Tryz.f19,za0,Dec.row,int]
 refine zaj.pure (by rfl) (ydq [d] (by simp) (yjs hd)) (fun _=>rfl) ?_
 by_cases hc:zcc [d]=0
 ·simp +decide [hc,int]
  refine zaf mixed (fun k:Nat=>{n:=45,next:=4,slots:=[(3,.bp 0 0),(5,.ar 3),(6,.d (.int .i64 (putS d (l.take k)).2)),(15,.d (za0 l)),(16,.d (.int .i64 l.length)),(17,.d (.int .i64 k))],own:=[(0,.box 33 [.d (int d.ref.rcd),.d (int d.ref.note),.d (.bool d.yes),.d (zab d.pick)]),(3,.arr 33 4 ((putS d (l.take k)).1.map Dec.row))],moved:=[3]})
   (fun k=>k≤l.length) (fun k=>l.length-k) 0 (by simp) (by simp [za0,int,putS]) ?_
  intro k hk;have hpl:=ydu d (l.take k);have htl:(l.take k).length≤l.length:=by simp;omega
  by_cases hlt:k<l.length
  ·have e1:l[k]?=some l[k]:=List.getElem?_eq_getElem hlt
   have hs:=z9c (d:=d) hlt;simp +decide [za0,Dec.row,int,e1,hlt,I64];refine zaj.pure (by rfl) (zpr l[k] d (hf _ (List.getElem_mem hlt)) hd) (by simp) ?_
   by_cases g1:cmpD l[k] d=0
   ·have hg:zfo d l[k]=true:=by simp [zfo,g1]
    unfold zcd at hs;rw [if_pos hg] at hs;simp +decide [int,g1,I64];exact ⟨by omega,k+1,hlt,by omega,⟨by rw [hs],by omega⟩,by rw [hs]⟩
   ·simp +decide [int,g1,I64,za0,Dec.row,zab]
    refine zaj.pure (by rfl) (zwu d l[k]) (by simp) ?_
    cases g2:za8 d l[k]
    ·have hg:¬ zfo d l[k]=true:=by simp [zfo,g1,g2]
     unfold zcd at hs;rw [if_neg hg] at hs;by_cases g3:cmpD l[k] d<0
     ·rw [if_pos g3] at hs
      simp +decide [int,g1,g2,g3,I64,za0,Dec.row,maxLen];exact ⟨by omega,by omega,by omega,k+1,hlt,by omega,⟨by rw [hs];simp,by omega⟩,by rw [hs];simp [Dec.row,int,zab]⟩
     ·rw [if_neg g3] at hs
      simp +decide [int,g1,g2,g3,I64,za0,Dec.row,maxLen];exact ⟨by omega,by omega,by omega,k+1,hlt,by omega,⟨by rw [hs],by omega⟩,by rw [hs];simp [Dec.row,int,zab]⟩
    ·have hg:zfo d l[k]=true:=by simp [zfo,g2]
     unfold zcd at hs;rw [if_pos hg] at hs;simp +decide [int,g1,g2,I64];exact ⟨by omega,k+1,hlt,by omega,⟨by rw [hs],by omega⟩,by rw [hs]⟩
  ·have:k=l.length:=by omega
   subst this;rw [List.take_length] at hpl;simp +decide [za0,int];refine zaj.mut [3,4] [.ar 0,.d (int (putS d l).2),.ar 1] [(0,.arr 33 4 ((putS d l).1.map Dec.row)),(1,.arr 33 4 [d.row])] (by rfl) (by simp [int]) (by simp) (by simp [int,Dec.row];rfl) (z5q (putS d l).1 d (putS d l).2 hpl.2 (by omega)) ?_
   simp [putP,hc]
 ·simp +decide [hc,int,za0,putP]
end Go.V
namespace Go.V
open Go Go.Proofs
def scD (P:Program) (f:Nat):Bool:=match P.funcs[f]? with
 | some fn=>match fn.resultTypes.toList with
  | [T]=>(match TI.of P T with
   | some ⟨.int _,_,_,_,_⟩=>true
   | some ⟨.bool,_,_,_,_⟩=>true
   | some ⟨.str,_,_,_,_⟩=>true
   | _=>false)
  | _=>false
 | none=>false
def fnD (P:Program) (f:Nat):Option (Nat×Code×List ResultVar):=match P.funcs[f]? with
 | some fn=>match fn.body with
  | some c=>some (fn.ntmps,c,fn.results.toList)
  | none=>none
 | none=>none
def mkG (P:Program):XG:=⟨fun t=>TI.of P t,fun t=>zfit P t,fun t=>eqKinds P t,fnD P,scD P,fun _=>none,fun _=>none,fun _=>false⟩
def z9d (P:Program):Bool:=(List.range P.funcs.size).all fun f=>match P.funcs[f]? with
 | some fn => fn.name != "runtime.NumGoroutine"
 | none=>true
theorem ydx {P:Program} (h:z9d P=true):XGood P (mkG P):=by
 refine ⟨fun h=>h,fun h=>h,fun h=>h,?_,fun h=>(by cases h),fun h=>(by cases h)⟩
 intro f n c rs hf
 have hf:fnD P f=some (n,c,rs):=hf
 unfold fnD at hf
 split at hf
 ·rename_i fn hfn
  split at hf
  ·rename_i c' hb
   cases hf;refine ⟨?_,fn,hfn,hb,rfl,rfl⟩
   unfold z9d at h;have hlt:f<P.funcs.size:=by
    obtain ⟨h1,_⟩:=Array.getElem?_eq_some_iff.1 hfn;exact h1
   have:=(List.all_eq_true.1 h) f (List.mem_range.2 hlt)
   rw [hfn] at this;unfold callable;rw [hfn];simp only at this ⊢
   rw [this,hb];rfl
  ·cases hf
 ·cases hf
theorem ygs:z9d Tryz.prog=true:=by kernel_rfl
theorem ygt:Tryz.prog.follows .mixedOrders=true:=by kernel_rfl
def isT (r:Option XR):Bool:=match r with
 | some ⟨.d (.bool true),_,_,_⟩=>true
 | _=>false
theorem zz9 {f k:Nat} (h:isT (yf6 (mkG Tryz.prog) (ydf (mkG Tryz.prog)) k f [] [] 0)=true):zam Tryz.prog f [] (.bool true):=by
 have hg:=ydi ygt (ydx ygs) k
 unfold isT at h
 split at h
 ·rename_i nx own mv hr
  have:=hg _ _ _ _ _ hr (by simp [Sym.los])
  exact zkr (ds:=[]) this
 ·cases h
theorem z0a:isT (yf6 (mkG Tryz.prog) (ydf (mkG Tryz.prog)) 50 14 [] [] 0)=true:=by kernel_rfl
theorem zgs:zam Tryz.prog 14 [] (.bool true):=zz9 z0a
end Go.V
namespace Go.V
open Go Go.Proofs
theorem zs3 {l:List Dec} (h:zkg l=true):fewL l=true:=by
 unfold zkg at h;rw [Bool.and_eq_true] at h;exact h.1
theorem z3m {l:List Dec} (h:fewL l=true):l.length≤40:=by
 simp only [fewL,Bool.and_eq_true,decide_eq_true_eq] at h;exact h.1
end Go.V
namespace Go.V
open Go Go.Proofs
theorem zwy {a b c:Prt} (h:zel a b=true) (h':zel b c=true):zel a c=true:=by
 unfold zel at h h' ⊢
 by_cases e1:a.entry=b.entry <;> by_cases e2:b.entry=c.entry <;> by_cases e3:a.alt=b.alt <;> by_cases e4:b.alt=c.alt <;>
  by_cases e5:a.entry=c.entry <;> by_cases e6:a.alt=c.alt <;> simp only [e1,e2,e3,e4,e5,e6,if_true,if_false,decide_eq_true_eq] at h h' ⊢ <;> first | omega | (simp_all;omega) | simp_all
theorem zwz (a:Prt):zel a a=false:=by simp [zel]
theorem zn5 : ∀ {a b c:List Prt},zbc a b=true→zbc b c=true→zbc a c=true
 | _,[],_,h,_=>by simp [zbc] at h
 | _,_::_,[],_,h=>by simp [zbc] at h
 | [],_::_,_::_,_,_=>by simp [zbc]
 | x::a,y::b,z::c,h,h'=>by
  simp only [zbc] at h h' ⊢;by_cases e1:x=y
  ·subst e1
   rw [if_pos rfl] at h;by_cases e2:x=z
   ·subst e2
    rw [if_pos rfl] at h' ⊢;exact zn5 h h'
   ·rw [if_neg e2] at h' ⊢;exact h'
  ·rw [if_neg e1] at h
   by_cases e2:y=z
   ·subst e2;rw [if_neg e1];exact h
   ·rw [if_neg e2] at h'
    have h3:=zwy h h';have e3:¬ x=z:=by intro e;subst e;rw [zwz] at h3;cases h3
    rw [if_neg e3];exact h3
theorem zkw {a b c:Dec} (h:zcw a b=true) (h':zcw b c=true):zcw a c=true:=by
 unfold zcw at h h' ⊢
 by_cases e1:a.ref.rcd=b.ref.rcd
 ·by_cases e2:b.ref.rcd=c.ref.rcd
  ·rw [if_pos e1] at h;rw [if_pos e2] at h';rw [if_pos (e1.trans e2)]
   by_cases e3:a.ref.note=b.ref.note
   ·by_cases e4:b.ref.note=c.ref.note
    ·rw [if_pos e3] at h;rw [if_pos e4] at h';rw [if_pos (e3.trans e4)]
     exact zn5 h h'
    ·rw [if_neg e4] at h';rw [if_neg (fun e=>e4 (e3.symm.trans e))]
     simp only [decide_eq_true_eq] at h' ⊢;omega
   ·rw [if_neg e3] at h
    simp only [decide_eq_true_eq] at h;by_cases e4:b.ref.note=c.ref.note
    ·rw [if_neg (fun e=>e3 (e.trans e4.symm))];simp only [decide_eq_true_eq];omega
    ·rw [if_neg e4] at h'
     simp only [decide_eq_true_eq] at h';rw [if_neg (by omega)];simp only [decide_eq_true_eq];omega
  ·rw [if_neg e2] at h';rw [if_neg (fun e=>e2 (e1.symm.trans e))]
   simp only [decide_eq_true_eq] at h' ⊢;omega
 ·rw [if_neg e1] at h
  simp only [decide_eq_true_eq] at h;by_cases e2:b.ref.rcd=c.ref.rcd
  ·rw [if_neg (fun e=>e1 (e.trans e2.symm))];simp only [decide_eq_true_eq];omega
  ·rw [if_neg e2] at h'
   simp only [decide_eq_true_eq] at h';rw [if_neg (by omega)];simp only [decide_eq_true_eq];omega
theorem zw0 (a:Dec):zcw a a=false:=by simp [zcw,zf2]
theorem z0b {a b:Dec} (h:zcw a b=false) (h':zcw b a=false):a.ref=b.ref∧a.pick=b.pick:=by
 unfold zcw at h h'
 by_cases e1:a.ref.rcd=b.ref.rcd
 ·rw [if_pos e1] at h;rw [if_pos e1.symm] at h'
  by_cases e2:a.ref.note=b.ref.note
  ·rw [if_pos e2] at h;rw [if_pos e2.symm] at h'
   exact ⟨zm3.2 ⟨e1,e2⟩,zku h h'⟩
  ·rw [if_neg e2] at h;rw [if_neg (fun e=>e2 e.symm)] at h'
   simp at h h';omega
 ·rw [if_neg e1] at h;rw [if_neg (fun e=>e1 e.symm)] at h'
  simp at h h';omega
theorem z5r {l:List Dec} {k:Nat} {e:Int} (h:zbn l k=some e):e≠0:=by
 unfold zbn at h
 split at h
 ·cases h
 ·repeat' split at h
  all_goals first | (cases h;decide) | cases h
theorem zpv {l:List Dec} (h:zcc l=0) : ∀ k,k<l.length→zbn l k=none:=by
 unfold zcc at h
 cases hf:(List.range l.length).findSome? (zbn l) with
 | none=>
  rw [List.findSome?_eq_none_iff] at hf;intro k hk;exact hf k (List.mem_range.2 hk)
 | some e=>
  rw [hf] at h;obtain ⟨k,_,hk⟩:=List.exists_of_findSome?_eq_some hf;exact absurd h (z5r hk)
structure AtOk (l:List Dec) (k:Nat) (h:k<l.length):Prop where
 rcd:isId l[k].ref.rcd=true
 note:isId l[k].ref.note=true
 ne:l[k].pick.length≠0
 le:l[k].pick.length≤4
 less : ∀ j (hj:j+1=k),zcw (l[j]'(by omega)) l[k]=true
 riv:(l.take k).any (za8 l[k])=false
theorem zio {l:List Dec} {k:Nat} (h:k<l.length):zbn l k=none↔AtOk l k h:=by
 have e1:l[k]?=some l[k]:=List.getElem?_eq_getElem h
 constructor
 ·intro hc
  unfold zbn at hc;rw [e1] at hc;simp only at hc
  by_cases g1:isId l[k].ref.rcd=true
  ·rw [if_pos g1] at hc
   by_cases g2:isId l[k].ref.note=true
   ·rw [if_pos g2] at hc
    by_cases g3:l[k].pick.length=0
    ·rw [if_pos g3] at hc;cases hc
    ·rw [if_neg g3] at hc
     by_cases g4:l[k].pick.length>4
     ·rw [if_pos g4] at hc;cases hc
     ·rw [if_neg g4] at hc
      cases k with
      | zero=>exact ⟨g1,g2,g3,by omega,fun j hj=>by omega,by simp⟩
      | succ j=>
       have hjl:j<l.length:=by omega
       have e0:l[j]?=some l[j]:=List.getElem?_eq_getElem hjl
       simp only [Nat.add_sub_cancel,e0,Nat.zero_lt_succ,decide_true,Bool.true_and] at hc;by_cases g5:(!zcw l[j] l[j+1])=true
       ·rw [if_pos g5] at hc;cases hc
       ·rw [if_neg g5] at hc
        by_cases g6:(l.take (j+1)).any (za8 l[j+1])=true
        ·rw [if_pos g6] at hc;cases hc
        ·refine ⟨g1,g2,g3,by omega,fun j' hj=>?_,by simpa using g6⟩
         have:j'=j:=by omega
         subst this;simpa using g5
   ·rw [if_neg g2] at hc;cases hc
  ·rw [if_neg g1] at hc;cases hc
 ·intro ⟨h1,h2,h3,h4,h5,h6⟩
  have h4':¬ l[k].pick.length>4:=by omega
  cases k with
  | zero=>simp only [zbn,e1,h1,h2,h3,h4',h6,if_true,if_false];simp
  | succ j=>
   have hjl:j<l.length:=by omega
   have e0:l[j]?=some l[j]:=List.getElem?_eq_getElem hjl
   simp only [zbn,e1,h1,h2,h3,h4',h6,if_true,if_false,Nat.add_sub_cancel,e0,h5 j rfl];simp
def zdo (l:List Dec):Prop:=l.Pairwise (fun a b=>zcw a b=true)
theorem z9e {l:List Dec} (h : ∀ k (hk:k+1<l.length),zcw l[k] l[k+1]=true):zdo l:=by
 unfold zdo
 rw [List.pairwise_iff_getElem]
 intro i j hi hj hij
 induction j with
 | zero=>omega
 | succ j ih=>
  by_cases e:i=j
  ·subst e;exact h i hj
  ·exact zkw (ih (by omega) (by omega)) (h j hj)
theorem zlp {l:List Dec} (h:zcc l=0):zdo l:=z9e fun k hk=>((zio hk).1 (zpv h (k+1) hk)).less k rfl
def zpw (d:Dec) (l:List Dec):List Dec:=l.filter fun x=>!zfo d x&&zcw x d
def zpx (d:Dec) (l:List Dec):List Dec:=l.filter fun x=>!zfo d x && !zcw x d
def putN (l:List Dec) (d:Dec):List Dec:=if zcc [d]=0 then zpw d l++d::zpx d l else l
theorem ygu {d x:Dec} {r:List Dec} (hs:zdo (x::r)) (hx:zcw x d=false) : ∀ y∈r,zcw y d=false:=by
 intro y hy
 have hxy:=(List.pairwise_cons.1 hs).1 y hy
 cases h:zcw y d with
 | false=>rfl
 | true=>have:=zkw hxy h;rw [hx] at this;cases this
theorem ydy {d:Dec} {r:List Dec} (h : ∀ y∈r,zcw y d=false):zpw d r=[]:=by
 unfold zpw;rw [List.filter_eq_nil_iff];intro y hy;simp [h y hy]
theorem ydz {d:Dec} {r:List Dec} (h : ∀ y∈r,zcw y d=false):zpx d r=r.filter fun x=>!zfo d x:=by
 unfold zpx;apply List.filter_congr;intro y hy;simp [h y hy]
theorem z0c (x d:Dec):cmpD x d<0↔zcw x d=true:=z3i x d
theorem z0d {d:Dec} : ∀ {r:List Dec} {out:List Dec} {k:Nat},(∀ y∈r,zcw y d=false)→r.foldl (zcd d) (out,k)=(out++r.filter (fun x=>!zfo d x),k)
 | [],out,k,_=>by simp
 | x::r,out,k,h=>by
  have hx:=h x (by simp)
  have hn:¬ cmpD x d<0:=by rw [z0c,hx];simp
  simp only [List.foldl_cons,zcd];by_cases g:zfo d x=true
  ·rw [if_pos g,z0d fun y hy=>h y (by simp [hy])];simp [g]
  ·rw [if_neg g,if_neg hn,z0d fun y hy=>h y (by simp [hy])];simp [g]
theorem zuv {d:Dec} : ∀ {l:List Dec} {out:List Dec},zdo l→zin (l.foldl (zcd d) (out,out.length)).1 (l.foldl (zcd d) (out,out.length)).2 d=out++zpw d l++d::zpx d l
 | [],out,_=>by simp [zin,zpw,zpx]
 | x::r,out,hs=>by
  have hs':zdo r:=(List.pairwise_cons.1 hs).2
  simp only [List.foldl_cons];by_cases g:zfo d x=true
  ·have e:zcd d (out,out.length) x=(out,out.length):=by simp [zcd,g]
   rw [e,zuv hs'];simp [zpw,zpx,g]
  ·cases hx:zcw x d
   ·have hn:¬ cmpD x d<0:=by rw [z0c,hx];simp
    have e:zcd d (out,out.length) x=(out++[x],out.length):=by simp [zcd,g,hn]
    have hr:=ygu hs hx;rw [e,z0d hr];have h1:zpw d (x::r)=[]:=ydy (by intro y hy;rcases List.mem_cons.1 hy with e | hy;rw [e];exact hx;exact hr y hy)
    have h2:zpx d (x::r)=x::r.filter (fun x=>!zfo d x):=by rw [ydz (by intro y hy;rcases List.mem_cons.1 hy with e | hy;rw [e];exact hx;exact hr y hy)];simp [g]
    rw [h1,h2];simp [zin]
   ·have hn:cmpD x d<0:=by rw [z0c,hx]
    have e:zcd d (out,out.length) x=(out++[x],(out++[x]).length):=by simp [zcd,g,hn]
    rw [e,zuv hs'];simp [zpw,zpx,g,hx]
theorem ygv {l:List Dec} {d:Dec} (hs:zdo l):putP l d=putN l d:=by
 unfold putP putN
 split
 ·have:=zuv (d:=d) (out:=[]) hs
  simpa [putS] using this
 ·rfl
theorem z3n (l:List Dec) (d:Dec):(putN l d).length≤2*l.length+1:=by
 unfold putN zpw zpx
 split
 ·have h1:=List.length_filter_le (fun x=>!zfo d x&&zcw x d) l
  have h2:=List.length_filter_le (fun x=>!zfo d x && !zcw x d) l
  simp only [List.length_append,List.length_cons];omega
 ·omega
theorem zlq {l:List Dec} (h:zkg l=true):zdo l:=by
 unfold zkg at h;rw [Bool.and_eq_true,decide_eq_true_eq] at h;exact zlp h.2
end Go.V
namespace Go.V
open Go Go.Proofs
theorem zlr {l:List Dec} (p:Dec→Bool) (h:zdo l):zdo (l.filter p):=List.Pairwise.filter p h
theorem z5s {d x:Dec} (h:zcw x d=false) (h':zfo d x=false):zcw d x=true:=by
 cases hl:zcw d x with
 | true=>rfl
 | false=>
  have:=(zwv x d).2 (z0b h hl)
  simp [zfo,this] at h'
theorem z0e {l:List Dec} {d:Dec} (h:zdo l):zdo (putN l d):=by
 unfold putN
 split
 ·unfold zdo
  rw [List.pairwise_append];have hg : ∀ y∈zpx d l,zcw d y=true:=by
   intro y hy;have:=(List.mem_filter.1 hy).2
   simp at this
   exact z5s this.2 this.1
  have hk : ∀ x∈zpw d l,zcw x d=true:=by
   intro x hx;have:=(List.mem_filter.1 hx).2
   simp at this
   exact this.2
  refine ⟨zlr _ h,List.pairwise_cons.2 ⟨hg,zlr _ h⟩,?_⟩
  intro a ha b hb;rcases List.mem_cons.1 hb with e | hb
  ·subst e;exact hk a ha
  ·exact zkw (hk a ha) (hg b hb)
 ·exact h
theorem zhk {l:List Dec} {d x:Dec} (hc:zcc [d]=0):x∈putN l d↔x=d∨(x∈l∧zfo d x=false):=by
 unfold putN zpw zpx
 rw [if_pos hc,List.mem_append,List.mem_cons,List.mem_filter,List.mem_filter]
 cases h:zcw x d <;> simp [h,or_comm]
theorem ygw {d x:Dec} (hy:d.yes=false):zfo d x=false↔cmpD x d≠0:=by
 simp [zfo,za8,hy]
theorem z9f (l:List Dec) (d:Dec) (hs:zdo l) (hl:l.length<2^39) (hf:zpt l) (hd:d.fit):zam Tryz.prog 19 [za0 l,.agg d.row] (za0 (putN l d)):=by
 have:=ydw l d hl hf hd
 rwa [ygv hs] at this
end Go.V
namespace Go.V
open Go Go.Proofs
def ofL (l:List Dec) (r:Rf):List Dec:=l.filter fun d=>decide (d.ref=r)
theorem z5t (l:List Dec) (r:Rf) (hl:l.length<2^40):zam Tryz.prog 34 [za0 l,refD r] (za0 (ofL l r)):=by
 refine zaa mixed Tryz.func34 rfl call_34 ?_
 simp [Tryz.f34,za0,refD,Rf.row,int]
 refine zaf mixed (fun k:Nat=>{n:=28,next:=3,slots:=[(0,.d (za0 l)),(3,.bp 0 0),(5,.ar 2),(7,.d (za0 l)),(8,.d (.int .i64 l.length)),(9,.d (.int .i64 k))],own:=[(0,.box 28 [.d (int r.rcd),.d (int r.note)]),(2,.arr 33 4 (((l.take k).filter fun d=>decide (d.ref=r)).map Dec.row))],moved:=[2]})
  (fun k=>k≤l.length) (fun k=>l.length-k) 0 (by simp) (by simp [za0,int]) ?_
 intro k hk
 by_cases hlt:k<l.length
 ·have e1:l[k]?=some l[k]:=List.getElem?_eq_getElem hlt
  have hfs:=zhj (p:=fun d:Dec=>decide (d.ref=r)) hlt
  have hln:=z5p (fun d:Dec=>decide (d.ref=r)) l k
  by_cases g:l[k].ref=r
  ·have g':=zm3.1 g
   simp [g] at hfs;simp +decide [za0,Dec.row,int,e1,hlt,I64,g'.1,g'.2,maxLen];exact ⟨by omega,by omega,by omega,k+1,hlt,by omega,by omega,by simp [hfs,Dec.row,int,g'.1,g'.2]⟩
  ·have g':l[k].ref.rcd=r.rcd→¬ l[k].ref.note=r.note:=fun a b=>g (zm3.2 ⟨a,b⟩)
   simp [g] at hfs;by_cases g1:l[k].ref.rcd=r.rcd
   ·have g2:=g' g1
    simp +decide [za0,Dec.row,int,e1,hlt,I64,g1,g2,maxLen];exact ⟨by omega,k+1,hlt,by omega,by omega,by simp [hfs]⟩
   ·simp +decide [za0,Dec.row,int,e1,hlt,I64,g1,maxLen]
    exact ⟨by omega,k+1,hlt,by omega,by omega,by simp [hfs]⟩
 ·have:k=l.length:=by omega
  subst this;simp +decide [za0,int,ofL]
theorem zpy (x y:Dec):za8 x y=za8 y x:=by
 unfold za8
 have:decide (x.ref=y.ref)=decide (y.ref=x.ref):=by rw [Bool.eq_iff_iff];simp [eq_comm]
 rw [this];cases x.yes <;> cases y.yes <;> simp
structure GoodD (x:Dec):Prop where
 rcd:isId x.ref.rcd=true
 note:isId x.ref.note=true
 ne:x.pick.length≠0
 le:x.pick.length≤4
theorem zjs (l:List Dec):zcc l=0↔(∀ x∈l,GoodD x)∧zdo l∧∀ x∈l,∀ y∈l,x≠y→za8 x y=false:=by
 constructor
 ·intro h
  have at':=fun k (hk:k<l.length)=>(zio hk).1 (zpv h k hk)
  refine ⟨fun x hx=>?_,zlp h,fun x hx y hy hne=>?_⟩
  ·obtain ⟨k,hk,rfl⟩:=List.mem_iff_getElem.1 hx
   have:=at' k hk
   exact ⟨this.rcd,this.note,this.ne,this.le⟩
  ·obtain ⟨i,hi,rfl⟩:=List.mem_iff_getElem.1 hx
   obtain ⟨j,hj,rfl⟩:=List.mem_iff_getElem.1 hy;have key : ∀ i j (hi:i<l.length) (hj:j<l.length),i<j→za8 l[j] l[i]=false:=by
    intro i j hi hj hij;have:=(at' j hj).riv
    rw [List.any_eq_false] at this;have:=this l[i] (by rw [List.mem_take_iff_getElem];exact ⟨i,by omega,rfl⟩)
    simpa using this
   rcases Nat.lt_trichotomy i j with h1 | h1 | h1
   ·rw [zpy];exact key i j hi hj h1
   ·subst h1;exact absurd rfl hne
   ·exact key j i hj hi h1
 ·rintro ⟨h1,h2,h3⟩
  refine zkv fun k hk=>(zio hk).2 ?_
  have hg:=h1 _ (List.getElem_mem hk);unfold zdo at h2;rw [List.pairwise_iff_getElem] at h2;refine ⟨hg.rcd,hg.note,hg.ne,hg.le,fun j hj=>h2 j k (by omega) hk (by omega),?_⟩
  rw [List.any_eq_false];intro y hy;rw [List.mem_take_iff_getElem] at hy;obtain ⟨i,hi,rfl⟩:=hy;have hil:i<l.length:=by omega
  have hne:l[k]≠l[i]:=by
   intro e;have:=h2 i k hil hk (by omega)
   rw [e,zw0] at this;cases this
  rw [h3 _ (List.getElem_mem hk) _ (List.getElem_mem hil) hne];simp
theorem z9g {l:List Dec} {d:Dec} (h:zcc l=0) (hd:zcc [d]=0):zcc (putN l d)=0:=by
 obtain ⟨h1,h2,h3⟩:=(zjs l).1 h
 obtain ⟨g1,_,_⟩:=(zjs [d]).1 hd
 refine (zjs _).2 ⟨fun x hx=>?_,z0e h2,fun x hx y hy hne=>?_⟩
 ·rcases (zhk hd).1 hx with e | ⟨hx,_⟩
  ·exact g1 x (by simp [e])
  ·exact h1 x hx
 ·have key : ∀ y,y∈l→zfo d y=false→za8 d y=false:=by
   intro y _ hg;unfold zfo at hg;rw [Bool.or_eq_false_iff] at hg;exact hg.2
  rcases (zhk hd).1 hx with e | ⟨hx',gx⟩
  ·subst e
   rcases (zhk hd).1 hy with e | ⟨hy',gy⟩
   ·exact absurd e.symm hne
   ·exact key y hy' gy
  ·rcases (zhk hd).1 hy with e | ⟨hy',gy⟩
   ·subst e;rw [zpy];exact key x hx' gx
   ·exact h3 x hx' y hy' hne
theorem z0f {l:List Dec} {d:Dec} (hd:zcc [d]=0):d∈putN l d:=(zhk hd).2 (.inl rfl)
theorem zs4 {l:List Dec} {d:Dec} (h:zcc l=0) (hd:zcc [d]=0) (hy:d.yes=true):zck (putN l d) d.ref=(d.pick,true):=by
 obtain ⟨_,_,h3⟩:=(zjs _).1 (z9g h hd)
 unfold zck
 cases hf:(putN l d).find? (fun x=>decide (x.ref=d.ref)&&x.yes) with
 | none=>
  rw [List.find?_eq_none] at hf;have:=hf d (z0f hd)
  simp [hy] at this
 | some x=>
  have hx:=List.mem_of_find?_eq_some hf;have hp:=List.find?_some hf;simp at hp
  by_cases e:x=d
  ·subst e;rfl
  ·have:=h3 x hx d (z0f hd) e
   simp [za8,hp.1,hp.2,hy] at this
end Go.V
namespace Go.V
open Go Go.Proofs
end Go.V

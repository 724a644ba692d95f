/- Contracts and plain laws of this seat: part MC. It needs no conditions. -/
import Derived.Test.YtmpknkjlhapcmaaGreatM2
import Derived.Test.YtmpknkjlhapcmaaGreatMB
import Derived.Test.YtmpknkjlhapcmaaGreatM9
import Derived.Test.YtmpknkjlhapcmaaGreatM1
set_option linter.unusedVariables false
set_option linter.unusedSimpArgs false
set_option linter.unusedSectionVars false
set_option maxRecDepth 100000
namespace Go.V
open Go Go.Proofs
def rejD (r:Rf) (q:List Prt) (d:Dec):Bool:=decide (d.ref=r)&&(!d.yes&&decide (d.pick=q))
def rejL (l:List Dec) (r:Rf) (q:List Prt):Bool:=l.any (rejD r q)
theorem zya (d:Dec) (r:Rf) (q:List Prt) (hq:q.length<2^62):zam Tryz.prog 73 [.agg d.row,.ptr [int r.rcd,int r.note],.ptr [zab q]] (.bool (rejD r q d)):=by
 refine zaa mixed Tryz.func73 rfl call_73 ?_
 have hS:=z5m d.pick q hq
 unfold rejD
 by_cases c1:d.ref.rcd=r.rcd
 ·by_cases c2:d.ref.note=r.note
  ·have c3:d.ref=r:=zm3.2 ⟨c1,c2⟩
   cases hy:d.yes
   ·simp +decide [Tryz.f73,Dec.row,int,c1,c2,c3,hy]
    refine zaj.pure (by rfl) hS (by simp [anaD]) ?_
    simp +decide
   ·simp +decide [Tryz.f73,Dec.row,int,c1,c2,c3,hy]
  ·have c3:¬ d.ref=r:=fun e=>c2 (by rw [e])
   simp +decide [Tryz.f73,Dec.row,int,c1,c2,c3]
 ·have c3:¬ d.ref=r:=fun e=>c1 (by rw [e])
  simp +decide [Tryz.f73,Dec.row,int,c1,c3]
theorem z1f (l:List Dec) (hl:l.length<2^62) (r:Rf) (q:List Prt) (hq:q.length<2^62):zam Tryz.prog 72 [anaD q,.ptr [za0 l],.ptr [int r.rcd,int r.note]] (.bool (rejL l r q)):=by
 refine zaa mixed Tryz.func72 rfl call_72 ?_
 have hC:=zn4 l hl 73 [.ptr [int r.rcd,int r.note],.ptr [zab q]] (rejD r q) (fun x _=>zya x r q hq)
 simp +decide [Tryz.f72,anaD,int]
 refine zaj.pure (by rfl) hC (by simp [D.scalar]) ?_
 simp +decide [rejL]
theorem ya2 (l:List (List Prt)) (hl:l.length<2^62) (f:Nat) (caps:List D) (p:List Prt→Bool) (hf : ∀ x∈l,zam Tryz.prog f (anaD x::caps) (.bool (p x))) :
  zam Tryz.prog 95 [zb4 l,.fn f caps] (int (idxI p l)):=by
 refine zaa mixed Tryz.func95 rfl call_95 ?_
 simp [Tryz.f95,zb4]
 refine zaf mixed (fun k:Nat=>{n:=19,next:=0,slots:=[(0,.d (zb4 l)),(1,.d (.fn f caps)),(7,.d (.int .i64 l.length)),(8,.d (.int .i64 k))],own:=[]})
  (fun k=>k≤l.length∧∀ e∈l.take k,p e=false) (fun k=>l.length-k) 0 (by simp) (by simp [zb4]) ?_
 intro k ⟨hk,hp⟩
 by_cases hlt:k<l.length
 ·have e1:l[k]?=some l[k]:=List.getElem?_eq_getElem hlt
  have hfk:=hf l[k] (List.getElem_mem hlt);simp +decide [zb4,int,e1,hlt,I64];refine zaj.pure (lent:=false) (by simp [zdx,zus,anaD]) hfk (by simp) ?_
  cases h:p l[k]
  ·simp +decide [zb4,int,I64]
   refine ⟨by omega,k+1,⟨hlt,fun e he=>?_⟩,by omega,by omega⟩
   rw [take_snoc hlt] at he;rcases List.mem_append.1 he with h' | h'
   ·exact hp e h'
   ·rw [List.mem_singleton] at h';rw [h',h]
  ·simp +decide [idxI,z3j hlt hp h]
 ·have:k=l.length:=by omega
  subst this;rw [List.take_length] at hp;simp +decide [zb4,int,idxI,zps hp]
def rowA (q:List Prt):List D:=[zab q]
theorem ya3 (l:List (List Prt)) (hl:l.length<2^40):yfe Tryz.prog 71 [zb4 l] 31 1 (l.map rowA):=by
 refine zv5 mixed Tryz.func71 rfl call_71 (by simp [rowA]) ?_
 simp [Tryz.f71,zb4,maxLen,rowA]
 omega
theorem z7i (l:List (List Prt)) (hl:l.length<2^62) (f:Nat) (p:List Prt→Bool) (L:List Dec) (r:Rf) (hf : ∀ x∈l,zam Tryz.prog f [anaD x,.ptr [za0 L],.ptr [int r.rcd,int r.note]] (.bool (p x))) :
  zcq Tryz.prog 70 [.ar 0,.fn f [.bp 1 0,.bp 2 0]] [(0,.arr 31 1 (l.map rowA)),(1,.box 22 [.d (za0 L)]),(2,.box 28 [.d (int r.rcd),.d (int r.note)])] 3
   (.d (.sl ((l.filter fun q=>!p q).map rowA))) 3 [(1,.box 22 [.d (za0 L)]),(2,.box 28 [.d (int r.rcd),.d (int r.note)])] []:=by
 refine zet mixed Tryz.func70 rfl call_70 [0] (by simp) ?_
 simp [Tryz.f70]
 refine zaj.pure (by rfl) (ya2 l hl f [.ptr [za0 L],.ptr [int r.rcd,int r.note]] p hf) (fun _=>rfl) ?_
 cases hi:l.findIdx? p with
 | none=>
  rw [List.findIdx?_eq_none_iff] at hi;have hno:(l.filter fun d=>!p d)=l:=by rw [List.filter_eq_self];intro a ha;rw [hi a ha];rfl
  have hidx:idxI p l = -1:=by simp [idxI,zps hi]
  simp +decide [hidx,int,hno];done
 | some k=>
  have hidx:idxI p l=k:=by simp [idxI,hi]
  rw [List.findIdx?_eq_some_iff_getElem] at hi;obtain ⟨hk,hpk,hbef⟩:=hi;have hn1:¬(k:Int) = -1:=by omega
  simp +decide [hidx,int,hn1,I64];refine ⟨by omega,?_⟩
  have htk:(l.take (k+1)).filter (fun d=>!p d)=l.take k:=by
   rw [zhj hk,List.filter_eq_self.2]
   ·simp [hpk]
   ·intro a ha
    rw [List.mem_take_iff_getElem] at ha;obtain ⟨j,hj,rfl⟩:=ha;have:=hbef j (by omega)
    simpa using this
  refine zaf mixed (fun x:Nat×Nat×List (List Prt)=>{n:=42,next:=3,base:=3,slots:=[(0,.ar 0),(1,.fn f [.bp 1 0,.bp 2 0]),(5,.d (.int .i64 x.2.1)),(6,.d (.int .i64 x.1))],own:=[(0,.arr 31 1 (x.2.2.map rowA)),(1,.box 22 [.d (za0 L)]),(2,.box 28 [.d (int r.rcd),.d (int r.note)])]})
   (fun x=>x.2.2.length=l.length∧x.2.1<x.1∧x.1≤l.length∧x.2.2.take x.2.1=(l.take x.1).filter (fun d=>!p d)∧x.2.2.drop x.1=l.drop x.1) (fun x=>l.length-x.1) (k+1,k,l) (by simp [htk];omega) (by simp [int]) ?_
  rintro ⟨j,i,cur⟩ ⟨hcl,hij,hjl,htake,hdrop⟩
  simp only at hcl hij hjl htake hdrop
  by_cases hlt:j<l.length
  ·have hcj:j<cur.length:=by omega
   have hcur:cur[j]=l[j]:=by
    have h1:cur.drop j=cur[j]::cur.drop (j+1):=List.drop_eq_getElem_cons hcj
    have h2:l.drop j=l[j]::l.drop (j+1):=List.drop_eq_getElem_cons hlt
    rw [h1,h2] at hdrop;exact (List.cons.inj hdrop).1
   have hdrop':cur.drop (j+1)=l.drop (j+1):=by
    have:=congrArg (List.drop 1) hdrop
    rw [List.drop_drop,List.drop_drop] at this;exact this
   have e1:cur[j]?=some cur[j]:=List.getElem?_eq_getElem hcj
   have hlt':(j:Int)<cur.length:=by omega
   have hfj:zam Tryz.prog f [anaD cur[j],.ptr [za0 L],.ptr [int r.rcd,int r.note]] (.bool (p l[j])):=by rw [hcur];exact hf l[j] (List.getElem_mem hlt)
   simp +decide [hlt',hcj,e1,rowA,int,I64];refine zaj.pure (by rfl) hfj (fun _=>rfl) ?_
   cases hp:p l[j]
   ·have hic:i<cur.length:=by omega
    have e2:cur[i]?=some cur[i]:=List.getElem?_eq_getElem hic
    simp +decide [hic,e2,rowA,int,I64];refine ⟨by omega,by omega,j+1,i+1,cur.set i cur[j],⟨by simpa using hcl,by omega,hlt,?_,?_⟩,by omega,⟨by omega,by omega⟩,by simp [List.map_set,rowA,int]⟩
    ·rw [zuu _ hic,zhj hlt,htake,hcur];simp [hp]
    ·rw [zz5 _ (by omega)];exact hdrop'
   ·simp +decide [int,I64]
    refine ⟨by omega,j+1,i,cur,⟨hcl,by omega,hlt,?_,hdrop'⟩,by omega,⟨by omega,by omega⟩,rfl⟩
    rw [zhj hlt,htake];simp [hp]
  ·have hj:j=l.length:=by omega
   subst hj;have hlt':¬(l.length:Int)<cur.length:=by omega
   have hin:¬(i:Int)=(cur.length:Int):=by omega
   have hfin:(cur.map rowA).take i=(l.filter fun d=>!p d).map rowA:=by
    rw [← List.map_take,htake,List.take_length]
   have hfl:((l.filter fun d=>!p d).map rowA).length=i:=by rw [← hfin];simp;omega
   by_cases hi0:i=0
   ·subst hi0
    have hc0:¬(0:Int)=(cur.length:Int):=by omega
    simp +decide [hlt',int,I64,hc0];have hnil:l.filter (fun d=>!p d)=[]:=List.eq_nil_of_length_eq_zero (by simpa using hfl)
    rw [List.filter_eq_nil_iff] at hnil;intro a ha;simpa using hnil a ha
   ·have hi1:¬(0:Int)=(i:Int):=by omega
    simp +decide [hlt',int,I64,hin,hi1];refine ⟨by omega,by omega,by omega,?_⟩
    rw [hfin];rw [if_pos]
    ·congr 2
     rw [List.take_append_of_le_length (by omega),List.take_of_length_le (by omega)]
    ·refine ⟨by omega,?_⟩
     cases hF:(l.filter fun d=>!p d) with
     | nil=>rw [hF] at hfl;simp at hfl;omega
     | cons c0 cs=>rfl
def choE (g:Lang) (r:Rf) (s:ByteArray) (l:List Dec):List (List Prt)×Int:=if (ofE g s).2≠0 then ([],(ofE g s).2) else ((ofE g s).1.filter fun q=>!rejL l r q,0)
theorem zvo {g:Lang} (hL:LightF g) (r:Rf) (s:ByteArray) (l:List Dec):(choE g r s l).1.length≤200∧∀ q∈(choE g r s l).1,q.length≤4:=by
 have h:=zx9 hL s
 unfold choE
 split
 ·exact ⟨Nat.zero_le _,fun q hq=>by cases hq⟩
 ·exact ⟨Nat.le_trans (List.length_filter_le ..) h.1,fun q hq=>h.2 q (List.mem_filter.1 hq).1⟩
theorem ztw (g:Lang) (hL:LightF g) (hg:LangC g) (r:Rf) (s:ByteArray) (hs:s.size≤1024) (l:List Dec) (hl:l.length<2^40) :
  zam Tryz.prog 49 [g.d,refD r,.str s,za0 l] (.tup [zb4 (choE g r s l).1,int (choE g r s l).2]):=by
 have hO:=yhg g hL hg s hs
 have hsm:=zx9 hL s
 unfold choE
 generalize ofE g s=z at *
 obtain ⟨O,e⟩:=z
 simp only at hO hsm ⊢
 refine zaa mixed Tryz.func49 rfl call_49 ?_
 simp +decide [Tryz.f49,Lang.d,zal,int,refD,Rf.row]
 refine zaj.pure (by rfl) hO (by simp [D.scalar]) ?_
 by_cases he:e=0
 case neg=>simp +decide [int,zb4,he]
 subst he
 simp +decide [int]
 refine zaj.fresh (by rfl) (ya3 O (by omega)) (by simp) ?_
 simp +decide [int]
 refine zaj.mut [4,2,1] [.ar 0,.fn 72 [.bp 1 0,.bp 2 0]] [(0,.arr 31 1 (O.map rowA)),(1,.box 22 [.d (za0 l)]),(2,.box 28 [.d (int r.rcd),.d (int r.note)])] (by rfl) (by simp) (by simp) (by simp [int];rfl)
  (z7i O (by omega) _ (rejL l r) l r (fun x hx=>z1f l (by omega) r x (by have:=hsm.2 x hx;omega))) ?_
 simp +decide [int,zb4,rowA]
theorem zf7 (g:Lang) (hL:LightF g) (hg:LangC g) (r:Rf) (s:ByteArray) (hs:s.size≤1024) (l:List Dec) (hl:l.length<2^40) :
  zam Tryz.prog 28 [g.d,refD r,.str s,za0 l] (zb4 (choE g r s l).1):=by
 have hO:=ztw g hL hg r s hs l hl
 generalize choE g r s l=z at *
 obtain ⟨O,e⟩:=z
 simp only at hO ⊢
 refine zaa mixed Tryz.func28 rfl call_28 ?_
 simp +decide [Tryz.f28,Lang.d,zal,int,refD,Rf.row]
 refine zaj.pure (by rfl) hO (by simp [D.scalar,refD,Rf.row]) ?_
 simp +decide [int,zb4]
structure Stt where
 ref:Rf
 kind:Int
 pick:List Prt
 deriving DecidableEq
def Stt.d (x:Stt):D:=.agg [int x.ref.rcd,int x.ref.note,int x.kind,zab x.pick]
def zqk (g:Lang) (r:Rf) (s:ByteArray) (l:List Dec):Stt:=
 if (zck l r).2=true then
  (if (zft g.orth.units s).2.2=0∧licE g (zft g.orth.units s).1 (zck l r).1=true then ⟨r,4,(zck l r).1⟩ else ⟨r,5,(zck l r).1⟩)
 else if (choE g r s l).2=11∨1<(choE g r s l).1.length then ⟨r,3,[]⟩
 else if (choE g r s l).2≠0 then ⟨r,0,[]⟩
 else match (choE g r s l).1 with
  | []=>⟨r,1,[]⟩
  | q::_=>⟨r,2,q⟩
set_option maxHeartbeats 8000000 in
theorem zql (g:Lang) (hL:LightF g) (hg:LangC g) (r:Rf) (s:ByteArray) (hs:s.size≤1024) (l:List Dec) (hl:l.length<2^40) (hp:(zck l r).1.length<2^20) :
  zam Tryz.prog 31 [g.d,refD r,.str s,za0 l] (zqk g r s l).d:=by
 have hC:=ztw g hL hg r s hs l hl
 have hP:=z9b l r (by omega)
 have hR:=zx7 g.orth hg.orth hL.graphs s hs
 have hW:=zx8 g.orth.units s
 have hLi:=z0m g (hL.yae hg).toLangOk (zft g.orth.units s).1 (by omega) (zck l r).1 hp
 unfold zqk
 have hli:decide ((zgj g (zck l r).1).2=0∧(zgj g (zck l r).1).1=(zft g.orth.units s).1)=licE g (zft g.orth.units s).1 (zck l r).1:=rfl
 rw [hli] at hLi
 generalize licE g (zft g.orth.units s).1 (zck l r).1=lic at *
 generalize zck l r=pk at *
 obtain ⟨P,ok⟩:=pk
 generalize zft g.orth.units s=z at *
 obtain ⟨W,ap,e⟩:=z
 generalize choE g r s l=c at *
 obtain ⟨O,f⟩:=c
 simp only at *
 refine zaa mixed Tryz.func31 rfl call_31 ?_
 simp +decide [Tryz.f31,Lang.d,zal,int,refD,Rf.row]
 refine zaj.pure (by rfl) hP (by simp [D.scalar,refD,Rf.row]) ?_
 cases ok with
 | true=>
  simp +decide [int,anaD];refine zaj.pure (by rfl) hR (by simp [D.scalar]) ?_
  by_cases he:e=0
  case neg=>simp +decide [int,ints,anaD,he,Stt.d]
  subst he;simp +decide [int,ints,anaD];refine zaj.pure (by rfl) hLi (by simp [D.scalar,anaD]) ?_
  cases lic <;> simp +decide [int,ints,anaD,Stt.d]
 | false=>
  simp +decide [int,anaD];refine zaj.pure (by rfl) hC (by simp [D.scalar,refD,Rf.row]) ?_
  by_cases h11:f=11
  ·simp +decide [int,zb4,zab,h11,Stt.d]
  by_cases h1:1<O.length
  ·have h1':(1:Int)<O.length:=by omega
   simp +decide [int,zb4,zab,h11,h1,h1',Stt.d]
  have h1':¬(1:Int)<O.length:=by omega
  by_cases h0:f=0
  case neg=>simp +decide [int,zb4,zab,h11,h1,h1',h0,Stt.d]
  subst h0;match O,h1,h1' with
  | [],_,_=>simp +decide [int,zb4,zab,Stt.d]
  | [q],_,_=>
   simp +decide [int,zb4,zab,Stt.d];refine zm5 mixed (by simp) (by rfl) (by rfl) (by rfl) (by simp) ?_
   simp +decide [int,zb4,zab,Stt.d]
  | _::_::_,h,_=>simp at h
end Go.V
namespace Go.V
open Go Go.Proofs
theorem zqm (a b:List (List Prt)) (hb:b.length<2^62) (ha : ∀ x∈a,x.length<2^62) (hb' : ∀ x∈b,x.length<2^62):zam Tryz.prog 27 [zb4 a,zb4 b] (.bool (decide (a=b))):=by
 refine zaa mixed Tryz.func27 rfl call_27 ?_
 simp [Tryz.f27,zb4]
 refine ⟨fun h e=>h (by rw [e]),fun h=>?_⟩
 refine zaf mixed (fun k:Nat=>{n:=27,next:=0,slots:=[(0,.d (zb4 a)),(1,.d (zb4 b)),(12,.d (.int .i64 a.length)),(13,.d (.int .i64 k))],own:=[]})
  (fun k=>k≤a.length∧a.take k=b.take k) (fun k=>a.length-k) 0 (by simp) (by simp [zb4]) ?_
 intro k ⟨hk,hp⟩
 have h:a.length=b.length:=by omega
 by_cases hlt:k<a.length
 ·have hlt':k<b.length:=by omega
  have e1:a[k]?=some a[k]:=List.getElem?_eq_getElem hlt
  have e2:b[k]?=some b[k]:=List.getElem?_eq_getElem hlt'
  simp +decide [zb4,e1,e2,hlt,hlt',I64];refine zae (by rfl) (by rfl) (zwt a[k] b[k] (ha _ (List.getElem_mem hlt)) (hb' _ (List.getElem_mem hlt'))) (by simp) ?_
  simp +decide [zb4,I64];refine ⟨fun hne e=>hne (by subst e;rfl),fun he=>⟨by omega,k+1,⟨hlt,?_⟩,by omega,by omega⟩⟩
  rw [take_snoc hlt,take_snoc hlt',hp,he]
 ·have:k=a.length:=by omega
  subst this;simp +decide [zb4];rw [List.take_length,h,List.take_length] at hp;exact hp
theorem ztx (x:Stt) (hx:x.pick.length<2^62):zam Tryz.prog 30 [x.d,x.d] (.bool true):=by
 have hS:=zwt x.pick x.pick hx hx
 rw [decide_eq_true rfl] at hS
 refine zaa mixed Tryz.func30 rfl call_30 ?_
 simp +decide [Tryz.f30,Stt.d,int]
 refine zaj.pure (by rfl) hS (by simp [anaD]) ?_
 simp +decide
structure Wrd where
 g:Lang
 ref:Rf
 s:ByteArray
 l:List Dec
def Wrd.cells (x:Wrd):List D:=(match x.g.d with | .agg cs=>cs | _=>[])++[int x.ref.rcd,int x.ref.note,.str x.s,za0 x.l]
def Wrd.d (x:Wrd):D:=.agg x.cells
structure LightW (x:Wrd):Prop where
 g:LightF x.g
 s:x.s.size≤40
 l:zkg x.l=true
theorem zty (x:Wrd) (hg:LangC x.g):zej Tryz.prog 26 [x.d] (fun y=>∃ b,y = .bool b∧(b=true→LightW x)):=by
 refine zaz mixed Tryz.func26 rfl call_26 ?_
 by_cases c1:(x.s.size:Int)≤40
 case neg=>simp +decide [Tryz.f26,Wrd.d,Wrd.cells,Lang.d,int,c1]
 simp +decide [Tryz.f26,Wrd.d,Wrd.cells,Lang.d,int,c1]
 refine zaj.pure (by rfl) (ydr x.l) (by simp) ?_
 cases hr:zkg x.l with
 | false=>simp +decide
 | true=>
  simp +decide
  refine zaj.some (by rfl) (z6x x.g hg) ?_
  rintro y ⟨b,rfl,hb⟩
  simp +decide
  cases b with
  | false=>exact .inl rfl
  | true=>exact .inr ⟨rfl,hb rfl,by omega,hr⟩
end Go.V
namespace Go.V
open Go Go.Proofs
theorem yhh (l:List Dec) (r:Rf) (q:List Prt):rejL (ofL l r) r q=rejL l r q:=by
 unfold rejL ofL
 rw [List.any_filter]
 congr 1
 funext d
 unfold rejD
 by_cases h:d.ref=r <;> simp [h]
theorem z7j (l:List Dec) (r:Rf):zck (ofL l r) r=zck l r:=by
 have:(ofL l r).find? (fun d=>decide (d.ref=r)&&d.yes)=l.find? (fun d=>decide (d.ref=r)&&d.yes):=by
  unfold ofL;induction l with
  | nil=>rfl
  | cons x t ih=>
   by_cases h:x.ref=r
   ·rw [List.filter_cons_of_pos (by simp [h])]
    cases hy:x.yes
    ·rw [List.find?_cons_of_neg (by simp [h,hy]),List.find?_cons_of_neg (by simp [h,hy]),ih]
    ·rw [List.find?_cons_of_pos (by simp [h,hy]),List.find?_cons_of_pos (by simp [h,hy])]
   ·rw [List.filter_cons_of_neg (by simp [h]),ih,List.find?_cons_of_neg (by simp [h])]
 unfold zck
 rw [this]
theorem ya4 (g:Lang) (r:Rf) (s:ByteArray) (l:List Dec):choE g r s (ofL l r)=choE g r s l:=by
 unfold choE
 simp only [yhh]
theorem ye7 (g:Lang) (r:Rf) (s:ByteArray) (l:List Dec):zqk g r s (ofL l r)=zqk g r s l:=by
 unfold zqk
 rw [ya4,z7j]
theorem zk3 {l:List Dec} {r:Rf} {n:Nat} (h : ∀ d∈l,d.pick.length≤n):(zck l r).1.length≤n:=by
 unfold zck
 split
 ·rename_i d hd;exact h d (List.mem_of_find?_eq_some hd)
 ·exact Nat.zero_le _
theorem z7k {g:Lang} (hL:LightF g) {r:Rf} {s:ByteArray} {l:List Dec} {n:Nat} (hn:4≤n) (h : ∀ d∈l,d.pick.length≤n):(zqk g r s l).pick.length≤n:=by
 have hp:=zk3 (r:=r) h
 have hc:=(zvo hL r s l).2
 unfold zqk
 split
 ·split <;> exact hp
 ·split
  ·exact Nat.zero_le _
  ·split
   ·exact Nat.zero_le _
   ·split
    ·exact Nat.zero_le _
    ·rename_i q t hq
     have:=hc q (by rw [hq];exact List.mem_cons_self ..)
     exact Nat.le_trans this hn
theorem zyb {l:List Dec} (h:fewL l=true) : ∀ d∈l,d.pick.length≤10:=by
 simp only [fewL,Bool.and_eq_true,decide_eq_true_eq,List.all_eq_true] at h
 exact fun d hd=>h.2 d hd
set_option maxHeartbeats 16000000 in
theorem z1g (x:Wrd) (hg:LangC x.g):zam Tryz.prog 10 [x.d] (.bool true):=by
 refine zaa mixed Tryz.func10 rfl call_10 ?_
 simp +decide [Tryz.f10,Wrd.d,Wrd.cells,Lang.d,int]
 refine zaj.some (by rfl) (zty x hg) ?_
 rintro y ⟨b,rfl,hb⟩
 cases b with
 | false=>
  simp +decide
  refine zaj.pure (by rfl) zgs (by simp) ?_
  simp +decide
 | true=>
  obtain ⟨hL,hs,hr⟩:=hb rfl;have hfew:=zs3 hr;have hlen:=z3m hfew;have hpk:=zyb hfew;have hol:(ofL x.l x.ref).length≤x.l.length:=List.length_filter_le ..
  have hopk : ∀ d∈ofL x.l x.ref,d.pick.length≤10:=fun d hd=>hpk d (List.mem_filter.1 hd).1
  have hpp:=zk3 (r:=x.ref) hpk;have hop:=zk3 (r:=x.ref) hopk;have h0:=z5t x.l x.ref (by omega)
  have h1:=zql x.g hL hg x.ref x.s (by omega) x.l (by omega) (by omega)
  have h2:=zql x.g hL hg x.ref x.s (by omega) (ofL x.l x.ref) (by omega) (by omega)
  rw [ye7] at h2;have hsp:=z7k (r:=x.ref) (s:=x.s) hL (by omega) hpk
  have h3:=ztx (zqk x.g x.ref x.s x.l) (by omega)
  have h4:=zf7 x.g hL hg x.ref x.s (by omega) x.l (by omega)
  have h5:=zf7 x.g hL hg x.ref x.s (by omega) (ofL x.l x.ref) (by omega)
  rw [ya4] at h5;have hsm:=zvo hL x.ref x.s x.l;have h6:=zqm (choE x.g x.ref x.s x.l).1 (choE x.g x.ref x.s x.l).1 (by omega) (fun q hq=>by have:=hsm.2 q hq;omega) (fun q hq=>by have:=hsm.2 q hq;omega)
  rw [decide_eq_true rfl] at h6;generalize (choE x.g x.ref x.s x.l).1=C at h4 h5 h6;generalize zqk x.g x.ref x.s x.l=S at h1 h2 h3;generalize ofL x.l x.ref=m at h0 h2 h5;simp +decide [int];refine zaj.pure (by rfl) h0 (by simp [D.scalar,refD,Rf.row]) ?_
  simp +decide [int];refine zae (by rfl) (by rfl) h1 (by simp [D.scalar,Lang.d,refD,Rf.row]) ?_
  simp +decide [int];refine zae (by rfl) (by rfl) h2 (by simp [D.scalar,Lang.d,refD,Rf.row]) ?_
  simp +decide [int];refine zae (by rfl) (by rfl) h3 (by simp [Stt.d]) ?_
  simp +decide [int];refine zae (by rfl) (by rfl) h4 (by simp [D.scalar,Lang.d,refD,Rf.row]) ?_
  simp +decide [int];refine zae (by rfl) (by rfl) h5 (by simp [D.scalar,Lang.d,refD,Rf.row]) ?_
  simp +decide [int];refine zae (by rfl) (by rfl) h6 (by simp [zb4]) ?_
  simp +decide [int];refine zae (by rfl) (by rfl) zgs (by simp) ?_
  simp +decide
end Go.V
namespace Go.V
open Go Go.Proofs Go.RowKit
section
variable {P:Program} {all pre post:List Oper} {st:St}
def z4h (P:Program) (K:St→Prop) (r:List Oper):St→Prop:=fun st=>zo9 P K r st
theorem z7l {K:St→Prop}:z4h P K [] st=K st:=rfl
theorem z1h {K:St→Prop} {o:Oper} {r:List Oper}:z4h P K (o::r) st=(o.guard=none∧dop P o st (z4h P K r)):=rfl
def hTail (P:Program) (ops:List Oper) (m:Nat) (Q:DE→St→Prop):St→Prop:=fun st'=>(st'.own.map (·.1)).Nodup∧zmy P ops st'.next (Q .normal) (ops.drop m) st'
theorem ya5 {ops:List Oper} {m:Nat} {Q:DE→St→Prop}:hTail P ops m Q st=((st.own.map (·.1)).Nodup∧zmy P ops st.next (Q .normal) (ops.drop m) st):=rfl
attribute [simp] z7l z1h ya5
theorem ztz {K K':St→Prop} : ∀ {r:List Oper} {k:Nat} {st:St} {rest:List Oper},all.drop k=r++rest→rest≠[]→(∀ i,k<i→i≤k+r.length→cutB all i=true)→zo9 P K' r st→(∀ st',K' st'→RegI P all K (k+r.length) st')→RegI P all K k st
 | [],k,st,rest,_,_,_,h,hK=>hK st h
 | o::r,k,st,rest,hd,hne,hc,h,hK=>by
  obtain ⟨hg,hdp⟩:=h;have hlen:=congrArg List.length hd;simp only [List.length_drop,List.length_append,List.length_cons] at hlen;have ho:all[k]?=some o:=by
   have:=congrArg (fun l:List Oper=>l[0]?) hd
   simpa using this
  have hr:all.drop (k+1)=r++rest:=by
   have:=congrArg List.tail hd
   simpa using this
  refine RegI.tot (fun st'=>zo9 P K' r st') (by omega) (.inl (hc (k+1) (by omega) (by simp only [List.length_cons];omega))) ?_ fun st' h'=>ztz hr hne (fun i h1 h2=>hc i (by omega) (by simp only [List.length_cons];omega)) h' (fun st'' hk=>by
   have:=hK st'' hk
   have e:k+(o::r).length=k+1+r.length:=by simp only [List.length_cons];omega
   rw [e] at this;exact this)
  intro X w0 β a w hmm N Q' hN;unfold wpOp;have:all.toArray[k]?=some o:=by simpa using ho
  rw [this];simp only [Region.wanted,hg,if_true];exact .inl (zdj hmm hdp N _ fun a' w' st' β' hk hm'=>hN a' w' st' β' hk hm')
theorem z7m {K:St→Prop} (hok:zb2 (pre++post)=true) (hkeys:(st.own.map (·.1)).Nodup) (h:zmy P (pre++post) st.next K post st):RegI P (pre++post) K pre.length st:=by
 obtain ⟨ss,hch,hlo,hd⟩:=zjh h
 have hlen:=zd4 hch
 have hal:(pre++post).length=pre.length+post.length:=List.length_append
 have hkd : ∀ i k,(Seg.kd ⟨pre++post,pre.length,(pre++post).length,ss.map .val,st,fun _=>st.own⟩ i)=some k→∃ s,ss[i-pre.length]?=some s∧k = .val s∧pre.length≤i:=by
  intro i k hk;unfold Seg.kd at hk;split at hk
  ·rename_i hi
   simp only [List.getElem?_map] at hk;cases hs:ss[i-pre.length]? with
   | none=>rw [hs] at hk;cases hk
   | some s=>rw [hs] at hk;simp at hk;exact ⟨s,rfl,hk.symm,hi.1⟩
  ·cases hk
 have hnoU : ∀ t,¬(Seg.U ⟨pre++post,pre.length,(pre++post).length,ss.map .val,st,fun _=>st.own⟩ t):=by
  rintro t ⟨i,ob,y,k,_,hk,_,hm⟩
  obtain ⟨s,_,rfl,_⟩:=hkd i k hk;cases hm
 have hnb : ∀ i id ob,Seg.kd ⟨pre++post,pre.length,(pre++post).length,ss.map .val,st,fun _=>st.own⟩ i≠some (.bst id ob):=by
  intro i id ob hk;obtain ⟨s,_,e,_⟩:=hkd i _ hk;cases e
 have hsti : ∀ i,Seg.sti ⟨pre++post,pre.length,(pre++post).length,ss.map .val,st,fun _=>st.own⟩ i=puts (post.take (i-pre.length)) (ss.take (i-pre.length)) st:=by
  intro i;unfold Seg.sti;have hmm:(ss.map FK.val).map FK.sym=ss:=by
   rw [List.map_map];have:(FK.sym∘FK.val)=fun s=>s:=rfl
   rw [this,List.map_id']
  simp only [List.drop_left];rw [hmm]
 refine RegI.seg (pos:=pre.length) (hi:=(pre++post).length) (ss.map .val) (fun _=>st.own) [] st.own ?_ ?_ (.inr rfl) ?_
 ·refine ⟨hok,⟨by show pre.length≤(pre++post).length;omega,Nat.le_refl _,by simp [hlen]⟩,fun t _ _ h=>absurd h (hnoU t),fun i t ob m h=>absurd ⟨i,ob,h⟩ (hnoU t),fun i j id ob ob' h=>absurd h (hnb i id ob),fun _ id ob h=>⟨h,fun i ob hk=>absurd hk (hnb i id ob)⟩,?_⟩
  intro i y k hy hk;obtain ⟨s,hs,rfl,hpi⟩:=hkd i k hk;have hy':post[i-pre.length]?=some y:=by
   have:(pre++post)[i]?=post[i-pre.length]?:=List.getElem?_append_right hpi
   rw [← this];exact hy
  obtain ⟨s',hs',hd',hst⟩:=zjd hch hy';rw [hs] at hs';cases hs';refine ⟨hd',fun t _=>hnoU t,?_,hlo s (List.mem_of_getElem? hs)⟩
  show DStep P (pre++post) y (Seg.sti ⟨pre++post,pre.length,(pre++post).length,ss.map .val,st,fun _=>st.own⟩ i) s
  rw [hsti];exact hst
 ·refine ⟨fun t ob h=>by simp at h,by simp,rfl,fun _ id ob h=>.inr ⟨?_,fun i ob=>hnb i id ob⟩⟩
  have hmem : ∀ {l:List (Nat×Obj')},(l.map (·.1)).Nodup→(id,ob)∈l→zac l id=some ob:=by
   intro l;induction l with
   | nil=>intro _ h;cases h
   | cons x r ih=>
    intro hn h;obtain ⟨k,u⟩:=x;simp only [List.map_cons,List.nodup_cons] at hn;simp only [zac];rcases List.mem_cons.1 h with e | h
    ·cases e;simp
    ·have hne:k≠id:=by intro e;subst e;exact hn.1 (List.mem_map.2 ⟨_,h,rfl⟩)
     rw [if_neg hne];exact ih hn.2 h
  exact hmem hkeys h
 ·have hfin:Seg.fin ⟨pre++post,pre.length,(pre++post).length,ss.map .val,st,fun _=>st.own⟩ [] st.own=puts post ss st:=by
   unfold Seg.fin;have hsub:(pre++post).length-pre.length=post.length:=by omega
   simp only [hsti,hsub,List.take_length];have hss:ss.take post.length=ss:=by rw [List.take_of_length_le (by omega)]
   obtain ⟨p1,p2,p3,p4,p5⟩:=zge post ss st;rw [hss];simp only [List.length_nil,Nat.add_zero,refF,numF,List.nil_append];cases hp:puts post ss st with
   | mk n next slots own base moved=>
    rw [hp] at p1 p2 p3 p4 p5;simp only at p1 p2 p3 p4 p5
    subst p1;subst p2;subst p3;subst p4;subst p5;rfl
  rw [hfin];exact .done hd
theorem yiv (hmix:P.follows .mixedOrders=true) (m:Nat) {id:Nat} {ops:List Oper} {Q:DE→St→Prop} (hok:zb2 ops=true) (hm:decide (m<ops.length)=true) (hcuts:((List.range (m+1)).all fun i=>Nat.beq i 0 || cutB ops i)=true)
  (h:z4h P (hTail P ops m Q) (ops.take m) st):Triple P (.region id ops.toArray true) Q st:=by
 have hm:m<ops.length:=of_decide_eq_true hm
 have e:ops.take m++ops.drop m=ops:=List.take_append_drop m ops
 have hl:(ops.take m).length=m:=by rw [List.length_take];omega
 refine zdk hmix hok ?_
 refine ztz (rest:=ops.drop m) (by rw [List.drop_zero];exact e.symm) (by intro e2;have:=congrArg List.length e2;rw [List.length_drop] at this;simp at this;omega) (fun i h1 h2=>?_) h ?_
 ·rw [hl] at h2
  have:=List.all_eq_true.1 hcuts i (List.mem_range.2 (by omega))
  rw [Bool.or_eq_true,Nat.beq_eq] at this;exact this.elim (fun e=>by omega) fun e=>e
 ·rintro st' ⟨hk,hd⟩
  have:=z7m (P:=P) (st:=st') (pre:=ops.take m) (post:=ops.drop m) (K:=Q .normal) (by rw [e];exact hok) hk (by rw [e];exact hd)
  rw [e,hl] at this;rw [hl,Nat.zero_add];exact this
end
end Go.V
namespace Go.V
open Go Go.Proofs
theorem yiw (id:Int):zam Tryz.prog 35 [int id] (anaD [⟨id,0,0⟩]):=by
 refine zaa mixed Tryz.func35 rfl call_35 ?_
 simp +decide [Tryz.f35,int,anaD,zab,Prt.row]
theorem ye8 {l:List Dec} {r:Rf} {c q:List Prt} (hd:zcc [(⟨r,false,c⟩:Dec)]=0):rejL (putN l ⟨r,false,c⟩) r q=(decide (q=c) || rejL l r q):=by
 rw [Bool.eq_iff_iff,Bool.or_eq_true,decide_eq_true_eq]
 unfold rejL
 rw [List.any_eq_true,List.any_eq_true]
 constructor
 ·rintro ⟨x,hx,hr⟩
  rcases (zhk hd).1 hx with rfl | ⟨hx,_⟩
  ·left
   simp [rejD] at hr;exact hr.symm
  ·exact .inr ⟨x,hx,hr⟩
 ·by_cases hqc:q=c
  ·intro _
   subst hqc;exact ⟨_,z0f hd,by simp [rejD]⟩
  ·rintro (h | ⟨x,hx,hr⟩)
   ·exact absurd h hqc
   ·refine ⟨x,(zhk hd).2 (.inr ⟨hx,?_⟩),hr⟩
    rw [ygw rfl];intro e;have:=((zwv _ _).1 e).2
    simp [rejD] at hr;exact hqc (hr.2.2.symm.trans this)
theorem z1i {g:Lang} (hL:LightF g) {r:Rf} {s:ByteArray} {l:List Dec} {q:List Prt} (hq:q∈(choE g r s l).1) :
  (zft g.orth.units s).2.2=0∧licE g (zft g.orth.units s).1 q=true∧q.length≠0∧q.length≤4∧(ofE g s).2=0:=by
 unfold choE at hq
 by_cases h0:(ofE g s).2=0
 case neg=>rw [if_pos h0] at hq;cases hq
 rw [if_neg (by simp [h0])] at hq
 have hq:=(List.mem_filter.1 hq).1
 by_cases hr0:(zft g.orth.units s).2.2=0
 case neg=>
  unfold ofE at hq;rw [if_pos hr0] at hq;cases hq
 unfold ofE at hq h0
 rw [if_neg (by simp [hr0])] at hq h0
 have hA:=(z1e hL (zft g.orth.units s).1).2 h0
 obtain ⟨f1,f2,f3⟩:=hA.form q hq
 refine ⟨hr0,by unfold licE;rw [decide_eq_true_eq];exact ⟨f1,f2⟩,?_,f3,by unfold ofE;rw [if_neg (by simp [hr0])];exact h0⟩
 have:=z7c f1
 unfold zgv at this
 intro e
 rw [if_pos e] at this
 cases this
theorem z7n {g:Lang} (hL:LightF g) (r:Rf) (s:ByteArray) (l:List Dec):(choE g r s l).1.Nodup:=by
 unfold choE
 split
 ·exact List.nodup_nil
 ·rename_i h0
  refine List.Pairwise.sublist List.filter_sublist ?_
  unfold ofE at h0 ⊢;split
  ·exact List.nodup_nil
  ·rename_i hr0
   rw [if_neg hr0] at h0;have hA:=(z1e hL (zft g.orth.units s).1).2 (by simpa using h0)
   exact hA.up.imp fun h e=>by subst e;rw [zf2] at h;cases h
theorem zof {α:Type} [DecidableEq α] : ∀ {l:List α} {k:Nat} (h:k<l.length),l.Nodup→l.filter (fun x=>!decide (x=l[k]))=l.take k++l.drop (k+1)
 | [],k,h,_=>by simp at h
 | a::l,0,_,hn=>by
  rw [List.nodup_cons] at hn;simp only [List.getElem_cons_zero,List.take_zero,List.nil_append,List.drop_succ_cons,List.drop_zero];rw [List.filter_cons_of_neg (by simp),List.filter_eq_self.2]
  intro x hx;simp
  intro e;subst e;exact hn.1 hx
 | a::l,k+1,h,hn=>by
  rw [List.nodup_cons] at hn;have hk:k<l.length:=by simpa using h
  simp only [List.getElem_cons_succ,List.take_succ_cons,List.drop_succ_cons,List.cons_append];rw [List.filter_cons_of_pos,zof hk hn.2];simp
  intro e;exact hn.1 (e▸List.getElem_mem hk)
theorem yhi {g:Lang} (hL:LightF g) {r:Rf} {s:ByteArray} {l:List Dec} {k:Nat} (hk:k<(choE g r s l).1.length) (hd:zcc [(⟨r,false,(choE g r s l).1[k]⟩:Dec)]=0) :
  (choE g r s (putN l ⟨r,false,(choE g r s l).1[k]⟩)).1=(choE g r s l).1.take k++(choE g r s l).1.drop (k+1):=by
 rw [← zof hk (z7n hL r s l)]
 generalize hc:(choE g r s l).1[k]=c at *
 have h0:=(z1i hL (q:=c) (by rw [← hc];exact List.getElem_mem hk)).2.2.2.2
 unfold choE
 rw [if_neg (by simp [h0]),if_neg (by simp [h0])]
 simp only [List.filter_filter]
 congr 1
 funext q
 rw [ye8 hd]
 simp
theorem ya6 {g:Lang} (hL:LightF g) {r:Rf} {s:ByteArray} {l:List Dec} {q:List Prt} (hq:q∈(choE g r s l).1) (hc:zcc l=0) (hd:zcc [(⟨r,true,q⟩:Dec)]=0) :
  zqk g r s (putN l ⟨r,true,q⟩)=⟨r,4,q⟩:=by
 obtain ⟨h1,h2,_⟩:=z1i hL hq
 have hp:=zs4 (l:=l) hc hd rfl
 unfold zqk
 rw [hp,if_pos rfl,if_pos ⟨h1,h2⟩]
theorem ya7 {r:Rf} {y:Bool} {q:List Prt} (h:zcc [(⟨r,false,[⟨1,0,0⟩]⟩:Dec)]=0) (h0:q.length≠0) (h4:q.length≤4):zcc [(⟨r,y,q⟩:Dec)]=0:=by
 have e : ∀ d:Dec,zcc [d]=(zbn [d] 0).getD 0:=fun d=>by
  simp [zcc,List.range_succ]
 rw [e] at h ⊢
 unfold zbn at h ⊢
 have h4':¬ q.length>4:=by omega
 cases h1:isId r.rcd
 ·simp [h1] at h
 ·cases h2:isId r.note
  ·simp [h1,h2] at h
  ·simp [h1,h2,h0,h4']
set_option maxHeartbeats 32000000 in
theorem zyc (x:Wrd) (hg:LangC x.g) (n:Int) (hn:0≤n∧n<256):zam Tryz.prog 12 [x.d,.int .u8 n] (.bool true):=by
 refine zlw Tryz.func12 rfl call_12 ?_
 refine zhg mixed 1 {n:=102,next:=1,slots:=[(1,.d (.int .u8 n)),(2,.bp 0 0)],own:=[(0,.box 58 (x.cells.map .d))]} rfl (by simp +decide [Tryz.f12,ze9,cutK,Wrd.d,Wrd.cells,Lang.d,int]) ?_
 simp only [Tryz.f12,zfz]
 refine zch (zch ?_ mixed) mixed
 refine yiv mixed 4 (by rfl) (by rfl) (by rfl) ?_
 simp +decide [Wrd.d,Wrd.cells,Lang.d,int]
 refine zaj.some (by rfl) (zty x hg) ?_
 rintro y ⟨b,rfl,hb⟩
 cases b with
 | false=>
  simp +decide
  refine zaj.pure (by rfl) zgs (by simp) ?_
  simp +decide
 | true=>
  obtain ⟨hL,hs,hr⟩:=hb rfl;have hfew:=zs3 hr;have hlen:=z3m hfew;have hpk:=zyb hfew;obtain ⟨_,hfit⟩:=zww hfew;have h1:=yiw 1;have h2:=zpu [(⟨x.ref,false,[⟨1,0,0⟩]⟩:Dec)] (by simp) (by simp [zpt,Dec.fit])
  have hch:=zf7 x.g hL hg x.ref x.s (by omega) x.l (by omega)
  have hfw:=zvo hL x.ref x.s x.l;simp +decide
  refine zae (by rfl) (by rfl) h1 (by simp [anaD]) ?_
  simp only [za0,List.map_cons,List.map_nil,Dec.row,zab,Prt.row,int] at h2;simp +decide [int,anaD,zab,Prt.row];refine zae (by rfl) (by rfl) h2 (by simp [D.scalar]) ?_
  by_cases hck:zcc [(⟨x.ref,false,[⟨1,0,0⟩]⟩:Dec)]=0
  case neg=>
   simp +decide [hck,int];refine zaj.pure (by rfl) zgs (by simp) ?_
   simp +decide
  simp +decide [hck,int];refine zaj.pure (by rfl) hch (by simp [D.scalar,Lang.d,refD,Rf.row]) ?_
  by_cases h0:(choE x.g x.ref x.s x.l).1=[]
  ·simp +decide [int,zb4,h0]
   refine zaj.pure (by rfl) zgs (by simp) ?_
   simp +decide
  obtain ⟨m,rfl⟩ : ∃ m:Nat,n=(m:Int):=⟨n.toNat,by omega⟩
  have hCl:0<(choE x.g x.ref x.s x.l).1.length:=List.length_pos_iff.2 h0
  have hkl:m%(choE x.g x.ref x.s x.l).1.length<(choE x.g x.ref x.s x.l).1.length:=Nat.mod_lt _ hCl
  have hrem:((m:Int)).tmod ((choE x.g x.ref x.s x.l).1.length:Int)=((m%(choE x.g x.ref x.s x.l).1.length:Nat):Int):=rfl
  generalize hkk:m%(choE x.g x.ref x.s x.l).1.length=k at hkl hrem;obtain ⟨q,eq⟩ : ∃ q,(choE x.g x.ref x.s x.l).1[k]=q:=⟨_,rfl⟩;have e1:(choE x.g x.ref x.s x.l).1[k]?=some q:=by rw [List.getElem?_eq_getElem hkl,eq]
  have hq:q∈(choE x.g x.ref x.s x.l).1:=by rw [← eq];exact List.getElem_mem hkl
  obtain ⟨_,_,hq0,hq4,_⟩:=z1i hL hq;have hdy:=ya7 (y:=true) hck hq0 hq4;have hdn:=ya7 (y:=false) hck hq0 hq4;have hc0:zcc x.l=0:=by unfold zkg at hr;rw [Bool.and_eq_true,decide_eq_true_eq] at hr;exact hr.2
  have hfy:(⟨x.ref,true,q⟩:Dec).fit:=by unfold Dec.fit;simp only;omega
  have hfn:(⟨x.ref,false,q⟩:Dec).fit:=by unfold Dec.fit;simp only;omega
  have hpy:=z9f x.l ⟨x.ref,true,q⟩ (zlq hr) (by omega) hfit hfy
  have hpn:=z9f x.l ⟨x.ref,false,q⟩ (zlq hr) (by omega) hfit hfn
  have hly:=z3n x.l ⟨x.ref,true,q⟩;have hln:=z3n x.l ⟨x.ref,false,q⟩;have hpk2:=zs4 (l:=x.l) (d:=⟨x.ref,true,q⟩) hc0 hdy rfl;have hst:=zql x.g hL hg x.ref x.s (by omega) (putN x.l ⟨x.ref,true,q⟩) (by omega) (by rw [hpk2];simp only;omega)
  rw [ya6 hL hq hc0 hdy] at hst;have hcn:=zf7 x.g hL hg x.ref x.s (by omega) (putN x.l ⟨x.ref,false,q⟩) (by omega)
  have hrest:=yhi (l:=x.l) hL hkl (by rw [eq];exact hdn)
  rw [eq] at hrest;rw [hrest] at hcn;have heq:=ztx ⟨x.ref,4,q⟩ (by simp only;omega)
  have han:=zqm ((choE x.g x.ref x.s x.l).1.take k++(choE x.g x.ref x.s x.l).1.drop (k+1)) ((choE x.g x.ref x.s x.l).1.take k++(choE x.g x.ref x.s x.l).1.drop (k+1))
   (by simp only [List.length_append,List.length_take,List.length_drop];omega)
   (fun y hy=>by rcases List.mem_append.1 hy with h | h;(have:=hfw.2 y (List.mem_of_mem_take h);omega);(have:=hfw.2 y (List.mem_of_mem_drop h);omega))
   (fun y hy=>by rcases List.mem_append.1 hy with h | h;(have:=hfw.2 y (List.mem_of_mem_take h);omega);(have:=hfw.2 y (List.mem_of_mem_drop h);omega))
  rw [decide_eq_true rfl] at han;have hC200:=hfw.1;clear hrest hpk2 hfw h1 h2 hch;generalize (choE x.g x.ref x.s x.l).1=C at *;generalize putN x.l ⟨x.ref,true,q⟩=Ly at *;generalize putN x.l ⟨x.ref,false,q⟩=Ln at *;simp only [Dec.row,int] at hpy hpn;have hkl':(k:Int)<C.length:=by omega
  have hwr:IntKind.i64.wrap (m:Int)=(m:Int):=by
   have:=hn.2
   exact IntWalk.i64_in _ (by omega)
  simp +decide [int,zb4,zc4,h0,hwr,hrem,hkl,hkl',eq,e1,I64];refine zae (by rfl) (by rfl) hpy (by simp [D.scalar]) ?_
  simp +decide [int,zb4,hkl,hkl',eq,e1];refine zae (by rfl) (by rfl) hpn (by simp [D.scalar]) ?_
  simp +decide [int,zb4,hkl,hkl',eq,e1];refine ygn mixed 10 [] (by rfl) (by rfl) (by rfl) (by rfl) ?_
  have hk1:((k:Int)+1).toNat=k+1:=by omega
  have hk2:(0:Int)≤(k:Int)+1:=by omega
  have hk3:(k:Int)+1≤C.length:=by omega
  have hk4:k≤C.length:=by omega
  have hk5:k+1≤C.length:=by omega
  dsimp only [List.take];iterate 5 (rw [zw7];simp +decide [-fseg,int,zb4,hk1,hk2,hk3,hk4,hk5,I64])
  have hrow : ∀ r∈(C.map fun a=>[zab a]),r.length=1:=fun r hr=>by obtain ⟨a,_,rfl⟩:=List.mem_map.1 hr;rfl
  refine ⟨⟨fun r hr=>hrow r (List.mem_of_mem_take hr),by omega,by unfold maxLen;omega⟩,?_⟩
  have htk:List.take C.length (C.map fun a=>[zab a])=C.map fun a=>[zab a]:=List.take_of_length_le (by simp)
  iterate 5 (rw [zw7];simp +decide [-fseg,int,zb4,hk1,hk2,hk3,hk4,hk5,htk,I64])
  refine ⟨⟨by omega,by omega⟩,⟨fun r hr=>hrow r (List.mem_of_mem_drop hr),by omega,by unfold maxLen;omega⟩,by rfl,?_⟩
  simp +decide [int,zb4,hkl,hkl',eq,e1];refine zae (by rfl) (by rfl) hst (by simp [D.scalar,Lang.d,refD,Rf.row]) ?_
  simp only [Stt.d,int] at heq;simp +decide [int,zb4,hkl,hkl',eq,e1,Stt.d];refine zae (by rfl) (by rfl) heq (by simp [D.scalar]) ?_
  simp +decide [int,zb4];refine zae (by rfl) (by rfl) hcn (by simp [D.scalar,Lang.d,refD,Rf.row]) ?_
  simp only [zb4,List.map_append,List.map_take,List.map_drop] at han;simp +decide [int,zb4];refine zae (by rfl) (by rfl) han (by simp [D.scalar]) ?_
  simp +decide [int,zb4];refine zae (by rfl) (by rfl) zgs (by simp) ?_
  simp +decide [int,zb4]
end Go.V
namespace Go.V
open Go Go.Proofs
def Rf.ok (r:Rf):Prop:=z1c r.rcd∧z1c r.note
def Dec.ok (d:Dec):Prop:=d.ref.ok∧ygd d.pick
abbrev yhj:List Sh:=[.int .i64,.int .i64,.bool,.sl yit]
theorem zvp {r:List D} (h:zbk r yhj) : ∃ d:Dec,r=d.row∧d.ok:=by
 obtain ⟨_,_,rfl,g1,r1⟩:=h.zai
 obtain ⟨_,_,rfl,g2,r2⟩:=r1.zai
 obtain ⟨_,_,rfl,g3,r3⟩:=r2.zai
 obtain ⟨_,_,rfl,g4,r4⟩:=r3.zai
 obtain rfl:=r4.zb9
 obtain ⟨a,rfl,wa⟩:=g1.zbl
 obtain ⟨b,rfl,wb⟩:=g2.zbl
 obtain ⟨c,rfl⟩:=g3.zkt
 obtain ⟨l,rfl,wl⟩:=zx3 g4
 exact ⟨⟨⟨a,b⟩,c,l⟩,rfl,⟨wa,wb⟩,wl⟩
theorem z1j {d:D} (h:FitD d (.sl yhj)) : ∃ l,d=za0 l∧l.length≤maxLen∧∀ x∈l,x.ok:=by
 obtain ⟨xs,rfl,h1,h2⟩:=FitD.zpm (row:=Dec.row) (good:=Dec.ok) (fun r hr=>zvp hr) h
 exact ⟨xs,rfl,h1,h2⟩
end Go.V
namespace Go.V
open Go Go.Proofs
theorem zbk.split : ∀ {sh sh':List Sh} {ds:List D},zbk ds (sh++sh')→∃ a b,ds=a++b∧zbk a sh∧zbk b sh'
 | [],sh',ds,h=>⟨[],ds,rfl,by simp [zbk],h⟩
 | s::sh,sh',ds,h=>by
  obtain ⟨d,r,rfl,g,h'⟩:=zbk.zai (shs:=sh++sh') h;obtain ⟨a,b,rfl,ha,hb⟩:=zbk.split h';exact ⟨d::a,b,rfl,by simp only [zbk];exact ⟨s,sh,rfl,g,ha⟩,hb⟩
theorem Caps.left {M:Nat} : ∀ {a b:List D},Caps M (a++b)→Caps M a
 | [],b,_=>by simp [Caps]
 | d::a,b,h=>by
  simp only [List.cons_append,Caps] at h ⊢;exact ⟨h.1,Caps.left h.2⟩
abbrev ya8:List Sh:=yge++[.int .i64,.int .i64,.str,.sl yhj]
theorem zqn {l:List D} (h:zbk l ya8) : ∃ x:Wrd,D.agg l=x.d:=by
 obtain ⟨a,b,rfl,ha,hb⟩:=zbk.split h
 obtain ⟨g,hg⟩:=z1d ha
 obtain ⟨_,_,rfl,g1,r1⟩:=hb.zai
 obtain ⟨_,_,rfl,g2,r2⟩:=r1.zai
 obtain ⟨_,_,rfl,g3,r3⟩:=r2.zai
 obtain ⟨_,_,rfl,g4,r4⟩:=r3.zai
 obtain rfl:=r4.zb9
 obtain ⟨u,rfl,_⟩:=g1.zbl
 obtain ⟨v,rfl,_⟩:=g2.zbl
 obtain ⟨s,rfl,_⟩:=g3.zfg
 obtain ⟨m,rfl,_⟩:=z1j g4
 refine ⟨⟨g,⟨u,v⟩,s,m⟩,?_⟩
 simp only [Wrd.d,Wrd.cells,← hg,int]
theorem zyd {x:Wrd} (h:CapT 1048576 x.d):LangC x.g:=by
 refine yaz ?_
 simp only [Wrd.d,Wrd.cells,CapT] at h
 have h1:=Caps.left h
 exact h1
theorem yix {d:D} (h:FitD d (.int .u8)) : ∃ n:Fin 256,d = .int .u8 (n.val:Int):=by
 obtain ⟨n,rfl,hw⟩:=h.zbl
 have hb:0≤n∧n<256:=by
  have:=hw
  have e1:IntKind.u8.min=0:=by decide
  have e2:IntKind.u8.max=255:=by decide
  simp [Lit.wf,IntKind.wrap,IntKind.bits,IntKind.signed] at this;omega
 refine ⟨⟨n.toNat,by omega⟩,?_⟩
 simp only
 congr 1
 omega
theorem zye (x:Wrd) (c0:CapT 1048576 x.d):zam Tryz.prog 10 [x.d] (.bool true):=z1g x (zyd c0)
theorem zvq (x:Wrd) (c0:CapT 1048576 x.d) (n:Fin 256) (c1:CapT 1048576 (.int .u8 (n.val:Int))):zam Tryz.prog 12 [x.d,.int .u8 (n.val:Int)] (.bool true):=
 zyc x (zyd c0) _ ⟨by omega,by have:=n.isLt;omega⟩
end Go.V

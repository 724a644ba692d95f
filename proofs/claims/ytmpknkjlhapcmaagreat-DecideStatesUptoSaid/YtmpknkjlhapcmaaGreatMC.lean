/- Contracts and plain laws of this seat: part MC. It needs no conditions. -/
import Derived.Test.YtmpknkjlhapcmaaGreatM2
import Derived.Test.YtmpknkjlhapcmaaGreatMB
import Derived.Test.YtmpknkjlhapcmaaGreatM9
import Derived.Test.YtmpknkjlhapcmaaGreatM1
set_option linter.unusedVariables false
set_option linter.unusedSimpArgs false
set_option linter.unusedSectionVars false
set_option maxRecDepth 100000
namespace Go.V
open Go Go.Proofs
def rejD (r:Rf) (q:List Prt) (d:Dec):Bool:=decide (d.ref=r)&&(!d.yes&&decide (d.pick=q))
def rejL (l:List Dec) (r:Rf) (q:List Prt):Bool:=l.any (rejD r q)
theorem zzk (d:Dec) (r:Rf) (q:List Prt) (hq:q.length<2^62):zam Tryz.prog 73 [.agg d.row,.ptr [int r.rcd,int r.note],.ptr [zab q]] (.bool (rejD r q d)):=by
 refine zaa mixed Tryz.func73 rfl call_73 ?_
 have hS:=z7l d.pick q hq
 unfold rejD
 by_cases c1:d.ref.rcd=r.rcd
 ·by_cases c2:d.ref.note=r.note
  ·have c3:d.ref=r:=zp0.2 ⟨c1,c2⟩
   cases hy:d.yes
   ·simp +decide [Tryz.f73,Dec.row,int,c1,c2,c3,hy]
    refine zaj.pure (by rfl) hS (by simp [anaD]) ?_
    simp +decide
   ·simp +decide [Tryz.f73,Dec.row,int,c1,c2,c3,hy]
  ·have c3:¬ d.ref=r:=fun e=>c2 (by rw [e])
   simp +decide [Tryz.f73,Dec.row,int,c1,c2,c3]
 ·have c3:¬ d.ref=r:=fun e=>c1 (by rw [e])
  simp +decide [Tryz.f73,Dec.row,int,c1,c3]
theorem z3e (l:List Dec) (hl:l.length<2^62) (r:Rf) (q:List Prt) (hq:q.length<2^62):zam Tryz.prog 72 [anaD q,.ptr [za6 l],.ptr [int r.rcd,int r.note]] (.bool (rejL l r q)):=by
 refine zaa mixed Tryz.func72 rfl call_72 ?_
 have hC:=zx0 l hl 73 [.ptr [int r.rcd,int r.note],.ptr [zab q]] (rejD r q) (fun x _=>zzk x r q hq)
 simp +decide [Tryz.f72,anaD,int]
 refine zaj.pure (by rfl) hC (by simp [D.scalar]) ?_
 simp +decide [rejL]
theorem ycu (l:List (List Prt)) (hl:l.length<2^62) (f:Nat) (caps:List D) (p:List Prt→Bool) (hf : ∀ x∈l,zam Tryz.prog f (anaD x::caps) (.bool (p x))) :
  zam Tryz.prog 95 [za1 l,.fn f caps] (int (idxI p l)):=by
 refine zaa mixed Tryz.func95 rfl call_95 ?_
 simp [Tryz.f95,za1]
 refine zad mixed (fun k:Nat=>{n:=19,next:=0,slots:=[(0,.d (za1 l)),(1,.d (.fn f caps)),(7,.d (.int .i64 l.length)),(8,.d (.int .i64 k))],own:=[]})
  (fun k=>k≤l.length∧∀ e∈l.take k,p e=false) (fun k=>l.length-k) 0 (by simp) (by simp [za1]) ?_
 intro k ⟨hk,hp⟩
 by_cases hlt:k<l.length
 ·have e1:l[k]?=some l[k]:=List.getElem?_eq_getElem hlt
  have hfk:=hf l[k] (List.getElem_mem hlt);simp +decide [za1,int,e1,hlt,I64];refine zaj.pure (lent:=false) (by simp [zdo,zv2,anaD]) hfk (by simp) ?_
  cases h:p l[k]
  ·simp +decide [za1,int,I64]
   refine ⟨by omega,k+1,⟨hlt,fun e he=>?_⟩,by omega,by omega⟩
   rw [take_snoc hlt] at he;rcases List.mem_append.1 he with h' | h'
   ·exact hp e h'
   ·rw [List.mem_singleton] at h';rw [h',h]
  ·simp +decide [idxI,z5c hlt hp h]
 ·have:k=l.length:=by omega
  subst this;rw [List.take_length] at hp;simp +decide [za1,int,idxI,zq0 hp]
def rowA (q:List Prt):List D:=[zab q]
theorem ycw (l:List (List Prt)) (hl:l.length<2^40):ydm Tryz.prog 71 [za1 l] 31 1 (l.map rowA):=by
 refine zng mixed Tryz.func71 rfl call_71 (by simp [rowA]) ?_
 simp [Tryz.f71,za1,maxLen,rowA]
 omega
theorem z9i (l:List (List Prt)) (hl:l.length<2^62) (f:Nat) (p:List Prt→Bool) (L:List Dec) (r:Rf) (hf : ∀ x∈l,zam Tryz.prog f [anaD x,.ptr [za6 L],.ptr [int r.rcd,int r.note]] (.bool (p x))) :
  zcq Tryz.prog 70 [.ar 0,.fn f [.bp 1 0,.bp 2 0]] [(0,.arr 31 1 (l.map rowA)),(1,.box 22 [.d (za6 L)]),(2,.box 28 [.d (int r.rcd),.d (int r.note)])] 3
   (.d (.sl ((l.filter fun q=>!p q).map rowA))) 3 [(1,.box 22 [.d (za6 L)]),(2,.box 28 [.d (int r.rcd),.d (int r.note)])] []:=by
 refine zot mixed Tryz.func70 rfl call_70 [0] (by simp) ?_
 simp [Tryz.f70]
 refine zaj.pure (by rfl) (ycu l hl f [.ptr [za6 L],.ptr [int r.rcd,int r.note]] p hf) (fun _=>rfl) ?_
 cases hi:l.findIdx? p with
 | none=>
  rw [List.findIdx?_eq_none_iff] at hi;have hno:(l.filter fun d=>!p d)=l:=by rw [List.filter_eq_self];intro a ha;rw [hi a ha];rfl
  have hidx:idxI p l = -1:=by simp [idxI,zq0 hi]
  simp +decide [hidx,int,hno];done
 | some k=>
  have hidx:idxI p l=k:=by simp [idxI,hi]
  rw [List.findIdx?_eq_some_iff_getElem] at hi;obtain ⟨hk,hpk,hbef⟩:=hi;have hn1:¬(k:Int) = -1:=by omega
  simp +decide [hidx,int,hn1,I64];refine ⟨by omega,?_⟩
  have htk:(l.take (k+1)).filter (fun d=>!p d)=l.take k:=by
   rw [zh2 hk,List.filter_eq_self.2]
   ·simp [hpk]
   ·intro a ha
    rw [List.mem_take_iff_getElem] at ha;obtain ⟨j,hj,rfl⟩:=ha;have:=hbef j (by omega)
    simpa using this
  refine zad mixed (fun x:Nat×Nat×List (List Prt)=>{n:=42,next:=3,base:=3,slots:=[(0,.ar 0),(1,.fn f [.bp 1 0,.bp 2 0]),(5,.d (.int .i64 x.2.1)),(6,.d (.int .i64 x.1))],own:=[(0,.arr 31 1 (x.2.2.map rowA)),(1,.box 22 [.d (za6 L)]),(2,.box 28 [.d (int r.rcd),.d (int r.note)])]})
   (fun x=>x.2.2.length=l.length∧x.2.1<x.1∧x.1≤l.length∧x.2.2.take x.2.1=(l.take x.1).filter (fun d=>!p d)∧x.2.2.drop x.1=l.drop x.1) (fun x=>l.length-x.1) (k+1,k,l) (by simp [htk];omega) (by simp [int]) ?_
  rintro ⟨j,i,cur⟩ ⟨hcl,hij,hjl,htake,hdrop⟩
  simp only at hcl hij hjl htake hdrop
  by_cases hlt:j<l.length
  ·have hcj:j<cur.length:=by omega
   have hcur:cur[j]=l[j]:=by
    have h1:cur.drop j=cur[j]::cur.drop (j+1):=List.drop_eq_getElem_cons hcj
    have h2:l.drop j=l[j]::l.drop (j+1):=List.drop_eq_getElem_cons hlt
    rw [h1,h2] at hdrop;exact (List.cons.inj hdrop).1
   have hdrop':cur.drop (j+1)=l.drop (j+1):=by
    have:=congrArg (List.drop 1) hdrop
    rw [List.drop_drop,List.drop_drop] at this;exact this
   have e1:cur[j]?=some cur[j]:=List.getElem?_eq_getElem hcj
   have hlt':(j:Int)<cur.length:=by omega
   have hfj:zam Tryz.prog f [anaD cur[j],.ptr [za6 L],.ptr [int r.rcd,int r.note]] (.bool (p l[j])):=by rw [hcur];exact hf l[j] (List.getElem_mem hlt)
   simp +decide [hlt',hcj,e1,rowA,int,I64];refine zaj.pure (by rfl) hfj (fun _=>rfl) ?_
   cases hp:p l[j]
   ·have hic:i<cur.length:=by omega
    have e2:cur[i]?=some cur[i]:=List.getElem?_eq_getElem hic
    simp +decide [hic,e2,rowA,int,I64];refine ⟨by omega,by omega,j+1,i+1,cur.set i cur[j],⟨by simpa using hcl,by omega,hlt,?_,?_⟩,by omega,⟨by omega,by omega⟩,by simp [List.map_set,rowA,int]⟩
    ·rw [zv3 _ hic,zh2 hlt,htake,hcur];simp [hp]
    ·rw [z1m _ (by omega)];exact hdrop'
   ·simp +decide [int,I64]
    refine ⟨by omega,j+1,i,cur,⟨hcl,by omega,hlt,?_,hdrop'⟩,by omega,⟨by omega,by omega⟩,rfl⟩
    rw [zh2 hlt,htake];simp [hp]
  ·have hj:j=l.length:=by omega
   subst hj;have hlt':¬(l.length:Int)<cur.length:=by omega
   have hin:¬(i:Int)=(cur.length:Int):=by omega
   have hfin:(cur.map rowA).take i=(l.filter fun d=>!p d).map rowA:=by
    rw [← List.map_take,htake,List.take_length]
   have hfl:((l.filter fun d=>!p d).map rowA).length=i:=by rw [← hfin];simp;omega
   by_cases hi0:i=0
   ·subst hi0
    have hc0:¬(0:Int)=(cur.length:Int):=by omega
    simp +decide [hlt',int,I64,hc0];have hnil:l.filter (fun d=>!p d)=[]:=List.eq_nil_of_length_eq_zero (by simpa using hfl)
    rw [List.filter_eq_nil_iff] at hnil;intro a ha;simpa using hnil a ha
   ·have hi1:¬(0:Int)=(i:Int):=by omega
    simp +decide [hlt',int,I64,hin,hi1];refine ⟨by omega,by omega,by omega,?_⟩
    rw [hfin];rw [if_pos]
    ·congr 2
     rw [List.take_append_of_le_length (by omega),List.take_of_length_le (by omega)]
    ·refine ⟨by omega,?_⟩
     cases hF:(l.filter fun d=>!p d) with
     | nil=>rw [hF] at hfl;simp at hfl;omega
     | cons c0 cs=>rfl
def choE (g:Lang) (r:Rf) (s:ByteArray) (l:List Dec):List (List Prt)×Int:=if (ofE g s).2≠0 then ([],(ofE g s).2) else ((ofE g s).1.filter fun q=>!rejL l r q,0)
theorem z6k {g:Lang} (hL:LightF g) (r:Rf) (s:ByteArray) (l:List Dec):(choE g r s l).1.length≤200∧∀ q∈(choE g r s l).1,q.length≤4:=by
 have h:=zr1 hL s
 unfold choE
 split
 ·exact ⟨Nat.zero_le _,fun q hq=>by cases hq⟩
 ·exact ⟨Nat.le_trans (List.length_filter_le ..) h.1,fun q hq=>h.2 q (List.mem_filter.1 hq).1⟩
theorem zva (g:Lang) (hL:LightF g) (hg:LangC g) (r:Rf) (s:ByteArray) (hs:s.size≤1024) (l:List Dec) (hl:l.length<2^40) :
  zam Tryz.prog 49 [g.d,refD r,.str s,za6 l] (.tup [za1 (choE g r s l).1,int (choE g r s l).2]):=by
 have hO:=yjc g hL hg s hs
 have hsm:=zr1 hL s
 unfold choE
 generalize ofE g s=z at *
 obtain ⟨O,e⟩:=z
 simp only at hO hsm ⊢
 refine zaa mixed Tryz.func49 rfl call_49 ?_
 simp +decide [Tryz.f49,Lang.d,zai,int,refD,Rf.row]
 refine zaj.pure (by rfl) hO (by simp [D.scalar]) ?_
 by_cases he:e=0
 case neg=>simp +decide [int,za1,he]
 subst he
 simp +decide [int]
 refine zaj.fresh (by rfl) (ycw O (by omega)) (by simp) ?_
 simp +decide [int]
 refine zaj.mut [4,2,1] [.ar 0,.fn 72 [.bp 1 0,.bp 2 0]] [(0,.arr 31 1 (O.map rowA)),(1,.box 22 [.d (za6 l)]),(2,.box 28 [.d (int r.rcd),.d (int r.note)])] (by rfl) (by simp) (by simp) (by simp [int];rfl)
  (z9i O (by omega) _ (rejL l r) l r (fun x hx=>z3e l (by omega) r x (by have:=hsm.2 x hx;omega))) ?_
 simp +decide [int,za1,rowA]
theorem zzl (g:Lang) (hL:LightF g) (hg:LangC g) (r:Rf) (s:ByteArray) (hs:s.size≤1024) (l:List Dec) (hl:l.length<2^40) :
  zam Tryz.prog 28 [g.d,refD r,.str s,za6 l] (za1 (choE g r s l).1):=by
 have hO:=zva g hL hg r s hs l hl
 generalize choE g r s l=z at *
 obtain ⟨O,e⟩:=z
 simp only at hO ⊢
 refine zaa mixed Tryz.func28 rfl call_28 ?_
 simp +decide [Tryz.f28,Lang.d,zai,int,refD,Rf.row]
 refine zaj.pure (by rfl) hO (by simp [D.scalar,refD,Rf.row]) ?_
 simp +decide [int,za1]
structure Stt where
 ref:Rf
 kind:Int
 pick:List Prt
 deriving DecidableEq
def Stt.d (x:Stt):D:=.agg [int x.ref.rcd,int x.ref.note,int x.kind,zab x.pick]
def zzm (g:Lang) (r:Rf) (s:ByteArray) (l:List Dec):Stt:=
 if (zb7 l r).2=true then
  (if (ze1 g.orth.units s).2.2=0∧licE g (ze1 g.orth.units s).1 (zb7 l r).1=true then ⟨r,4,(zb7 l r).1⟩ else ⟨r,5,(zb7 l r).1⟩)
 else if (choE g r s l).2=11∨1<(choE g r s l).1.length then ⟨r,3,[]⟩
 else if (choE g r s l).2≠0 then ⟨r,0,[]⟩
 else match (choE g r s l).1 with
  | []=>⟨r,1,[]⟩
  | q::_=>⟨r,2,q⟩
set_option maxHeartbeats 8000000 in
theorem ycx (g:Lang) (hL:LightF g) (hg:LangC g) (r:Rf) (s:ByteArray) (hs:s.size≤1024) (l:List Dec) (hl:l.length<2^40) (hp:(zb7 l r).1.length<2^20) :
  zam Tryz.prog 31 [g.d,refD r,.str s,za6 l] (zzm g r s l).d:=by
 have hC:=zva g hL hg r s hs l hl
 have hP:=yap l r (by omega)
 have hR:=zzj g.orth hg.orth hL.graphs s hs
 have hW:=zmt g.orth.units s
 have hLi:=z1u g (hL.zwf hg).toLangOk (ze1 g.orth.units s).1 (by omega) (zb7 l r).1 hp
 unfold zzm
 have hli:decide ((zff g (zb7 l r).1).2=0∧(zff g (zb7 l r).1).1=(ze1 g.orth.units s).1)=licE g (ze1 g.orth.units s).1 (zb7 l r).1:=rfl
 rw [hli] at hLi
 generalize licE g (ze1 g.orth.units s).1 (zb7 l r).1=lic at *
 generalize zb7 l r=pk at *
 obtain ⟨P,ok⟩:=pk
 generalize ze1 g.orth.units s=z at *
 obtain ⟨W,ap,e⟩:=z
 generalize choE g r s l=c at *
 obtain ⟨O,f⟩:=c
 simp only at *
 refine zaa mixed Tryz.func31 rfl call_31 ?_
 simp +decide [Tryz.f31,Lang.d,zai,int,refD,Rf.row]
 refine zaj.pure (by rfl) hP (by simp [D.scalar,refD,Rf.row]) ?_
 cases ok with
 | true=>
  simp +decide [int,anaD];refine zaj.pure (by rfl) hR (by simp [D.scalar]) ?_
  by_cases he:e=0
  case neg=>simp +decide [int,ints,anaD,he,Stt.d]
  subst he;simp +decide [int,ints,anaD];refine zaj.pure (by rfl) hLi (by simp [D.scalar,anaD]) ?_
  cases lic <;> simp +decide [int,ints,anaD,Stt.d]
 | false=>
  simp +decide [int,anaD];refine zaj.pure (by rfl) hC (by simp [D.scalar,refD,Rf.row]) ?_
  by_cases h11:f=11
  ·simp +decide [int,za1,zab,h11,Stt.d]
  by_cases h1:1<O.length
  ·have h1':(1:Int)<O.length:=by omega
   simp +decide [int,za1,zab,h11,h1,h1',Stt.d]
  have h1':¬(1:Int)<O.length:=by omega
  by_cases h0:f=0
  case neg=>simp +decide [int,za1,zab,h11,h1,h1',h0,Stt.d]
  subst h0;match O,h1,h1' with
  | [],_,_=>simp +decide [int,za1,zab,Stt.d]
  | [q],_,_=>
   simp +decide [int,za1,zab,Stt.d];refine zue mixed (by simp) (by rfl) (by rfl) (by rfl) (by simp) ?_
   simp +decide [int,za1,zab,Stt.d]
  | _::_::_,h,_=>simp at h
end Go.V
namespace Go.V
open Go Go.Proofs
set_option maxHeartbeats 4000000 in
theorem zwy (l:List Dec) (hl:l.length<2^62) (hf:zx1 l) (r:Rf) (q:List Prt) (hq:q.length<2^62):zam Tryz.prog 51 [za6 l,refD r,anaD q] (.bool (rejL l r q)):=by
 refine zaa mixed Tryz.func51 rfl call_51 ?_
 simp [Tryz.f51,za6,refD,Rf.row,int,anaD]
 refine zad mixed (fun k:Nat=>{n:=38,next:=2,slots:=[(0,.d (za6 l)),(4,.bp 0 0),(5,.bp 1 0),(9,.d (.int .i64 l.length)),(10,.d (.int .i64 k))],own:=[(0,.box 28 [.d (int r.rcd),.d (int r.note)]),(1,.box 31 [.d (zab q)])]})
  (fun k=>k≤l.length∧∀ d∈l.take k,rejD r q d=false) (fun k=>l.length-k) 0 (by simp) (by simp [za6,int,zab]) ?_
 intro k ⟨hk,hp⟩
 by_cases hlt:k<l.length
 ·obtain ⟨d,ed⟩ : ∃ d,l[k]=d:=⟨_,rfl⟩
  have e1:l[k]?=some d:=by rw [List.getElem?_eq_getElem hlt,ed]
  have hfd:=hf l[k] (List.getElem_mem hlt);rw [ed] at hfd;have hS:=zqz d.pick q hfd hq;have hsn:=take_snoc hlt;rw [ed] at hsn;have hno:rejD r q d=false→∀ x∈l.take (k+1),rejD r q x=false:=by
   intro h x hx;rw [hsn] at hx;rcases List.mem_append.1 hx with h' | h'
   ·exact hp x h'
   ·rw [List.mem_singleton] at h';rw [h',h]
  by_cases c1:d.ref.rcd=r.rcd
  ·by_cases c2:d.ref.note=r.note
   ·have c3:d.ref=r:=zp0.2 ⟨c1,c2⟩
    cases hy:d.yes
    ·simp +decide [za6,Dec.row,int,I64,hlt,ed,e1,c1,c2,hy]
     refine zac (by rfl) (by rfl) hS (by simp [anaD]) ?_
     by_cases c4:d.pick=q
     ·have hrej:rejL l r q=true:=List.any_eq_true.2 ⟨d,by rw [← ed];exact List.getElem_mem hlt,by simp [rejD,c3,hy,c4]⟩
      simp +decide [c4,hrej]
     ·have hrej:rejD r q d=false:=by simp [rejD,c3,hy,c4]
      simp +decide [c4,za6,int,I64];exact ⟨by omega,k+1,⟨hlt,hno hrej⟩,by omega,by omega⟩
    ·have hrej:rejD r q d=false:=by simp [rejD,c3,hy]
     simp +decide [za6,Dec.row,int,I64,hlt,ed,e1,c1,c2,hy];exact ⟨by omega,k+1,⟨hlt,hno hrej⟩,by omega,by omega⟩
   ·have hrej:rejD r q d=false:=by simp [rejD,zp0,c2]
    simp +decide [za6,Dec.row,int,I64,hlt,ed,e1,c1,c2];exact ⟨by omega,k+1,⟨hlt,hno hrej⟩,by omega,by omega⟩
  ·have hrej:rejD r q d=false:=by simp [rejD,zp0,c1]
   simp +decide [za6,Dec.row,int,I64,hlt,ed,e1,c1];exact ⟨by omega,k+1,⟨hlt,hno hrej⟩,by omega,by omega⟩
 ·have:k=l.length:=by omega
  subst this;rw [List.take_length] at hp;have hrej:rejL l r q=false:=by
   unfold rejL;rw [List.any_eq_false];intro x hx;rw [hp x hx];simp
  simp +decide [za6,int,hrej]
set_option maxHeartbeats 4000000 in
theorem zjj (g:Lang) (hL:LightF g) (hg:LangC g) (r:Rf) (s:ByteArray) (hs:s.size≤1024) (l:List Dec) (hl:l.length<2^40) (hf:zx1 l) :
  zam Tryz.prog 29 [g.d,refD r,.str s,za6 l] (za1 (choE g r s l).1):=by
 have hO:=z6j g hL hg s hs
 have hsm:=zr1 hL s
 unfold choE
 generalize ofE g s=z at *
 obtain ⟨O,e⟩:=z
 simp only at hO hsm ⊢
 refine zaa mixed Tryz.func29 rfl call_29 ?_
 simp +decide [Tryz.f29,Lang.d,zai,int,refD,Rf.row]
 refine zaj.pure (by rfl) hO (by simp [D.scalar]) ?_
 by_cases he:e=0
 case neg=>simp +decide [int,za1,he]
 subst he
 simp +decide [int,za1]
 refine zaz mixed (fun k:Nat=>{n:=43,next:=4,slots:=[(3,.d (za6 l)),(5,.bp 1 0),(9,.d (za1 O)),(11,.ar 3),(21,.d (za1 O)),(22,.d (int O.length)),(23,.d (int k))],own:=[(1,.box 28 [.d (int r.rcd),.d (int r.note)]),(3,.arr 31 1 (((O.take k).filter fun q=>!rejL l r q).map rowA))],moved:=[3]})
  (fun k=>k≤O.length) (fun k=>O.length-k) 0 (Nat.zero_le _) ?_ ?_
 ·simp +decide [int,za1,za6]
 intro k hk
 refine zao mixed ?_
 by_cases hlt:k<O.length
 case neg=>
  have:k=O.length:=by omega
  subst this;rw [List.take_length];simp +decide [int,za1,za6,rowA]
 have hlt':(k:Int)<O.length:=by omega
 obtain ⟨q,eq⟩ : ∃ q,O[k]=q:=⟨_,rfl⟩
 have e1:O[k]?=some q:=by rw [List.getElem?_eq_getElem hlt,eq]
 have hq4:=hsm.2 O[k] (List.getElem_mem hlt)
 rw [eq] at hq4
 have hR:=zwy l (by omega) hf r q (by omega)
 have hfs:=zh2 (p:=fun q=>!rejL l r q) hlt
 rw [eq] at hfs
 have hfl:=z7q (fun q=>!rejL l r q) O k
 cases hr:rejL l r q with
 | true=>
  rw [hr] at hR hfs;simp only [Bool.not_true,Bool.false_eq_true,if_false,List.append_nil] at hfs;simp +decide [int,za1,za6,hlt,hlt',eq,e1,I64];refine zac (by rfl) (by rfl) hR (by simp [refD,Rf.row,anaD]) ?_
  simp +decide [int,za1,za6,hlt,hlt',eq,e1,I64];exact ⟨by omega,k+1,hlt,by omega,by omega,by rw [hfs]⟩
 | false=>
  rw [hr] at hR hfs;simp only [Bool.not_false,if_true] at hfs;generalize (O.take k).filter (fun q=>!rejL l r q)=W at hfs hfl
  simp +decide [int,za1,za6,hlt,hlt',eq,e1,I64];refine zac (by rfl) (by rfl) hR (by simp [refD,Rf.row,anaD]) ?_
  simp +decide [int,za1,za6,hlt,hlt',eq,e1,I64];exact ⟨by omega,by unfold maxLen;omega,by omega,k+1,hlt,by omega,by omega,by rw [hfs];simp [rowA]⟩
set_option maxHeartbeats 8000000 in
theorem zzn (g:Lang) (hL:LightF g) (hg:LangC g) (r:Rf) (s:ByteArray) (hs:s.size≤1024) (l:List Dec) (hl:l.length<2^40) (hf:zx1 l) (hp:(zb7 l r).1.length<2^20) :
  zam Tryz.prog 32 [g.d,refD r,.str s,za6 l] (zzm g r s l).d:=by
 have hC:=zjj g hL hg r s hs l hl hf
 have hO:=z6j g hL hg s hs
 have hP:=zx3 l r (by omega)
 have hR:=zzh g.orth hg.orth hL.graphs s hs
 have hW:=zmt g.orth.units s
 have hLi:=zk0 g (hL.zwf hg) (ze1 g.orth.units s).1 (by omega) (zb7 l r).1 hp
 have hce:(choE g r s l).2=(ofE g s).2:=by
  unfold choE;split
  ·rfl
  ·rename_i h;exact (Classical.not_not.1 h).symm
 have hcn:(ofE g s).2≠0→(choE g r s l).1=[]:=fun h=>by unfold choE;rw [if_pos h]
 unfold zzm
 rw [hce]
 generalize licE g (ze1 g.orth.units s).1 (zb7 l r).1=lic at *
 generalize zb7 l r=pk at *
 obtain ⟨P,ok⟩:=pk
 generalize ze1 g.orth.units s=z at *
 obtain ⟨W,ap,e⟩:=z
 generalize choE g r s l=c at *
 obtain ⟨C,f'⟩:=c
 generalize ofE g s=y at *
 obtain ⟨O,f⟩:=y
 simp only at *
 refine zaa mixed Tryz.func32 rfl call_32 ?_
 simp +decide [Tryz.f32,Lang.d,zai,int,refD,Rf.row]
 refine zaj.pure (by rfl) hP (by simp [D.scalar,refD,Rf.row]) ?_
 cases ok with
 | true=>
  simp +decide [int,anaD];refine zaj.pure (by rfl) hR (by simp [D.scalar]) ?_
  by_cases he:e=0
  case neg=>simp +decide [int,ints,anaD,he,Stt.d]
  subst he;simp +decide [int,ints,anaD];refine zaj.pure (by rfl) hLi (by simp [D.scalar,anaD]) ?_
  cases lic <;> simp +decide [int,ints,anaD,Stt.d]
 | false=>
  simp +decide [int,anaD];refine zaj.pure (by rfl) hO (by simp [D.scalar]) ?_
  by_cases h11:f=11
  ·simp +decide [int,za1,zab,h11,Stt.d]
  by_cases h0:f=0
  case neg=>
   have hn:C=[]:=hcn h0
   subst hn;simp +decide [int,za1,zab,h11,h0,Stt.d]
  subst h0;simp +decide [int,za1];refine zaj.pure (by rfl) hC (by simp [D.scalar,refD,Rf.row]) ?_
  match C with
  | []=>simp +decide [int,za1,zab,Stt.d]
  | [q]=>
   simp +decide [int,za1,zab,Stt.d];refine zue mixed (by simp) (by rfl) (by rfl) (by rfl) (by simp) ?_
   simp +decide [int,za1,zab,Stt.d]
  | a::b::t=>
   have h1:¬((t.length:Int)+1+1=0):=by omega
   have h2:¬((t.length:Int)+1+1=1):=by omega
   simp +decide [int,za1,zab,Stt.d,h1,h2]
theorem z3f (a b:List (List Prt)) (hb:b.length<2^62) (ha : ∀ x∈a,x.length<2^62) (hb' : ∀ x∈b,x.length<2^62):zam Tryz.prog 27 [za1 a,za1 b] (.bool (decide (a=b))):=by
 refine zaa mixed Tryz.func27 rfl call_27 ?_
 simp [Tryz.f27,za1]
 refine ⟨fun h e=>h (by rw [e]),fun h=>?_⟩
 refine zad mixed (fun k:Nat=>{n:=27,next:=0,slots:=[(0,.d (za1 a)),(1,.d (za1 b)),(12,.d (.int .i64 a.length)),(13,.d (.int .i64 k))],own:=[]})
  (fun k=>k≤a.length∧a.take k=b.take k) (fun k=>a.length-k) 0 (by simp) (by simp [za1]) ?_
 intro k ⟨hk,hp⟩
 have h:a.length=b.length:=by omega
 by_cases hlt:k<a.length
 ·have hlt':k<b.length:=by omega
  have e1:a[k]?=some a[k]:=List.getElem?_eq_getElem hlt
  have e2:b[k]?=some b[k]:=List.getElem?_eq_getElem hlt'
  simp +decide [za1,e1,e2,hlt,hlt',I64];refine zac (by rfl) (by rfl) (zqz a[k] b[k] (ha _ (List.getElem_mem hlt)) (hb' _ (List.getElem_mem hlt'))) (by simp) ?_
  simp +decide [za1,I64];refine ⟨fun hne e=>hne (by subst e;rfl),fun he=>⟨by omega,k+1,⟨hlt,?_⟩,by omega,by omega⟩⟩
  rw [take_snoc hlt,take_snoc hlt',hp,he]
 ·have:k=a.length:=by omega
  subst this;simp +decide [za1];rw [List.take_length,h,List.take_length] at hp;exact hp
theorem z9j (x:Stt) (hx:x.pick.length<2^62):zam Tryz.prog 30 [x.d,x.d] (.bool true):=by
 have hS:=zqz x.pick x.pick hx hx
 rw [decide_eq_true rfl] at hS
 refine zaa mixed Tryz.func30 rfl call_30 ?_
 simp +decide [Tryz.f30,Stt.d,int]
 refine zaj.pure (by rfl) hS (by simp [anaD]) ?_
 simp +decide
structure Wrd where
 g:Lang
 ref:Rf
 s:ByteArray
 l:List Dec
def Wrd.cells (x:Wrd):List D:=(match x.g.d with | .agg cs=>cs | _=>[])++[int x.ref.rcd,int x.ref.note,.str x.s,za6 x.l]
def Wrd.d (x:Wrd):D:=.agg x.cells
structure LightW (x:Wrd):Prop where
 g:LightF x.g
 s:x.s.size≤40
 l:zq1 x.l=true
theorem zvb (x:Wrd) (hg:LangC x.g):zeu Tryz.prog 26 [x.d] (fun y=>∃ b,y = .bool b∧(b=true→LightW x)):=by
 refine za3 mixed Tryz.func26 rfl call_26 ?_
 by_cases c1:(x.s.size:Int)≤40
 case neg=>simp +decide [Tryz.f26,Wrd.d,Wrd.cells,Lang.d,int,c1]
 simp +decide [Tryz.f26,Wrd.d,Wrd.cells,Lang.d,int,c1]
 refine zaj.pure (by rfl) (yfg x.l) (by simp) ?_
 cases hr:zq1 x.l with
 | false=>simp +decide
 | true=>
  simp +decide
  refine zaj.some (by rfl) (z8y x.g hg) ?_
  rintro y ⟨b,rfl,hb⟩
  simp +decide
  cases b with
  | false=>exact .inl rfl
  | true=>exact .inr ⟨rfl,hb rfl,by omega,hr⟩
end Go.V
namespace Go.V
open Go Go.Proofs
theorem zr2 {l:List Dec} {r:Rf} {n:Nat} (h : ∀ d∈l,d.pick.length≤n):(zb7 l r).1.length≤n:=by
 unfold zb7
 split
 ·rename_i d hd;exact h d (List.mem_of_find?_eq_some hd)
 ·exact Nat.zero_le _
theorem z9k {g:Lang} (hL:LightF g) {r:Rf} {s:ByteArray} {l:List Dec} {n:Nat} (hn:4≤n) (h : ∀ d∈l,d.pick.length≤n):(zzm g r s l).pick.length≤n:=by
 have hp:=zr2 (r:=r) h
 have hc:=(z6k hL r s l).2
 unfold zzm
 split
 ·split <;> exact hp
 ·split
  ·exact Nat.zero_le _
  ·split
   ·exact Nat.zero_le _
   ·split
    ·exact Nat.zero_le _
    ·rename_i q t hq
     have:=hc q (by rw [hq];exact List.mem_cons_self ..)
     exact Nat.le_trans this hn
theorem ycy {l:List Dec} (h:fewL l=true) : ∀ d∈l,d.pick.length≤10:=by
 simp only [fewL,Bool.and_eq_true,decide_eq_true_eq,List.all_eq_true] at h
 exact fun d hd=>h.2 d hd
set_option maxHeartbeats 8000000 in
theorem zwz (x:Wrd) (hg:LangC x.g):zam Tryz.prog 6 [x.d] (.bool true):=by
 refine zaa mixed Tryz.func6 rfl call_6 ?_
 simp +decide [Tryz.f6,Wrd.d,Wrd.cells,Lang.d,int]
 refine zaj.some (by rfl) (zvb x hg) ?_
 rintro y ⟨b,rfl,hb⟩
 cases b with
 | false=>
  simp +decide
  refine zaj.pure (by rfl) zmb (by simp) ?_
  simp +decide
 | true=>
  obtain ⟨hL,hs,hr⟩:=hb rfl;have hfew:=zuf hr;have hlen:=z5e hfew;obtain ⟨_,hfit⟩:=zq2 hfew;have h1:=zzl x.g hL hg x.ref x.s (by omega) x.l (by omega)
  have h2:=zjj x.g hL hg x.ref x.s (by omega) x.l (by omega) hfit
  have hsm:=z6k hL x.ref x.s x.l;have h3:=z3f (choE x.g x.ref x.s x.l).1 (choE x.g x.ref x.s x.l).1 (by omega) (fun q hq=>by have:=hsm.2 q hq;omega) (fun q hq=>by have:=hsm.2 q hq;omega)
  rw [decide_eq_true rfl] at h3;generalize (choE x.g x.ref x.s x.l).1=C at h1 h2 h3;simp +decide [int];refine zac (by rfl) (by rfl) h1 (by simp [D.scalar,Lang.d,refD,Rf.row]) ?_
  simp +decide [int];refine zac (by rfl) (by rfl) h2 (by simp [D.scalar,Lang.d,refD,Rf.row]) ?_
  simp +decide [int];refine zac (by rfl) (by rfl) h3 (by simp [za1]) ?_
  simp +decide [int];refine zac (by rfl) (by rfl) zmb (by simp) ?_
  simp +decide
set_option maxHeartbeats 8000000 in
theorem zzo (x:Wrd) (hg:LangC x.g):zam Tryz.prog 7 [x.d] (.bool true):=by
 refine zaa mixed Tryz.func7 rfl call_7 ?_
 simp +decide [Tryz.f7,Wrd.d,Wrd.cells,Lang.d,int]
 refine zaj.some (by rfl) (zvb x hg) ?_
 rintro y ⟨b,rfl,hb⟩
 cases b with
 | false=>
  simp +decide
  refine zaj.pure (by rfl) zmb (by simp) ?_
  simp +decide
 | true=>
  obtain ⟨hL,hs,hr⟩:=hb rfl;have hfew:=zuf hr;have hlen:=z5e hfew;have hpk:=ycy hfew;obtain ⟨_,hfit⟩:=zq2 hfew;have hpp:=zr2 (r:=x.ref) hpk;have h1:=ycx x.g hL hg x.ref x.s (by omega) x.l (by omega) (by omega)
  have h2:=zzn x.g hL hg x.ref x.s (by omega) x.l (by omega) hfit (by omega)
  have hsp:=z9k (r:=x.ref) (s:=x.s) hL (by omega) hpk
  have h3:=z9j (zzm x.g x.ref x.s x.l) (by omega)
  generalize zzm x.g x.ref x.s x.l=C at h1 h2 h3;simp +decide [int];refine zac (by rfl) (by rfl) h1 (by simp [D.scalar,Lang.d,refD,Rf.row]) ?_
  simp +decide [int];refine zac (by rfl) (by rfl) h2 (by simp [D.scalar,Lang.d,refD,Rf.row]) ?_
  simp +decide [int];refine zac (by rfl) (by rfl) h3 (by simp [Stt.d]) ?_
  simp +decide [int];refine zac (by rfl) (by rfl) zmb (by simp) ?_
  simp +decide
end Go.V
namespace Go.V
open Go Go.Proofs Go.RowKit
section
variable {P:Program} {all pre post:List Oper} {st:St}
def ycz (P:Program) (K:St→Prop) (r:List Oper):St→Prop:=fun st=>zp8 P K r st
theorem z9l {K:St→Prop}:ycz P K [] st=K st:=rfl
theorem z3g {K:St→Prop} {o:Oper} {r:List Oper}:ycz P K (o::r) st=(o.guard=none∧dop P o st (ycz P K r)):=rfl
def hTail (P:Program) (ops:List Oper) (m:Nat) (Q:DE→St→Prop):St→Prop:=fun st'=>(st'.own.map (·.1)).Nodup∧zpt P ops st'.next (Q .normal) (ops.drop m) st'
theorem yc0 {ops:List Oper} {m:Nat} {Q:DE→St→Prop}:hTail P ops m Q st=((st.own.map (·.1)).Nodup∧zpt P ops st.next (Q .normal) (ops.drop m) st):=rfl
attribute [simp] z9l z3g yc0
end
end Go.V
namespace Go.V
open Go Go.Proofs
end Go.V
namespace Go.V
open Go Go.Proofs
def Rf.ok (r:Rf):Prop:=z2u r.rcd∧z2u r.note
def Dec.ok (d:Dec):Prop:=d.ref.ok∧yh7 d.pick
abbrev yjd:List Sh:=[.int .i64,.int .i64,.bool,.sl ykm]
theorem zw0 {r:List D} (h:zbo r yjd) : ∃ d:Dec,r=d.row∧d.ok:=by
 obtain ⟨_,_,rfl,g1,r1⟩:=h.zak
 obtain ⟨_,_,rfl,g2,r2⟩:=r1.zak
 obtain ⟨_,_,rfl,g3,r3⟩:=r2.zak
 obtain ⟨_,_,rfl,g4,r4⟩:=r3.zak
 obtain rfl:=r4.zcd
 obtain ⟨a,rfl,wa⟩:=g1.zbu
 obtain ⟨b,rfl,wb⟩:=g2.zbu
 obtain ⟨c,rfl⟩:=g3.zle
 obtain ⟨l,rfl,wl⟩:=zy6 g4
 exact ⟨⟨⟨a,b⟩,c,l⟩,rfl,⟨wa,wb⟩,wl⟩
theorem z3h {d:D} (h:FitD d (.sl yjd)) : ∃ l,d=za6 l∧l.length≤maxLen∧∀ x∈l,x.ok:=by
 obtain ⟨xs,rfl,h1,h2⟩:=FitD.zqu (row:=Dec.row) (good:=Dec.ok) (fun r hr=>zw0 hr) h
 exact ⟨xs,rfl,h1,h2⟩
end Go.V
namespace Go.V
open Go Go.Proofs
theorem zbo.split : ∀ {sh sh':List Sh} {ds:List D},zbo ds (sh++sh')→∃ a b,ds=a++b∧zbo a sh∧zbo b sh'
 | [],sh',ds,h=>⟨[],ds,rfl,by simp [zbo],h⟩
 | s::sh,sh',ds,h=>by
  obtain ⟨d,r,rfl,g,h'⟩:=zbo.zak (shs:=sh++sh') h;obtain ⟨a,b,rfl,ha,hb⟩:=zbo.split h';exact ⟨d::a,b,rfl,by simp only [zbo];exact ⟨s,sh,rfl,g,ha⟩,hb⟩
theorem Caps.left {M:Nat} : ∀ {a b:List D},Caps M (a++b)→Caps M a
 | [],b,_=>by simp [Caps]
 | d::a,b,h=>by
  simp only [List.cons_append,Caps] at h ⊢;exact ⟨h.1,Caps.left h.2⟩
abbrev yc1:List Sh:=yh8++[.int .i64,.int .i64,.str,.sl yjd]
theorem zr3 {l:List D} (h:zbo l yc1) : ∃ x:Wrd,D.agg l=x.d:=by
 obtain ⟨a,b,rfl,ha,hb⟩:=zbo.split h
 obtain ⟨g,hg⟩:=z2v ha
 obtain ⟨_,_,rfl,g1,r1⟩:=hb.zak
 obtain ⟨_,_,rfl,g2,r2⟩:=r1.zak
 obtain ⟨_,_,rfl,g3,r3⟩:=r2.zak
 obtain ⟨_,_,rfl,g4,r4⟩:=r3.zak
 obtain rfl:=r4.zcd
 obtain ⟨u,rfl,_⟩:=g1.zbu
 obtain ⟨v,rfl,_⟩:=g2.zbu
 obtain ⟨s,rfl,_⟩:=g3.zf1
 obtain ⟨m,rfl,_⟩:=z3h g4
 refine ⟨⟨g,⟨u,v⟩,s,m⟩,?_⟩
 simp only [Wrd.d,Wrd.cells,← hg,int]
theorem zzp {x:Wrd} (h:CapT 1048576 x.d):LangC x.g:=by
 refine ycd ?_
 simp only [Wrd.d,Wrd.cells,CapT] at h
 have h1:=Caps.left h
 exact h1
theorem ztq (x:Wrd) (c0:CapT 1048576 x.d):zam Tryz.prog 6 [x.d] (.bool true):=zwz x (zzp c0)
theorem zw1 (x:Wrd) (c0:CapT 1048576 x.d):zam Tryz.prog 7 [x.d] (.bool true):=zzo x (zzp c0)
end Go.V

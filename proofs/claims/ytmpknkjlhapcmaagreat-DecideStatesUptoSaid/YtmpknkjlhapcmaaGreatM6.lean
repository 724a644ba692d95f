/- Contracts and plain laws of this seat: part M6. It needs no conditions. -/
import Derived.Test.YtmpknkjlhapcmaaGreatM5
import Derived.Test.YtmpknkjlhapcmaaGreatM1
set_option linter.unusedVariables false
set_option linter.unusedSimpArgs false
set_option linter.unusedSectionVars false
set_option maxRecDepth 100000
namespace Go.V
open Go Go.Proofs
def zix (n:Int):Bool:=decide (1≤n∧n≤1099511627776)
theorem zhh (n:Int):zam Tryz.prog 41 [int n] (.bool (zix n)):=by
 refine zaa mixed Tryz.func41 rfl call_41 ?_
 by_cases h0:1≤n
 ·simp +decide [Tryz.f41,int,zix,h0]
 ·simp +decide [Tryz.f41,int,zix,h0]
def zg3 (inv:List Phon) (w:List Int):Int:=if w.length=0 then 4 else if 24<w.length then 5 else if (w.all fun x=>zds inv x)=true then 0 else 19
set_option maxHeartbeats 4000000 in
theorem zrg (inv:List Phon) (w:List Int) (hw:w.length≤1048576):zam Tryz.prog 96 [.agg [invD inv],ints w] (int (zg3 inv w)):=by
 refine zaa mixed Tryz.func96 rfl call_96 ?_
 obtain ⟨R,hR⟩ : ∃ R,zg3 inv w=R:=⟨_,rfl⟩
 rw [hR]
 unfold zg3 at hR
 by_cases h0:w.length=0
 ·rw [if_pos h0] at hR
  subst hR;have h0':(w.length:Int)=0:=by omega
  simp +decide [Tryz.f96,int,ints,h0,h0'];done
 rw [if_neg h0] at hR
 have h0':¬(w.length:Int)=0:=by omega
 by_cases h1:24<w.length
 ·rw [if_pos h1] at hR
  subst hR;have h1':(24:Int)<w.length:=by omega
  simp +decide [Tryz.f96,int,ints,h0,h0',h1,h1'];done
 rw [if_neg h1] at hR
 have h1':¬(24:Int)<w.length:=by omega
 simp +decide [Tryz.f96,int,ints,h0,h0',h1,h1']
 refine zad mixed (fun k:Nat=>{n:=25,next:=1,slots:=[(1,.d (ints w)),(2,.bp 0 0),(13,.d (int w.length)),(14,.d (int k))],own:=[(0,.box 44 [.d (invD inv)])]})
  (fun k=>k≤w.length∧∀ x∈w.take k,zds inv x=true) (fun k=>w.length-k) 0 (by simp) (by simp +decide [int,ints]) ?_
 intro k ⟨hk,hp⟩
 by_cases hlt:k<w.length
 ·have hlt':(k:Int)<w.length:=by omega
  have hmem:=List.getElem_mem hlt;obtain ⟨x,ex⟩ : ∃ x,w[k]=x:=⟨_,rfl⟩;have ex1:w[k]?=some x:=by rw [List.getElem?_eq_getElem hlt,ex]
  have hsn:=zal hlt;rw [ex] at hsn hmem;simp +decide [int,ints,hlt,hlt',ex,ex1];refine zac (by rfl) (by rfl) (zqb inv x) (by simp [int]) ?_
  cases hs:zds inv x with
  | false=>
   have:¬(w.all fun x=>zds inv x)=true:=by
    rw [List.all_eq_true];intro h;rw [h x hmem] at hs;cases hs
   rw [if_neg this] at hR;subst hR;simp +decide [int]
  | true=>
   simp +decide [int];refine ⟨⟨by omega,by omega⟩,k+1,⟨hlt,fun y hy=>?_⟩,by omega,by omega⟩
   rw [hsn] at hy;rcases List.mem_append.1 hy with h | h
   ·exact hp y h
   ·rw [List.mem_singleton] at h;rw [h];exact hs
 ·have:k=w.length:=by omega
  subst this;rw [List.take_length] at hp;rw [if_pos (List.all_eq_true.2 hp)] at hR;subst hR;simp +decide [int,ints]
structure WordF (inv:List Phon) (w:List Int):Prop where
 pos:1≤w.length
 len:w.length≤24
 segs : ∀ x∈w,zds inv x=true
theorem zut {inv:List Phon} {w:List Int} (h:zg3 inv w=0):WordF inv w:=by
 unfold zg3 at h
 split at h
 ·cases h
 split at h
 ·cases h
 split at h
 ·rename_i h3;exact ⟨by omega,by omega,List.all_eq_true.1 h3⟩
 ·cases h
structure EntC (e:Ent):Prop where
 form:e.form.length≤1048576
 alts:e.alts.length≤1048576∧∀ w∈e.alts,w.length≤1048576
 senses:e.senses.length≤1048576∧∀ s∈e.senses,s.gloss.size≤1048576∧s.defn.size≤1048576
 links:e.links.length≤1048576
 refs:e.refs.length≤1048576
structure WordsF (inv:List Phon) (e:Ent):Prop where
 id:zix e.id=true
 form:WordF inv e.form
 cls:1≤e.cls∧e.cls≤20
 alts : ∀ w∈e.alts,WordF inv w
set_option maxHeartbeats 8000000 in
theorem z8n (inv:List Phon) (e:Ent) (he:EntC e):zeu Tryz.prog 151 [.agg [invD inv],.agg e.row] (fun x=>∃ n,x=int n∧(n=0→WordsF inv e)):=by
 have hfl:=he.form
 have hal:=he.alts.1
 refine za3 mixed Tryz.func151 rfl call_151 ?_
 simp +decide [Tryz.f151,int,Ent.row]
 refine zaj.pure (by rfl) (zhh e.id) (by simp [int]) ?_
 cases hid:zix e.id with
 | false=>simp +decide [int]
 | true=>
  simp +decide [int];refine zaj.pure (by rfl) (zrg inv e.form hfl) (by simp [int]) ?_
  by_cases hw:zg3 inv e.form=0
  case neg=>simp +decide [int,hw]
  by_cases c1:e.cls<1
  ·simp +decide [int,hw,c1]
  by_cases c2:20<e.cls
  ·simp +decide [int,hw,c1,c2]
  by_cases c3:(3:Int)<e.alts.length
  ·simp +decide [int,hw,zbh,c1,c2,c3]
  simp +decide [int,hw,zbh,c1,c2,c3];refine zad mixed (fun k:Nat=>{n:=73,next:=2,slots:=[(2,.bp 0 0),(3,.bp 1 0),(6,.d (int k))],own:=[(0,.box 44 [.d (invD inv)]),(1,.box 108 (e.row.map .d))]})
   (fun k=>k≤e.alts.length∧∀ w∈e.alts.take k,WordF inv w) (fun k=>e.alts.length-k) 0 (by simp) (by simp +decide [int,ints,Ent.row,zbh]) ?_
  intro k ⟨hk,hp⟩;by_cases hlt:k<e.alts.length
  ·have hlt':(k:Int)<e.alts.length:=by omega
   have hkl:=he.alts.2 e.alts[k] (List.getElem_mem hlt);obtain ⟨w,ew⟩ : ∃ w,e.alts[k]=w:=⟨_,rfl⟩;have ew1:e.alts[k]?=some w:=by rw [List.getElem?_eq_getElem hlt,ew]
   have hsn:=zal hlt;rw [ew] at hsn hkl;simp +decide [int,ints,zbh,Ent.row,hlt,hlt',ew,ew1];refine zac (by rfl) (by rfl) (zrg inv w hkl) (by simp [int,ints]) ?_
   by_cases hz:zg3 inv w=0
   case neg=>simp +decide [int,hz]
   simp +decide [int,ints,zbh,Ent.row,hz,hlt,hlt',ew,ew1];refine zac (by rfl) (by rfl) (zja w e.form (by omega) (by omega)) (by simp [int,ints]) ?_
   by_cases hs:w=e.form
   ·simp +decide [int,hs]
   simp +decide [int,ints,zbh,Ent.row,hs];refine zad mixed (fun m:Nat=>{n:=73,next:=2,slots:=[(2,.bp 0 0),(3,.bp 1 0),(6,.d (int k)),(8,.d (int m))],own:=[(0,.box 44 [.d (invD inv)]),(1,.box 108 (e.row.map .d))]})
    (fun m=>m≤k) (fun m=>k-m) 0 (by simp) (by simp +decide [int,ints,Ent.row,zbh]) ?_
   intro m hm;by_cases hlm:m<k
   ·have hlm':(m:Int)<k:=by omega
    have hml:m<e.alts.length:=by omega
    have hml':(m:Int)<e.alts.length:=by omega
    have hyl:=he.alts.2 e.alts[m] (List.getElem_mem hml);obtain ⟨y,ey⟩ : ∃ y,e.alts[m]=y:=⟨_,rfl⟩;have ey1:e.alts[m]?=some y:=by rw [List.getElem?_eq_getElem hml,ey]
    rw [ey] at hyl;simp +decide [int,ints,zbh,Ent.row,hlm,hlm',hml,hml',hlt,hlt',ew,ew1,ey,ey1];refine zac (by rfl) (by rfl) (zja w y (by omega) (by omega)) (by simp [int,ints]) ?_
    by_cases hs2:w=y
    ·simp +decide [int,hs2]
    ·simp +decide [int,hs2,I64,ints,zbh,Ent.row]
     exact ⟨⟨by omega,by omega⟩,m+1,hlm,by omega,by omega⟩
   ·have hlm':¬(m:Int)<k:=by omega
    simp +decide [int,ints,zbh,Ent.row,hlm',I64];refine ⟨⟨by omega,by omega⟩,k+1,⟨hlt,fun y hy=>?_⟩,by omega,by omega⟩
    rw [hsn] at hy;rcases List.mem_append.1 hy with h | h
    ·exact hp y h
    ·rw [List.mem_singleton] at h;rw [h];exact zut hz
  ·have:k=e.alts.length:=by omega
   subst this;rw [List.take_length] at hp;simp +decide [int,ints,zbh,Ent.row];exact ⟨hid,zut hw,⟨by omega,by omega⟩,hp⟩
end Go.V
namespace Go.V
open Go Go.Proofs
def zgp (f:Nat→Bool) (s:ByteArray):Bool:=(List.range s.size).all fun k=>f (zar s k)
theorem zh3 {f:Nat→Bool} {s:ByteArray} {k:Nat} (hk:k<s.size) (h:f (zar s k)=false):zgp f s=false:=by
 unfold zgp;rw [List.all_eq_false];exact ⟨k,List.mem_range.2 hk,by rw [h];decide⟩
theorem zo5 {f:Nat→Bool} {s:ByteArray} (h : ∀ j,j<s.size→f (zar s j)=true):zgp f s=true:=by
 unfold zgp;rw [List.all_eq_true];intro j hj;exact h j (List.mem_range.1 hj)
theorem zyi {p:Nat→Prop} {k:Nat} (h : ∀ j,j<k→p j) (hk:p k) : ∀ j,j<k+1→p j:=by
 intro j hj
 rcases Nat.lt_succ_iff_lt_or_eq.mp hj with h' | h'
 ·exact h j h'
 ·rw [h'];exact hk
def labB (b:Nat):Bool:=decide (¬ b<32)&&decide (¬ b=127)
def zk2 (s:ByteArray):Bool:=zgp labB s&&((zkv s s.size 0).isSome&&decide (1≤s.size)&&decide (s.size≤32))
theorem zrh (s:ByteArray) (hs:s.size≤1048576):zam Tryz.prog 110 [.str s] (.bool (zk2 s)):=by
 refine zaa mixed Tryz.func110 rfl call_110 ?_
 simp +decide [Tryz.f110,int]
 refine zad mixed (fun k:Nat=>{n:=38,next:=0,slots:=[(0,.d (.str s)),(3,.d (int k))],own:=[]})
  (fun k=>k≤s.size∧∀ j,j<k→labB (zar s j)=true) (fun k=>s.size-k) 0 (by simp) (by simp +decide [int]) ?_
 intro k ⟨hk,hp⟩
 by_cases hlt:k<s.size
 ·have hlt':(k:Int)<s.size:=by omega
  have e1:byteAt s (k:Int)=(zar s k:Int):=zda s k
  by_cases b1:(zar s k:Int)<32
  ·have:zk2 s=false:=by unfold zk2;rw [zh3 hlt (by simp [labB];omega)];rfl
   rw [this];simp +decide [int,hlt,hlt',e1,b1]
  ·by_cases b2:(zar s k:Int)=127
   ·have:zk2 s=false:=by unfold zk2;rw [zh3 hlt (by simp [labB];omega)];rfl
    rw [this];simp +decide [int,hlt,hlt',e1,b1,b2]
   ·have hg:=zyi hp (show labB (zar s k)=true by simp [labB];omega)
    simp +decide [int,hlt,hlt',e1,b1,b2,I64];exact ⟨⟨by omega,by omega⟩,k+1,⟨hlt,hg⟩,by omega,by omega⟩
 ·have hlt':¬(k:Int)<s.size:=by omega
  have hall:zgp labB s=true:=zo5 fun j hj=>hp j (by omega)
  simp +decide [int,hlt'];refine zaj.pure (by rfl) (zjc s hs) (by simp) ?_
  unfold zk2;rw [hall];cases hp:zkv s s.size 0 with
  | none=>simp +decide [ptsD,int]
  | some l=>
   by_cases c1:1≤s.size
   ·have c1':(1:Int)≤s.size:=by omega
    simp +decide [ptsD,int,ints,c1,c1'];try omega
   ·have c1':¬(1:Int)≤s.size:=by omega
    simp +decide [ptsD,int,ints,c1,c1']
def gloB (b:Nat):Bool:=decide (¬ b=32)&&decide (¬ b=45)
def zo6 (s:ByteArray):Bool:=zgp gloB s&&zk2 s
theorem z2a (s:ByteArray) (hs:s.size≤1048576):zam Tryz.prog 197 [.str s] (.bool (zo6 s)):=by
 refine zaa mixed Tryz.func197 rfl call_197 ?_
 simp +decide [Tryz.f197,int]
 refine zad mixed (fun k:Nat=>{n:=22,next:=0,slots:=[(0,.d (.str s)),(3,.d (int k))],own:=[]})
  (fun k=>k≤s.size∧∀ j,j<k→gloB (zar s j)=true) (fun k=>s.size-k) 0 (by simp) (by simp +decide [int]) ?_
 intro k ⟨hk,hp⟩
 by_cases hlt:k<s.size
 ·have hlt':(k:Int)<s.size:=by omega
  have e1:byteAt s (k:Int)=(zar s k:Int):=zda s k
  by_cases b1:(zar s k:Int)=32
  ·have:zo6 s=false:=by unfold zo6;rw [zh3 hlt (by simp [gloB];omega)];rfl
   rw [this];simp +decide [int,hlt,hlt',e1,b1]
  ·by_cases b2:(zar s k:Int)=45
   ·have:zo6 s=false:=by unfold zo6;rw [zh3 hlt (by simp [gloB];omega)];rfl
    rw [this];simp +decide [int,hlt,hlt',e1,b1,b2]
   ·have hg:=zyi hp (show gloB (zar s k)=true by simp [gloB];omega)
    simp +decide [int,hlt,hlt',e1,b1,b2,I64];exact ⟨⟨by omega,by omega⟩,k+1,⟨hlt,hg⟩,by omega,by omega⟩
 ·have hlt':¬(k:Int)<s.size:=by omega
  have hall:zgp gloB s=true:=zo5 fun j hj=>hp j (by omega)
  simp +decide [int,hlt'];refine zaj.pure (by rfl) (zrh s hs) (by simp) ?_
  unfold zo6;rw [hall];simp +decide [int]
def badI (p:Int):Bool:=decide (p<32) || decide (p=127)
def ybl (s:ByteArray):Int:=if 200<s.size then 5 else match zkv s s.size 0 with
 | none=>3
 | some l=>if l.any badI=true then 3 else 0
theorem z8o (s:ByteArray):zam Tryz.prog 198 [.str s] (int (ybl s)):=by
 refine zaa mixed Tryz.func198 rfl call_198 ?_
 unfold ybl
 by_cases h0:200<s.size
 ·have h0':(200:Int)<s.size:=by omega
  simp +decide [Tryz.f198,h0',h0,int]
 have h0':¬(200:Int)<s.size:=by omega
 simp +decide [Tryz.f198,h0',h0,int]
 refine zaj.pure (by rfl) (zjc s (by omega)) (by simp) ?_
 cases hp:zkv s s.size 0 with
 | none=>simp +decide [ptsD,int]
 | some l=>
  have hll:l.length≤s.size:=ybh s _ _ _ hp
  simp +decide [ptsD,ints,int];refine zad mixed (fun k:Nat=>{n:=34,next:=0,slots:=[(3,.d (ints l)),(5,.d (int k))],own:=[]})
   (fun k=>k≤l.length∧∀ x∈l.take k,badI x=false) (fun k=>l.length-k) 0 (by simp) (by simp +decide [int,ints]) ?_
  intro k ⟨hk,hq⟩;by_cases hlt:k<l.length
  ·have e1:l[k]?=some l[k]:=List.getElem?_eq_getElem hlt
   have hbad:badI l[k]=true→l.any badI=true:=fun hb=>List.any_eq_true.2 ⟨l[k],List.getElem_mem hlt,hb⟩
   by_cases b1:l[k]<32
   ·have hb:=hbad (by simp [badI,b1])
    simp +decide [ints,int,e1,hlt,b1];exact List.any_eq_true.1 hb
   ·by_cases b2:l[k]=127
    ·have hb:=hbad (by simp [badI,b2])
     simp +decide [ints,int,e1,hlt,b1,b2];exact List.any_eq_true.1 hb
    ·simp +decide [ints,int,e1,hlt,b1,b2,I64]
     refine ⟨by omega,k+1,⟨hlt,?_⟩,by omega,by omega⟩
     rw [List.take_succ_eq_append_getElem hlt];intro x hx;rcases List.mem_append.1 hx with hx | hx
     ·exact hq x hx
     ·simp at hx;rw [hx];simp [badI,b1,b2]
  ·have:k=l.length:=by omega
   subst this;rw [List.take_length] at hq;have hb:l.any badI=false:=by rw [List.any_eq_false];intro x hx;simp [hq x hx]
   simp +decide [ints,int];exact hq
def zn2 (l:List Sens) (s:ByteArray):Bool:=l.any fun x=>decide (x.gloss=s)
theorem ybm (l:List Sens) (s:ByteArray) (hl:l.length<2^40):zam Tryz.prog 199 [zbp l,.str s] (.bool (zn2 l s)):=by
 refine zaa mixed Tryz.func199 rfl call_199 ?_
 simp +decide [Tryz.f199,int,zbp]
 refine zad mixed (fun k:Nat=>{n:=19,next:=0,slots:=[(0,.d (zbp l)),(1,.d (.str s)),(5,.d (int k))],own:=[]})
  (fun k=>k≤l.length∧∀ x∈l.take k,¬ x.gloss=s) (fun k=>l.length-k) 0 (by simp) (by simp +decide [int,zbp]) ?_
 intro k ⟨hk,hp⟩
 by_cases hlt:k<l.length
 ·have hlt':(k:Int)<l.length:=by omega
  have hmem:=List.getElem_mem hlt;have hsn:=zal hlt;obtain ⟨x,ex⟩ : ∃ x,l[k]=x:=⟨_,rfl⟩;have e1:l[k]?=some x:=by rw [List.getElem?_eq_getElem hlt,ex]
  rw [ex] at hmem hsn;by_cases b1:x.gloss=s
  ·have:zn2 l s=true:=List.any_eq_true.2 ⟨x,hmem,by simpa using b1⟩
   rw [this];simp +decide [int,zbp,Sens.row,hlt,hlt',e1,ex,b1]
  ·simp +decide [int,zbp,Sens.row,hlt,hlt',e1,ex,b1,I64]
   refine ⟨fun h=>absurd (bytes_inj h) b1,fun _=>⟨⟨by omega,by omega⟩,k+1,⟨hlt,fun y hy=>?_⟩,by omega,by omega⟩⟩
   rw [hsn] at hy;rcases List.mem_append.1 hy with h | h
   ·exact hp y h
   ·rw [List.mem_singleton] at h;rw [h];exact b1
 ·have:k=l.length:=by omega
  subst this;rw [List.take_length] at hp;have:zn2 l s=false:=by unfold zn2;rw [List.any_eq_false];intro x hx;simpa using hp x hx
  rw [this];simp +decide [int,zbp]
def zyj (l:List Sens) (s:Sens):Int:=if zo6 s.gloss=false then 7 else if ybl s.defn≠0 then ybl s.defn else if zn2 l s.gloss=true then 8 else 0
theorem zlj (l:List Sens) (s:Sens) (hl:l.length<2^40) (hs:s.gloss.size≤1048576):zam Tryz.prog 178 [zbp l,.agg s.row] (int (zyj l s)):=by
 refine zaa mixed Tryz.func178 rfl call_178 ?_
 have hH:=ybm l s.gloss hl
 unfold zyj
 simp +decide [Tryz.f178,int,Sens.row]
 refine zaj.pure (by rfl) (z2a s.gloss hs) (by simp) ?_
 cases hg:zo6 s.gloss with
 | false=>simp +decide [int]
 | true=>
  simp +decide [int];refine zaj.pure (by rfl) (z8o s.defn) (by simp) ?_
  by_cases he:ybl s.defn=0
  case neg=>simp +decide [int,he]
  simp +decide [int,he];generalize zn2 l s.gloss=b at hH ⊢;refine zaj.pure (by rfl) hH (by simp [int]) ?_
  cases b <;> simp +decide [int]
set_option maxHeartbeats 8000000 in
theorem z2c (e:Ent) (he:EntC e):zeu Tryz.prog 152 [.agg e.row] (fun x=>∃ n,x=int n∧(n=0→(e.senses≠[]∨e.main≠0)∧e.senses.length≤5)):=by
 have hsl:=he.senses.1
 refine za3 mixed Tryz.func152 rfl call_152 ?_
 by_cases hm:e.main=0
 ·by_cases h2:e.main=e.id
  ·have h2':e.id=0:=by omega
   simp +decide [Tryz.f152,int,Ent.row,hm,h2']
  have h2':¬ 0=e.id:=by omega
  by_cases h3:(5:Int)<e.senses.length
  ·simp +decide [Tryz.f152,int,Ent.row,zbp,hm,h2',h3]
  by_cases h4:(e.senses.length:Int)=0
  ·simp +decide [Tryz.f152,int,Ent.row,zbp,hm,h2',h3,h4]
  simp +decide [Tryz.f152,int,Ent.row,zbp,hm,h2',h3,h4];intro hne;refine zad mixed (fun k:Nat=>{n:=52,next:=1,slots:=[(1,.bp 0 0),(3,.d (int k))],own:=[(0,.box 108 (e.row.map .d))]})
   (fun k=>k≤e.senses.length) (fun k=>e.senses.length-k) 0 (by simp) (by simp +decide [int,ints,Ent.row,zbp,hm]) ?_
  intro k hk;by_cases hlt:k<e.senses.length
  ·have hlt':(k:Int)<e.senses.length:=by omega
   have hkl:=he.senses.2 e.senses[k] (List.getElem_mem hlt);obtain ⟨s,es⟩ : ∃ s,e.senses[k]=s:=⟨_,rfl⟩;have es1:e.senses[k]?=some s:=by rw [List.getElem?_eq_getElem hlt,es]
   rw [es] at hkl;have hS:=zlj (e.senses.take k) s (by rw [List.length_take];omega) hkl.1
   have eS:zbp (e.senses.take k) = .sl ((e.senses.map Sens.row).take k):=by simp [zbp,List.map_take]
   rw [eS] at hS;have hrl : ∀ a∈e.senses,a.row.length=2:=fun a _=>rfl
   simp +decide [int,ints,zbp,Ent.row,hlt,hlt',es,es1];refine ⟨by omega,hrl,by rfl,by simp [Sens.row],?_⟩
   refine zac (by rfl) (by rfl) hS (by simp [Sens.row,int]) ?_
   by_cases hz:zyj (e.senses.take k) s=0
   case neg=>simp +decide [int,hz]
   rw [hz];simp +decide [int,ints,zbp,Ent.row,I64];exact ⟨⟨by omega,by omega⟩,k+1,hlt,by omega,by omega⟩
  ·have hlt':¬(k:Int)<e.senses.length:=by omega
   simp +decide [int,ints,zbp,Ent.row,hlt'];exact ⟨hne,by omega⟩
 ·simp +decide [Tryz.f152,int,Ent.row,zbp,hm]
  refine zaj.pure (by rfl) (zhh e.main) (by simp [int]) ?_
  cases hid:zix e.main with
  | false=>simp +decide [int]
  | true=>
   by_cases h2:e.main=e.id
   ·simp +decide [int,h2]
   by_cases h3:(5:Int)<e.senses.length
   ·simp +decide [int,zbp,h2,h3]
   by_cases h4:(e.senses.length:Int)=0
   ·simp +decide [int,zbp,hm,h2,h3,h4]
    refine zad mixed (fun k:Nat=>{n:=52,next:=1,slots:=[(1,.bp 0 0),(3,.d (int k))],own:=[(0,.box 108 (e.row.map .d))]})
     (fun k=>k≤e.senses.length) (fun k=>e.senses.length-k) 0 (by simp) (by simp +decide [int,ints,Ent.row,zbp,hm]) ?_
    intro k hk;by_cases hlt:k<e.senses.length
    ·have hlt':(k:Int)<e.senses.length:=by omega
     have hkl:=he.senses.2 e.senses[k] (List.getElem_mem hlt);obtain ⟨s,es⟩ : ∃ s,e.senses[k]=s:=⟨_,rfl⟩;have es1:e.senses[k]?=some s:=by rw [List.getElem?_eq_getElem hlt,es]
     rw [es] at hkl;have hS:=zlj (e.senses.take k) s (by rw [List.length_take];omega) hkl.1
     have eS:zbp (e.senses.take k) = .sl ((e.senses.map Sens.row).take k):=by simp [zbp,List.map_take]
     rw [eS] at hS;have hrl : ∀ a∈e.senses,a.row.length=2:=fun a _=>rfl
     simp +decide [int,ints,zbp,Ent.row,hlt,hlt',es,es1];refine ⟨by omega,hrl,by rfl,by simp [Sens.row],?_⟩
     refine zac (by rfl) (by rfl) hS (by simp [Sens.row,int]) ?_
     by_cases hz:zyj (e.senses.take k) s=0
     case neg=>simp +decide [int,hz]
     rw [hz];simp +decide [int,ints,zbp,Ent.row,I64];exact ⟨⟨by omega,by omega⟩,k+1,hlt,by omega,by omega⟩
    ·have hlt':¬(k:Int)<e.senses.length:=by omega
     simp +decide [int,ints,zbp,Ent.row,hlt'];omega
   ·have hne:¬ e.senses=[]:=by intro h;rw [h] at h4;simp at h4
    simp +decide [int,zbp,hm,h2,h3,h4,hne];refine zad mixed (fun k:Nat=>{n:=52,next:=1,slots:=[(1,.bp 0 0),(3,.d (int k))],own:=[(0,.box 108 (e.row.map .d))]})
     (fun k=>k≤e.senses.length) (fun k=>e.senses.length-k) 0 (by simp) (by simp +decide [int,ints,Ent.row,zbp,hm]) ?_
    intro k hk;by_cases hlt:k<e.senses.length
    ·have hlt':(k:Int)<e.senses.length:=by omega
     have hkl:=he.senses.2 e.senses[k] (List.getElem_mem hlt);obtain ⟨s,es⟩ : ∃ s,e.senses[k]=s:=⟨_,rfl⟩;have es1:e.senses[k]?=some s:=by rw [List.getElem?_eq_getElem hlt,es]
     rw [es] at hkl;have hS:=zlj (e.senses.take k) s (by rw [List.length_take];omega) hkl.1
     have eS:zbp (e.senses.take k) = .sl ((e.senses.map Sens.row).take k):=by simp [zbp,List.map_take]
     rw [eS] at hS;have hrl : ∀ a∈e.senses,a.row.length=2:=fun a _=>rfl
     simp +decide [int,ints,zbp,Ent.row,hlt,hlt',es,es1];refine ⟨by omega,hrl,by rfl,by simp [Sens.row],?_⟩
     refine zac (by rfl) (by rfl) hS (by simp [Sens.row,int]) ?_
     by_cases hz:zyj (e.senses.take k) s=0
     case neg=>simp +decide [int,hz]
     rw [hz];simp +decide [int,ints,zbp,Ent.row,I64];exact ⟨⟨by omega,by omega⟩,k+1,hlt,by omega,by omega⟩
    ·have hlt':¬(k:Int)<e.senses.length:=by omega
     simp +decide [int,ints,zbp,Ent.row,hlt'];omega
end Go.V
namespace Go.V
open Go Go.Proofs
def ybn (a b:Rf):Bool:=decide (a.rcd<b.rcd) || (decide (a.rcd=b.rcd)&&decide (a.note<b.note))
theorem ybo (a b:Rf):zam Tryz.prog 180 [.agg a.row,.agg b.row] (.bool (ybn a b)):=by
 refine zaa mixed Tryz.func180 rfl call_180 ?_
 by_cases h1:a.rcd<b.rcd
 ·simp +decide [Tryz.f180,int,Rf.row,ybn,h1]
 ·by_cases h2:a.rcd=b.rcd
  ·simp +decide [Tryz.f180,int,Rf.row,ybn,h1,h2]
  ·simp +decide [Tryz.f180,int,Rf.row,ybn,h1,h2]
theorem yf6 (a:Rf):zam Tryz.prog 179 [.agg a.row] (.bool (zix a.rcd&&zix a.note)):=by
 refine zaa mixed Tryz.func179 rfl call_179 ?_
 simp +decide [Tryz.f179,int,Rf.row]
 refine zaj.pure (by rfl) (zhh a.rcd) (by simp [int]) ?_
 cases h:zix a.rcd with
 | false=>simp +decide [int]
 | true=>
  simp +decide [int];refine zaj.pure (by rfl) (zhh a.note) (by simp [int]) ?_
  simp +decide [int]
set_option maxHeartbeats 8000000 in
theorem ybp (l:List Rf) (n:Int) (hl:l.length≤1048576):zeu Tryz.prog 154 [rfD l,int n] IsI:=by
 refine za3 mixed Tryz.func154 rfl call_154 ?_
 by_cases h0:n<l.length
 ·simp +decide [Tryz.f154,int,rfD,h0]
 simp +decide [Tryz.f154,int,rfD,h0]
 refine zad mixed (fun k:Nat=>{n:=37,next:=0,slots:=[(0,.d (rfD l)),(5,.d (int k))],own:=[]})
  (fun k=>k≤l.length) (fun k=>l.length-k) 0 (by simp) (by simp +decide [int,rfD]) ?_
 intro k hk
 by_cases hlt:k<l.length
 ·have hlt':(k:Int)<l.length:=by omega
  obtain ⟨x,ex⟩ : ∃ x,l[k]=x:=⟨_,rfl⟩;have e1:l[k]?=some x:=by rw [List.getElem?_eq_getElem hlt,ex]
  simp +decide [int,rfD,Rf.row,hlt,hlt',e1,ex];refine zaj.pure (by rfl) (yf6 x) (by simp [int,Rf.row]) ?_
  cases hr:zix x.rcd&&zix x.note with
  | false=>simp +decide [int]
  | true=>
   by_cases hk0:k=0
   ·subst hk0
    simp +decide [int,I64,rfD];exact ⟨1,hlt,by omega,by omega⟩
   ·have hk0':(0:Int)<k:=by omega
    have hlm:k-1<l.length:=by omega
    obtain ⟨y,ey⟩ : ∃ y,l[k-1]=y:=⟨_,rfl⟩;have ey1:l[k-1]?=some y:=by rw [List.getElem?_eq_getElem hlm,ey]
    have t1:((k:Int)-1).toNat=k-1:=by omega
    have t2:0≤(k:Int)-1:=by omega
    have t3:(k:Int)-1<l.length:=by omega
    simp +decide [int,I64,rfD,Rf.row,hk0,hk0',hlt,hlt',e1,ex,ey,ey1,t1,t2,t3,hlm];intro _;refine ⟨⟨by omega,by omega⟩,by omega,?_⟩
    refine zac (by rfl) (by rfl) (ybo y x) (by simp [int,Rf.row]) ?_
    cases hpx:ybn y x with
    | false=>simp +decide [int]
    | true=>
     simp +decide [int,I64,rfD,hk0'];exact ⟨⟨by omega,by omega⟩,k+1,hlt,by omega,by omega⟩
 ·have hlt':¬(k:Int)<l.length:=by omega
  simp +decide [int,rfD,hlt']
set_option maxHeartbeats 8000000 in
theorem z8p (e:Ent) (hl:e.links.length≤1048576):zeu Tryz.prog 153 [.agg e.row] (fun x=>∃ n,x=int n∧(n=0→e.links.length≤12∧∀ l∈e.links,0≤l.kind∧l.kind≤5)):=by
 refine za3 mixed Tryz.func153 rfl call_153 ?_
 by_cases h0:(12:Int)<e.links.length
 ·simp +decide [Tryz.f153,int,Ent.row,lnkD,h0]
 simp +decide [Tryz.f153,int,Ent.row,lnkD,h0]
 refine zad mixed (fun k:Nat=>{n:=76,next:=1,slots:=[(1,.bp 0 0),(3,.d (int k))],own:=[(0,.box 108 (e.row.map .d))]})
  (fun k=>k≤e.links.length∧∀ l∈e.links.take k,0≤l.kind∧l.kind≤5) (fun k=>e.links.length-k) 0 (by simp) (by simp +decide [int,ints,Ent.row,lnkD]) ?_
 intro k ⟨hk,hp⟩
 by_cases hlt:k<e.links.length
 ·have hlt':(k:Int)<e.links.length:=by omega
  obtain ⟨x,ex⟩ : ∃ x,e.links[k]=x:=⟨_,rfl⟩;have e1:e.links[k]?=some x:=by rw [List.getElem?_eq_getElem hlt,ex]
  have hsn:=zal hlt;rw [ex] at hsn;by_cases b1:x.kind<0
  ·simp +decide [int,ints,Ent.row,lnkD,Lnk.row,hlt,hlt',e1,ex,b1]
  by_cases b2:5<x.kind
  ·simp +decide [int,ints,Ent.row,lnkD,Lnk.row,hlt,hlt',e1,ex,b1,b2]
  have hgo : ∀ z∈e.links.take (k+1),0≤z.kind∧z.kind≤5:=by
   intro z hz;rw [hsn] at hz;rcases List.mem_append.1 hz with h | h
   ·exact hp z h
   ·rw [List.mem_singleton] at h;rw [h];omega
  simp +decide [int,ints,Ent.row,lnkD,Lnk.row,hlt,hlt',e1,ex,b1,b2];refine zaj.pure (by rfl) (zhh x.dst) (by simp [int]) ?_
  cases hr:zix x.dst with
  | false=>simp +decide [int]
  | true=>
   by_cases b3:x.dst=e.id
   ·simp +decide [int,b3]
   by_cases hk0:k=0
   ·subst hk0
    simp +decide [int,ints,Ent.row,lnkD,Lnk.row,I64,b3];exact ⟨1,⟨hlt,hgo⟩,by omega,by omega⟩
   ·have hk0':(0:Int)<k:=by omega
    have hlm:k-1<e.links.length:=by omega
    obtain ⟨y,ey⟩ : ∃ y,e.links[k-1]=y:=⟨_,rfl⟩;have ey1:e.links[k-1]?=some y:=by rw [List.getElem?_eq_getElem hlm,ey]
    have t1:((k:Int)-1).toNat=k-1:=by omega
    have t2:0≤(k:Int)-1:=by omega
    have t3:(k:Int)-1<e.links.length:=by omega
    by_cases c1:x.kind<y.kind
    ·simp +decide [int,ints,Ent.row,lnkD,Lnk.row,I64,b3,hk0,hk0',hlt,hlt',e1,ex,ey,ey1,t1,t2,t3,hlm,c1]
     exact fun _=>⟨⟨by omega,by omega⟩,by omega⟩
    ·by_cases c2:x.kind=y.kind
     ·by_cases c3:x.dst≤y.dst
      ·simp +decide [int,ints,Ent.row,lnkD,Lnk.row,I64,b3,hk0,hk0',hlt,hlt',e1,ex,ey,ey1,t1,t2,t3,hlm,c1,c2,c3]
       exact fun _=>⟨⟨by omega,by omega⟩,by omega,⟨by omega,by omega⟩,by omega,⟨by omega,by omega⟩,by omega⟩
      ·simp +decide [int,ints,Ent.row,lnkD,Lnk.row,I64,b3,hk0,hk0',hlt,hlt',e1,ex,ey,ey1,t1,t2,t3,hlm,c1,c2,c3]
       exact fun _=>⟨⟨by omega,by omega⟩,by omega,⟨by omega,by omega⟩,by omega,⟨by omega,by omega⟩,by omega,⟨by omega,by omega⟩,k+1,⟨hlt,hgo⟩,by omega,by omega⟩
     ·simp +decide [int,ints,Ent.row,lnkD,Lnk.row,I64,b3,hk0,hk0',hlt,hlt',e1,ex,ey,ey1,t1,t2,t3,hlm,c1,c2]
      exact fun _=>⟨⟨by omega,by omega⟩,by omega,⟨by omega,by omega⟩,by omega,⟨by omega,by omega⟩,k+1,⟨hlt,hgo⟩,by omega,by omega⟩
 ·have:k=e.links.length:=by omega
  subst this;rw [List.take_length] at hp;simp +decide [int,ints,Ent.row,lnkD];exact ⟨by omega,hp⟩
structure EntF (inv:List Phon) (e:Ent):Prop extends WordsF inv e where
 senses:e.senses≠[]∨e.main≠0
 fewS:e.senses.length≤5
 links:e.links.length≤12
 kinds : ∀ l∈e.links,0≤l.kind∧l.kind≤5
set_option maxHeartbeats 4000000 in
theorem z8q (inv:List Phon) (e:Ent) (he:EntC e):zeu Tryz.prog 117 [.agg [invD inv],.agg e.row] (fun x=>∃ n,x=int n∧(n=0→EntF inv e)):=by
 refine za3 mixed Tryz.func117 rfl call_117 ?_
 simp +decide [Tryz.f117,int,Ent.row]
 refine zaj.some (by rfl) (z8n inv e he) ?_
 rintro r ⟨n,rfl,hW⟩
 by_cases h1:n=0
 case neg=>simp +decide [int,h1]
 have hW:=hW h1
 simp +decide [int,h1]
 refine zaj.some (by rfl) (z2c e he) ?_
 rintro r ⟨m,rfl,hS⟩
 by_cases h2:m=0
 case neg=>simp +decide [int,h2]
 have hS:=hS h2
 simp +decide [int,h2]
 refine zaj.some (by rfl) (z8p e he.links) ?_
 rintro r ⟨j,rfl,hL⟩
 by_cases h3:j=0
 case neg=>simp +decide [int,h3]
 have hL:=hL h3
 simp +decide [int,h3]
 refine zaj.some (by rfl) (ybp e.refs 12 he.refs) ?_
 rintro r ⟨i,rfl⟩
 simp +decide [int]
 exact fun _=>⟨hW,hS.1,hS.2,hL.1,hL.2⟩
end Go.V
namespace Go.V
open Go Go.Proofs
theorem zwe (l:List Ent) (id:Int) (hl:l.length<2^40):zam Tryz.prog 118 [lexD l,int id] (.bool (getE l id).2):=by
 refine zaa mixed Tryz.func118 rfl call_118 ?_
 have hG:=zqc l id (by omega)
 generalize getE l id=r at hG ⊢
 obtain ⟨e,ok⟩:=r
 simp +decide [Tryz.f118,int,lexD]
 refine zaj.pure (by rfl) hG (by simp [lexD,int]) ?_
 simp +decide [int,Ent.row]
structure LexC (l:List Ent):Prop where
 few:l.length≤1048576
 each : ∀ e∈l,EntC e
structure LexF (inv:List Phon) (l:List Ent):Prop where
 each : ∀ e∈l,EntF inv e
 up : ∀ k (h:k+1<l.length),l[k].id<l[k+1].id
set_option maxHeartbeats 16000000 in
theorem z8r (inv:List Phon) (l:List Ent) (hl:LexC l):zeu Tryz.prog 91 [.agg [invD inv],lexD l] (fun x=>∃ n,x=int n∧(n=0→LexF inv l)):=by
 have hfew:=hl.few
 refine za3 mixed Tryz.func91 rfl call_91 ?_
 by_cases h0:(100:Int)<l.length
 ·simp +decide [Tryz.f91,int,lexD,h0]
 simp +decide [Tryz.f91,int,lexD,h0]
 refine zaz mixed (fun k:Nat=>{n:=87,next:=1,slots:=[(1,.d (lexD l)),(2,.bp 0 0),(13,.d (int l.length)),(14,.d (int k))],own:=[(0,.box 44 [.d (invD inv)])]})
  (fun k=>k≤l.length∧(∀ e∈l.take k,EntF inv e)∧∀ j (h:j+1<l.length),j+1<k→l[j].id<l[j+1].id) (fun k=>l.length-k) 0 ⟨by simp,by simp,fun j h h'=>absurd h' (by omega)⟩ (by simp +decide [int,ints,lexD]) ?_
 intro k ⟨hk,hp,hup⟩
 by_cases hlt:k<l.length
 ·have hlt':(k:Int)<l.length:=by omega
  have hC:=hl.each l[k] (List.getElem_mem hlt);obtain ⟨e,ee⟩ : ∃ e,l[k]=e:=⟨_,rfl⟩;have e1:l[k]?=some e:=by rw [List.getElem?_eq_getElem hlt,ee]
  have hsn:=zal hlt;rw [ee] at hsn hC;have hE:=z8q inv e hC;refine zfs mixed 2 {n:=87,next:=1,slots:=[(1,.d (lexD l)),(2,.bp 0 0),(13,.d (int l.length)),(14,.d (int k))],own:=[(0,.box 44 [.d (invD inv)])]} rfl (by simp +decide [zev,cutK,int,lexD,hlt,hlt']) ?_
  simp only [zfo];refine zcl (zcb (zfs mixed 1 {n:=87,next:=1,slots:=[(1,.d (lexD l)),(2,.bp 0 0),(5,.d (int k)),(13,.d (int l.length)),(14,.d (int k))],own:=[(0,.box 44 [.d (invD inv)])]} rfl (by simp +decide [zev,cutK,int,lexD]) ?_)) mixed
  simp only [zfo];refine zcl ?_ mixed
  refine z0w mixed 5 (by rfl) (by rfl) (by rfl) (by rfl) (by simp) ?_
  simp +decide [int,lexD,Ent.row,hlt,hlt',ee,e1];refine zaj.some (by rfl) hE ?_
  rintro r ⟨n,rfl,hF⟩
  by_cases hn:n=0
  case neg=>simp +decide [int,hn]
  have hF:=hF hn;have hgo : ∀ x∈l.take (k+1),EntF inv x:=by
   intro x hx;rw [hsn] at hx;rcases List.mem_append.1 hx with h | h
   ·exact hp x h
   ·rw [List.mem_singleton] at h;rw [h];exact hF
  by_cases hk0:k=0
  ·subst hk0
   simp +decide [int,hn,lexD,I64];exact ⟨1,⟨hlt,hgo,fun j h h'=>absurd h' (by omega)⟩,by omega,by omega⟩
  ·have hk0':(0:Int)<k:=by omega
   have hlm:k-1<l.length:=by omega
   obtain ⟨y,ey⟩ : ∃ y,l[k-1]=y:=⟨_,rfl⟩;have ey1:l[k-1]?=some y:=by rw [List.getElem?_eq_getElem hlm,ey]
   have t1:((k:Int)-1).toNat=k-1:=by omega
   have t2:0≤(k:Int)-1:=by omega
   have t3:(k:Int)-1<l.length:=by omega
   by_cases c1:e.id≤y.id
   ·simp +decide [int,hn,lexD,Ent.row,I64,hk0,hk0',hlt,hlt',e1,ee,ey,ey1,t1,t2,t3,hlm,c1]
    exact fun _=>⟨⟨by omega,by omega⟩,by omega⟩
   ·simp +decide [int,hn,lexD,Ent.row,I64,hk0,hk0',hlt,hlt',e1,ee,ey,ey1,t1,t2,t3,hlm,c1]
    refine fun _=>⟨⟨by omega,by omega⟩,by omega,⟨by omega,by omega⟩,k+1,⟨hlt,hgo,fun j h h'=>?_⟩,by omega,by omega⟩
    by_cases hj:j+1<k
    ·exact hup j h hj
    ·have hj1:j=k-1:=by omega
     subst hj1;have hk1:k-1+1=k:=by omega
     have:l[k-1+1]=e:=by rw [← ee];congr 1
     rw [ey,this];omega
 ·have:k=l.length:=by omega
  subst this;rw [List.take_length] at hp;refine zao mixed ?_
  simp +decide [int,lexD];have hsimp:LexF inv l:=⟨hp,fun j h=>hup j h h⟩
  refine zad mixed (fun k:Nat=>{n:=87,next:=1,slots:=[(1,.d (lexD l)),(2,.bp 0 0),(44,.d (int l.length)),(45,.d (int k))],own:=[(0,.box 44 [.d (invD inv)])]})
   (fun k=>k≤l.length) (fun k=>l.length-k) 0 (by simp) (by simp +decide [int,ints,lexD]) ?_
  intro i hi;by_cases hli:i<l.length
  ·have hli':(i:Int)<l.length:=by omega
   have hlk:=(hp l[i] (List.getElem_mem hli)).links;obtain ⟨e,ee⟩ : ∃ e,l[i]=e:=⟨_,rfl⟩;have e1:l[i]?=some e:=by rw [List.getElem?_eq_getElem hli,ee]
   rw [ee] at hlk;by_cases hm:e.main=0
   ·simp +decide [int,lexD,Ent.row,lnkD,hli,hli',e1,ee,hm,I64]
    refine zad mixed (fun m:Nat=>{n:=87,next:=1,slots:=[(1,.d (lexD l)),(2,.bp 0 0),(7,.d (int i)),(44,.d (int l.length)),(45,.d (int i)),(69,.d (int e.links.length)),(70,.d (int m))],own:=[(0,.box 44 [.d (invD inv)])]})
     (fun m=>m≤e.links.length) (fun m=>e.links.length-m) 0 (by simp) (by simp +decide [int,ints,lexD]) ?_
    intro m hm2;by_cases hlm:m<e.links.length
    ·have hlm':(m:Int)<e.links.length:=by omega
     obtain ⟨y,ey⟩ : ∃ y,e.links[m]=y:=⟨_,rfl⟩;have ey1:e.links[m]?=some y:=by rw [List.getElem?_eq_getElem hlm,ey]
     simp +decide [int,lexD,Ent.row,lnkD,Lnk.row,hli,hli',e1,ee,hlm,hlm',ey,ey1,I64];refine zaj.pure (by rfl) (zwe l y.dst (by omega)) (by simp [int,lexD]) ?_
     cases hg2:(getE l y.dst).2 with
     | false=>simp +decide [int]
     | true=>
      simp +decide [int,I64,lexD];exact ⟨⟨by omega,by omega⟩,m+1,hlm,by omega,by omega⟩
    ·have hlm':¬(m:Int)<e.links.length:=by omega
     simp +decide [int,lexD,hlm',I64];exact ⟨⟨by omega,by omega⟩,i+1,hli,by omega,by omega⟩
   ·simp +decide [int,lexD,Ent.row,lnkD,hli,hli',e1,ee,hm,I64]
    refine zaj.pure (by rfl) (zwe l e.main (by omega)) (by simp [int,lexD]) ?_
    cases hg:(getE l e.main).2 with
    | false=>simp +decide [int]
    | true=>
     simp +decide [int,lexD,Ent.row,lnkD,hli,hli',e1,ee,hm,I64];refine zad mixed (fun m:Nat=>{n:=87,next:=1,slots:=[(1,.d (lexD l)),(2,.bp 0 0),(7,.d (int i)),(44,.d (int l.length)),(45,.d (int i)),(69,.d (int e.links.length)),(70,.d (int m))],own:=[(0,.box 44 [.d (invD inv)])]})
      (fun m=>m≤e.links.length) (fun m=>e.links.length-m) 0 (by simp) (by simp +decide [int,ints,lexD]) ?_
     intro m hm2;by_cases hlm:m<e.links.length
     ·have hlm':(m:Int)<e.links.length:=by omega
      obtain ⟨y,ey⟩ : ∃ y,e.links[m]=y:=⟨_,rfl⟩;have ey1:e.links[m]?=some y:=by rw [List.getElem?_eq_getElem hlm,ey]
      simp +decide [int,lexD,Ent.row,lnkD,Lnk.row,hli,hli',e1,ee,hlm,hlm',ey,ey1,I64];refine zaj.pure (by rfl) (zwe l y.dst (by omega)) (by simp [int,lexD]) ?_
      cases hg2:(getE l y.dst).2 with
      | false=>simp +decide [int]
      | true=>
       simp +decide [int,I64,lexD];exact ⟨⟨by omega,by omega⟩,m+1,hlm,by omega,by omega⟩
     ·have hlm':¬(m:Int)<e.links.length:=by omega
      simp +decide [int,lexD,hlm',I64];exact ⟨⟨by omega,by omega⟩,i+1,hli,by omega,by omega⟩
  ·have hli':¬(i:Int)<l.length:=by omega
   simp +decide [int,lexD,hli'];exact hsimp
end Go.V
namespace Go.V
open Go Go.Proofs
def invC (k:Int):Int:=if k=0 then k else if k=1 then k else if k=2 then 3 else if k=3 then 2 else if k=4 then 5 else if k=5 then 4 else -1
theorem zo7 (k:Int):zam Tryz.prog 119 [int k] (int (invC k)):=by
 refine zaa mixed Tryz.func119 rfl call_119 ?_
 unfold invC
 by_cases h0:k=0
 ·simp +decide [Tryz.f119,int,h0]
 by_cases h1:k=1
 ·simp +decide [Tryz.f119,int,h0,h1]
 by_cases h2:k=2
 ·simp +decide [Tryz.f119,int,h0,h1,h2]
 by_cases h3:k=3
 ·simp +decide [Tryz.f119,int,h0,h1,h2,h3]
 by_cases h4:k=4
 ·simp +decide [Tryz.f119,int,h0,h1,h2,h3,h4]
 by_cases h5:k=5
 ·simp +decide [Tryz.f119,int,h0,h1,h2,h3,h4,h5]
 simp +decide [Tryz.f119,int,h0,h1,h2,h3,h4,h5]
def zyk (e:Ent) (x:Lnk):Bool:=e.links.any fun y=>decide (y=x)
theorem yf7 (e:Ent) (x:Lnk) (hl:e.links.length≤1048576):zam Tryz.prog 121 [.agg e.row,.agg x.row] (.bool (zyk e x)):=by
 refine zaa mixed Tryz.func121 rfl call_121 ?_
 simp +decide [Tryz.f121,int,Ent.row,Lnk.row]
 refine zad mixed (fun k:Nat=>{n:=20,next:=2,slots:=[(2,.bp 0 0),(3,.bp 1 0),(5,.d (int k))],own:=[(0,.box 108 (e.row.map .d)),(1,.box 157 (x.row.map .d))]})
  (fun k=>k≤e.links.length∧∀ y∈e.links.take k,¬ y=x) (fun k=>e.links.length-k) 0 (by simp) (by simp +decide [int,ints,Ent.row,Lnk.row,lnkD]) ?_
 intro k ⟨hk,hp⟩
 by_cases hlt:k<e.links.length
 ·have hlt':(k:Int)<e.links.length:=by omega
  have hmem:=List.getElem_mem hlt;have hsn:=zal hlt;obtain ⟨y,ey⟩ : ∃ y,e.links[k]=y:=⟨_,rfl⟩;have e1:e.links[k]?=some y:=by rw [List.getElem?_eq_getElem hlt,ey]
  rw [ey] at hmem hsn;by_cases b1:y=x
  ·have:zyk e x=true:=List.any_eq_true.2 ⟨y,hmem,by simpa using b1⟩
   rw [this];subst b1;simp +decide [int,ints,Ent.row,lnkD,Lnk.row,hlt,hlt',e1,ey]
  ·simp +decide [int,ints,Ent.row,lnkD,Lnk.row,hlt,hlt',e1,ey,I64]
   have hne:y.kind=x.kind→¬ y.dst=x.dst:=by
    intro h1 h2;obtain ⟨a,b⟩:=y;obtain ⟨c,d⟩:=x;simp only at h1 h2
    exact b1 (by rw [h1,h2])
   refine ⟨fun h1 h2=>absurd h2 (hne h1),fun _=>⟨⟨by omega,by omega⟩,k+1,⟨hlt,fun z hz=>?_⟩,by omega,by omega⟩⟩
   rw [hsn] at hz;rcases List.mem_append.1 hz with h | h
   ·exact hp z h
   ·rw [List.mem_singleton] at h;rw [h];exact b1
 ·have:k=e.links.length:=by omega
  subst this;rw [List.take_length] at hp;have:zyk e x=false:=by unfold zyk;rw [List.any_eq_false];intro y hy;simpa using hp y hy
  rw [this];simp +decide [int,ints,Ent.row,lnkD]
theorem ybq (l:List Int) (x:Int) (hl:l.length<2^40):zam Tryz.prog 122 [ints l,int x] (.bool (decide (x∈l))):=by
 refine zaa mixed Tryz.func122 rfl call_122 ?_
 simp +decide [Tryz.f122,int,ints]
 refine zad mixed (fun k:Nat=>{n:=18,next:=0,slots:=[(0,.d (ints l)),(1,.d (int x)),(5,.d (int k))],own:=[]})
  (fun k=>k≤l.length∧∀ y∈l.take k,¬ y=x) (fun k=>l.length-k) 0 (by simp) (by simp +decide [int,ints]) ?_
 intro k ⟨hk,hp⟩
 by_cases hlt:k<l.length
 ·have hlt':(k:Int)<l.length:=by omega
  have hmem:=List.getElem_mem hlt;have hsn:=zal hlt;obtain ⟨y,ey⟩ : ∃ y,l[k]=y:=⟨_,rfl⟩;have e1:l[k]?=some y:=by rw [List.getElem?_eq_getElem hlt,ey]
  rw [ey] at hmem hsn;by_cases b1:y=x
  ·subst b1
   simp +decide [int,ints,hlt,hlt',e1,ey,hmem]
  ·simp +decide [int,ints,hlt,hlt',e1,ey,b1,I64]
   refine ⟨⟨by omega,by omega⟩,k+1,⟨hlt,fun z hz=>?_⟩,by omega,by omega⟩
   rw [hsn] at hz;rcases List.mem_append.1 hz with h | h
   ·exact hp z h
   ·rw [List.mem_singleton] at h;rw [h];exact b1
 ·have:k=l.length:=by omega
  subst this;rw [List.take_length] at hp;have hn:¬ x∈l:=fun h=>hp x h rfl
  simp +decide [int,ints,hn]
def zmm (l:List Ent) (kind:Int) (s:List Bool×List Int) (x:Lnk):List Bool×List Int:=
 if x.kind=kind∧0≤zd1 l x.dst∧s.1[(zd1 l x.dst).toNat]?.getD true=false then (s.1.set (zd1 l x.dst).toNat true,s.2++[x.dst]) else s
def rOne (l:List Ent) (kind:Int) (s:List Bool×List Int) (t:Int):List Bool×List Int:=(getE l t).1.links.foldl (zmm l kind) s
def yh4 (l:List Ent) (kind:Int) (s:List Bool×List Int):List Bool×List Int:=s.2.foldl (rOne l kind) (s.1,[])
def rN (l:List Ent) (id kind:Int):Nat→List Bool×List Int
 | 0=>(List.replicate l.length false,[id])
 | n+1=>yh4 l kind (rN l id kind n)
def rOut (l:List Ent) (s:List Bool) (k:Nat):List Int:=((List.range k).filter fun j=>s[j]?.getD false).map fun j=>((l[j]?).map Ent.id).getD 0
def zri (l:List Ent) (id kind:Int):List Int:=rOut l (rN l id kind (l.length+1)).1 l.length
theorem ybr (l:List Ent) (kind:Int) (s:List Bool×List Int) (x:Lnk):(zmm l kind s x).1.length=s.1.length∧(zmm l kind s x).2.length≤s.2.length+1:=by
 unfold zmm;split <;> simp
theorem zrj (l:List Ent) (kind:Int) : ∀ (xs:List Lnk) (s:List Bool×List Int),(xs.foldl (zmm l kind) s).1.length=s.1.length∧(xs.foldl (zmm l kind) s).2.length≤s.2.length+xs.length
 | [],s=>⟨rfl,Nat.le_refl _⟩
 | x::xs,s=>by
  have h1:=ybr l kind s x;have h2:=zrj l kind xs (zmm l kind s x);rw [List.foldl_cons,List.length_cons];exact ⟨h2.1.trans h1.1,by omega⟩
theorem zuu {l:List Ent} (hk : ∀ e∈l,e.links.length≤12) (t:Int):(getE l t).1.links.length≤12:=by
 rcases zcy l t with ⟨_,h2⟩ | ⟨j,hj,_,h2⟩
 ·rw [h2];simp [Ent.zero]
 ·rw [h2];exact hk _ (List.getElem_mem hj)
theorem zrk {l:List Ent} (hk : ∀ e∈l,e.links.length≤12) (kind:Int) : ∀ (ts:List Int) (s:List Bool×List Int),(ts.foldl (rOne l kind) s).1.length=s.1.length∧(ts.foldl (rOne l kind) s).2.length≤s.2.length+12*ts.length
 | [],s=>⟨rfl,by simp⟩
 | t::ts,s=>by
  have h1:=zrj l kind (getE l t).1.links s;have h0:=zuu hk t;have h2:=zrk hk kind ts (rOne l kind s t);rw [List.foldl_cons,List.length_cons];unfold rOne at h2 ⊢;exact ⟨h2.1.trans h1.1,by omega⟩
theorem yh5 {l:List Ent} (hk : ∀ e∈l,e.links.length≤12) (id kind:Int) : ∀ n,(rN l id kind n).1.length=l.length∧(rN l id kind n).2.length≤12^n
 | 0=>by simp [rN]
 | n+1=>by
  have h:=yh5 hk id kind n;have h2:=zrk hk kind (rN l id kind n).2 ((rN l id kind n).1,[]);unfold rN yh4;simp only [List.length_nil,Nat.zero_add] at h2;refine ⟨h2.1.trans h.1,Nat.le_trans h2.2 ?_⟩
  rw [Nat.pow_succ];omega
theorem ybs (l:List Ent) (s:List Bool) (k:Nat):rOut l s (k+1)=rOut l s k++(if s[k]?.getD false=true then [((l[k]?).map Ent.id).getD 0] else []):=by
 unfold rOut
 rw [List.range_succ,List.filter_append,List.map_append]
 congr 1
 by_cases h:s[k]?.getD false=true
 ·simp [h]
 ·simp [h]
theorem z5q (l:List Ent) (s:List Bool) (k:Nat):(rOut l s k).length≤k:=by
 unfold rOut
 rw [List.length_map]
 have:=List.length_filter_le (fun j=>s[j]?.getD false) (List.range k)
 simpa using this
def rB (l:List Bool):List (List D):=l.map fun b=>[.bool b]
def rI (l:List Int):List (List D):=l.map fun n=>[int n]
def rH (l:List Ent) (id kind:Int) (i:Nat):St:=
 {n:=110,next:=3,slots:=[(0,.d (lexD l)),(1,.d (int id)),(2,.d (int kind)),(7,.ar 1),(8,.d (ints (rN l id kind i).2)),(9,.d (int i))],own:=[(1,.arr 4 1 (rB (rN l id kind i).1))],moved:=[3]}
def rM (l:List Ent) (id kind:Int) (i:Nat) (todo:List Int) (s:List Bool×List Int):St:=
 {n:=110,next:=4,slots:=[(0,.d (lexD l)),(1,.d (int id)),(2,.d (int kind)),(7,.ar 1),(8,.d (ints todo)),(9,.d (int i)),(10,.ar 3)],own:=[(1,.arr 4 1 (rB s.1)),(3,.arr 3 1 (rI s.2))],moved:=[3]}
def rMj (l:List Ent) (id kind:Int) (i:Nat) (todo:List Int) (j:Nat) (s:List Bool×List Int):St:=
 {n:=110,next:=4,slots:=[(0,.d (lexD l)),(1,.d (int id)),(2,.d (int kind)),(7,.ar 1),(8,.d (ints todo)),(9,.d (int i)),(10,.ar 3),(11,.d (int j))],own:=[(1,.arr 4 1 (rB s.1)),(3,.arr 3 1 (rI s.2))],moved:=[3]}
def rL (l:List Ent) (id kind:Int) (i:Nat) (todo:List Int) (j:Nat) (f:Int) (m:Nat) (s:List Bool×List Int):St:=
 {n:=110,next:=4,slots:=[(0,.d (lexD l)),(1,.d (int id)),(2,.d (int kind)),(7,.ar 1),(8,.d (ints todo)),(9,.d (int i)),(10,.ar 3),(11,.d (int j)),(12,.d (int f)),(13,.d (int m))],own:=[(1,.arr 4 1 (rB s.1)),(3,.arr 3 1 (rI s.2))],moved:=[3]}
set_option maxHeartbeats 16000000 in
theorem zuv (l:List Ent) (id kind:Int) (hl:l.length≤5) (hk : ∀ e∈l,e.links.length≤12):zam Tryz.prog 123 [lexD l,int id,int kind] (ints (zri l id kind)):=by
 refine zaa mixed Tryz.func123 rfl call_123 ?_
 simp +decide [Tryz.f123,int,lexD]
 refine ⟨by omega,by unfold maxLen;omega,?_⟩
 refine ze5 [2] ?_
 refine zaz mixed (rH l id kind) (fun i=>i≤l.length+1) (fun i=>l.length+1-i) 0 (by simp) (by simp +decide [rH,rN,int,ints,lexD,rB]) ?_
 intro i hi
 obtain ⟨n1,n2⟩:=yh5 hk id kind i
 have hpw:12^i≤12^6:=Nat.pow_le_pow_right (by omega) (by omega)
 by_cases hlt:i<l.length+1
 ·have hlt':(i:Int)≤l.length:=by omega
  refine zfs mixed 1 (rH l id kind i) rfl (by simp +decide [rH,zev,cutK,int,lexD,hlt']) ?_
  simp only [zfo];refine zcl (zcb (zfs mixed 2 (rM l id kind i (rN l id kind i).2 (rN l id kind (i+1))) rfl ?_ ?_)) mixed
  ·unfold rH
   have n3:(rN l id kind i).2.length≤2985984:=Nat.le_trans n2 (Nat.le_trans hpw (by decide))
   have hsucc:rN l id kind (i+1)=(rN l id kind i).2.foldl (rOne l kind) ((rN l id kind i).1,[]):=rfl
   generalize rN l id kind (i+1)=nx at hsucc;generalize rN l id kind i=cur at hsucc n1 n2 n3 ⊢;obtain ⟨seen,todo⟩:=cur;simp only at hsucc n1 n2 n3
   simp +decide [rH,zev,int,lexD];have hbase:(seen,[])=(([]:List Int).foldl (rOne l kind) (seen,[])):=rfl
   refine zad mixed (fun j:Nat=>rMj l id kind i todo j ((todo.take j).foldl (rOne l kind) (seen,[]))) (fun j=>j≤todo.length) (fun j=>todo.length-j) 0 (by simp) (by simp +decide [rMj,int,ints,lexD,rB,rI]) ?_
   intro j hj;obtain ⟨m1,m2⟩:=zrk hk kind (todo.take j) (seen,[]);rw [List.length_take] at m2;simp only [List.length_nil,Nat.zero_add] at m1 m2;by_cases hlj:j<todo.length
   case neg=>
    have:j=todo.length:=by omega
    subst this;rw [List.take_length,← hsucc];simp +decide [rMj,rM,int,ints,lexD,cutK];done
   have hlj':(j:Int)<todo.length:=by omega
   have hsn:(todo.take (j+1)).foldl (rOne l kind) (seen,[])=rOne l kind ((todo.take j).foldl (rOne l kind) (seen,[])) todo[j]:=by rw [zal hlj,List.foldl_append];rfl
   obtain ⟨t,et⟩ : ∃ t,todo[j]=t:=⟨_,rfl⟩;have et1:todo[j]?=some t:=by rw [List.getElem?_eq_getElem hlj,et]
   rw [et] at hsn;generalize (todo.take j).foldl (rOne l kind) (seen,[])=s0 at hsn m1 m2;have hF:=zqx l t (by omega)
   have hlk:=zuu hk t;have hone:rOne l kind s0 t=(getE l t).1.links.foldl (zmm l kind) s0:=rfl
   rw [hone] at hsn;simp +decide [rMj,int,ints,lexD,hlj,hlj',et,et1];refine zaj.pure (by rfl) hF (by simp [int,lexD]) ?_
   simp +decide [int,ints,lexD];refine zad mixed (fun m:Nat=>rL l id kind i todo j (zd1 l t) m (((getE l t).1.links.take m).foldl (zmm l kind) s0)) (fun m=>m≤(getE l t).1.links.length) (fun m=>(getE l t).1.links.length-m) 0 (by simp) (by simp +decide [rL,int,ints,lexD,rB,rI]) ?_
   intro m hm;rcases zcy l t with ⟨f1,f2⟩ | ⟨q,hq,f1,f2⟩
   ·have hz:(getE l t).1.links=[]:=by rw [f2];rfl
    rw [hz] at hm hsn ⊢;have hm0:m=0:=by simpa using hm
    subst hm0;have hf0:¬ 0≤zd1 l t:=by omega
    simp only [List.take_zero,List.foldl_nil] at hsn ⊢;simp +decide [rL,int,ints,lexD,hf0,I64];exact ⟨⟨by omega,by omega⟩,j+1,hlj,by omega,by omega,by rw [hsn],by rw [hsn]⟩
   ·rw [f2] at hm hsn hlk ⊢
    simp only at hm hsn hlk ⊢
    rw [f1];obtain ⟨e,ee⟩ : ∃ e,l[q]=e:=⟨_,rfl⟩;have eq1:l[q]?=some e:=by rw [List.getElem?_eq_getElem hq,ee]
    have hq':(q:Int)<l.length:=by omega
    rw [ee] at hm hsn hlk ⊢;by_cases hlm:m<e.links.length
    case neg=>
     have:m=e.links.length:=by omega
     subst this;rw [List.take_length,← hsn];simp +decide [rL,int,ints,lexD,hq,hq',ee,eq1,Ent.row,lnkD,I64];exact ⟨⟨by omega,by omega⟩,j+1,hlj,by omega,by omega,rfl,rfl⟩
    have hlm':(m:Int)<e.links.length:=by omega
    obtain ⟨p1,p2⟩:=zrj l kind (e.links.take m) s0;rw [List.length_take] at p2;have hsm:(e.links.take (m+1)).foldl (zmm l kind) s0=zmm l kind ((e.links.take m).foldl (zmm l kind) s0) e.links[m]:=by rw [zal hlm,List.foldl_append];rfl
    obtain ⟨x,ex⟩ : ∃ x,e.links[m]=x:=⟨_,rfl⟩;have ex1:e.links[m]?=some x:=by rw [List.getElem?_eq_getElem hlm,ex]
    rw [ex] at hsm;generalize (e.links.take m).foldl (zmm l kind) s0=s1 at hsm p1 p2;have hG:=zqx l x.dst (by omega)
    have hstep:zmm l kind s1 x=if x.kind=kind∧0≤zd1 l x.dst∧s1.1[(zd1 l x.dst).toNat]?.getD true=false then (s1.1.set (zd1 l x.dst).toNat true,s1.2++[x.dst]) else s1:=rfl
    rw [hstep] at hsm;simp +decide [rL,int,ints,lexD,hq,hq',ee,eq1,Ent.row,lnkD,Lnk.row,I64,hlm,hlm',ex,ex1];refine zaj.pure (by rfl) hG (by simp [int,lexD]) ?_
    by_cases k1:x.kind=kind
    case neg=>
     rw [if_neg (fun h=>k1 h.1)] at hsm
     simp +decide [int,k1,I64];exact ⟨⟨by omega,by omega⟩,m+1,hlm,by omega,by omega,by rw [hsm],by rw [hsm]⟩
    rcases zcy l x.dst with ⟨g1,g2⟩ | ⟨u,hu,g1,g2⟩
    ·have hg0:¬ 0≤zd1 l x.dst:=by omega
     rw [if_neg (fun h=>hg0 h.2.1)] at hsm
     simp +decide [int,k1,hg0,I64];exact ⟨⟨by omega,by omega⟩,m+1,hlm,by omega,by omega,by rw [hsm],by rw [hsm]⟩
    ·have hul:u<s1.1.length:=by omega
     obtain ⟨b,eb⟩ : ∃ b,s1.1[u]=b:=⟨_,rfl⟩;have eb1:s1.1[u]?=some b:=by rw [List.getElem?_eq_getElem hul,eb]
     rw [g1] at hsm;simp only [Int.toNat_natCast,eb1,Option.getD_some] at hsm;have hu':(u:Int)<s1.1.length:=by omega
     cases b with
     | true=>
      rw [if_neg (fun h=>by cases h.2.2)] at hsm
      simp +decide [int,k1,g1,rB,hul,hu',eb,eb1,I64];exact ⟨⟨by omega,by omega⟩,m+1,hlm,by omega,by omega,by rw [hsm],by rw [hsm]⟩
     | false=>
      rw [if_pos ⟨k1,by omega,rfl⟩] at hsm
      simp +decide [int,k1,g1,rB,rI,hul,hu',eb,eb1,I64];exact ⟨by omega,by unfold maxLen;omega,⟨by omega,by omega⟩,m+1,hlm,by omega,by omega,by rw [hsm];simp [List.map_set],by rw [hsm];simp⟩
  ·simp only [zfo]
   refine ze5 [3] ?_
   refine zao mixed ?_
   simp +decide [rM,int,lexD];exact ⟨⟨by omega,by omega⟩,i+1,by omega,by omega,by simp +decide [rH,int,ints,lexD,rB,rI]⟩
 ·have:i=l.length+1:=by omega
  subst this;refine zao mixed ?_
  have hn:¬(l.length:Int)+1≤l.length:=by omega
  simp +decide [rH,int,lexD,hn];have hfin:zri l id kind=rOut l (rN l id kind (l.length+1)).1 l.length:=rfl
  generalize (rN l id kind (l.length+1)).1=seen at hfin n1 ⊢;refine zad mixed (fun k:Nat=>{n:=110,next:=4,slots:=[(0,.d (lexD l)),(7,.ar 1),(16,.ar 3),(17,.d (int k))],own:=[(1,.arr 4 1 (rB seen)),(3,.arr 3 1 (rI (rOut l seen k)))],moved:=[3]}) (fun k=>k≤l.length) (fun k=>l.length-k) 0 (by simp) (by simp +decide [int,ints,lexD,rB,rI,rOut]) ?_
  intro k hkl;have hol:=z5q l seen k;by_cases hlk:k<l.length
  ·have hlk':(k:Int)<l.length:=by omega
   have hks:k<seen.length:=by omega
   have hks':(k:Int)<seen.length:=by omega
   have hsn:=ybs l seen k;obtain ⟨e,ee⟩ : ∃ e,l[k]=e:=⟨_,rfl⟩;have e1:l[k]?=some e:=by rw [List.getElem?_eq_getElem hlk,ee]
   obtain ⟨b,eb⟩ : ∃ b,seen[k]=b:=⟨_,rfl⟩;have eb1:seen[k]?=some b:=by rw [List.getElem?_eq_getElem hks,eb]
   rw [e1,eb1] at hsn;cases b with
   | false=>
    simp only [Option.getD_some,Bool.false_eq_true,if_false,List.append_nil] at hsn;simp +decide [int,ints,lexD,rB,hlk,hlk',hks,hks',ee,e1,eb,eb1,I64];exact ⟨⟨by omega,by omega⟩,k+1,hlk,by omega,by omega,by rw [hsn]⟩
   | true=>
    simp only [Option.getD_some,if_true,Option.map_some] at hsn;simp +decide [int,ints,lexD,rB,rI,Ent.row,hlk,hlk',hks,hks',ee,e1,eb,eb1,I64];exact ⟨by omega,by unfold maxLen;omega,⟨by omega,by omega⟩,k+1,hlk,by omega,by omega,by rw [hsn];simp⟩
  ·have:k=l.length:=by omega
   subst this;rw [hfin];simp +decide [int,ints,lexD,rI]
end Go.V
namespace Go.V
open Go Go.Proofs
theorem zuw (l:List Ent) (id kind:Int):(zri l id kind).length≤l.length:=z5q _ _ _
set_option maxHeartbeats 16000000 in
theorem z8s (l:List Ent) (hl:l.length≤5) (hk : ∀ e∈l,e.links.length≤12):zeu Tryz.prog 92 [lexD l] IsI:=by
 refine za3 mixed Tryz.func92 rfl call_92 ?_
 simp +decide [Tryz.f92,int,lexD]
 refine zad mixed (fun i:Nat=>{n:=91,next:=0,slots:=[(0,.d (lexD l)),(3,.d (int i))],own:=[]}) (fun i=>i≤l.length) (fun i=>l.length-i) 0 (by simp) (by simp +decide [int,lexD]) ?_
 intro i hi
 by_cases hli:i<l.length
 ·have hli':(i:Int)<l.length:=by omega
  have hlk:=hk l[i] (List.getElem_mem hli);obtain ⟨e,ee⟩ : ∃ e,l[i]=e:=⟨_,rfl⟩;have e1:l[i]?=some e:=by rw [List.getElem?_eq_getElem hli,ee]
  rw [ee] at hlk;simp +decide [int,lexD,hli'];refine zad mixed (fun k:Nat=>{n:=91,next:=0,slots:=[(0,.d (lexD l)),(3,.d (int i)),(4,.d (int k))],own:=[]}) (fun k=>k≤e.links.length) (fun k=>e.links.length-k) 0 (by simp) (by simp +decide [int,lexD]) ?_
  intro k hkl;by_cases hlm:k<e.links.length
  ·have hlm':(k:Int)<e.links.length:=by omega
   obtain ⟨x,ex⟩ : ∃ x,e.links[k]=x:=⟨_,rfl⟩;have ex1:e.links[k]?=some x:=by rw [List.getElem?_eq_getElem hlm,ex]
   simp +decide [int,lexD,Ent.row,lnkD,Lnk.row,hli,hli',ee,e1,hlm,hlm',ex,ex1];refine zaj.pure (by rfl) (zo7 x.kind) (by simp [int]) ?_
   by_cases c1:invC x.kind<0
   ·simp +decide [int,c1]
   simp +decide [int,lexD,c1];refine zaj.pure (by rfl) (zqx l x.dst (by omega)) (by simp [int,lexD]) ?_
   rcases zcy l x.dst with ⟨g1,g2⟩ | ⟨u,hu,g1,g2⟩
   ·simp +decide [int,g1]
   ·have hu':(u:Int)<l.length:=by omega
    have hul:=hk l[u] (List.getElem_mem hu);obtain ⟨y,ey⟩ : ∃ y,l[u]=y:=⟨_,rfl⟩;have ey1:l[u]?=some y:=by rw [List.getElem?_eq_getElem hu,ey]
    rw [ey] at hul;have hH:=yf7 y ⟨invC x.kind,e.id⟩ (by omega)
    rw [g1];simp +decide [int,lexD,Ent.row,lnkD,Lnk.row,hli,hli',ee,e1,hu,hu',ey,ey1];refine zac (by rfl) (by rfl) (zo7 x.kind) (by simp [int]) ?_
    simp +decide [int,lexD,Ent.row,lnkD,Lnk.row,hli,hli',ee,e1,hu,hu',ey,ey1];refine zac (by rfl) (by rfl) hH (by simp [int,Ent.row,Lnk.row]) ?_
    cases hb:zyk y ⟨invC x.kind,e.id⟩ with
    | false=>simp +decide [int]
    | true=>
     simp +decide [int,I64,lexD];exact ⟨⟨by omega,by omega⟩,k+1,hlm,by omega,by omega⟩
  ·have hlm':¬(k:Int)<e.links.length:=by omega
   simp +decide [int,lexD,Ent.row,lnkD,hli,hli',ee,e1,hlm',I64];exact ⟨⟨by omega,by omega⟩,i+1,hli,by omega,by omega⟩
 ·have hli':¬(i:Int)<l.length:=by omega
  simp +decide [int,lexD,hli'];refine zad mixed (fun i:Nat=>{n:=91,next:=0,slots:=[(0,.d (lexD l)),(7,.d (int i))],own:=[]}) (fun i=>i≤l.length) (fun i=>l.length-i) 0 (by simp) (by simp +decide [int,lexD]) ?_
  intro j hj;by_cases hlj:j<l.length
  ·have hlj':(j:Int)<l.length:=by omega
   obtain ⟨e,ee⟩ : ∃ e,l[j]=e:=⟨_,rfl⟩;have e1:l[j]?=some e:=by rw [List.getElem?_eq_getElem hlj,ee]
   have r2:=zuw l e.id 2;have r4:=zuw l e.id 4;simp +decide [int,lexD,Ent.row,hlj,hlj',ee,e1];refine zac (by rfl) (by rfl) (zuv l e.id 2 hl hk) (by simp [int,lexD]) ?_
   simp +decide [int,ints,lexD,Ent.row,hlj,hlj',ee,e1];refine zac (by rfl) (by rfl) (ybq (zri l e.id 2) e.id (by omega)) (by simp [int,ints]) ?_
   by_cases m2:e.id∈zri l e.id 2
   ·simp +decide [int,m2]
   simp +decide [int,lexD,Ent.row,hlj,hlj',ee,e1,m2];refine zac (by rfl) (by rfl) (zuv l e.id 4 hl hk) (by simp [int,lexD]) ?_
   simp +decide [int,ints,lexD,Ent.row,hlj,hlj',ee,e1,m2];refine zac (by rfl) (by rfl) (ybq (zri l e.id 4) e.id (by omega)) (by simp [int,ints]) ?_
   by_cases m4:e.id∈zri l e.id 4
   ·simp +decide [int,m2,m4]
   ·simp +decide [int,m2,m4,I64,lexD]
    exact ⟨⟨by omega,by omega⟩,j+1,hlj,by omega,by omega⟩
  ·have hlj':¬(j:Int)<l.length:=by omega
   simp +decide [int,lexD,hlj']
structure MainF (l:List Ent):Prop where
 main : ∀ e∈l,e.main≠0→0≤zd1 l e.main
 ends : ∀ e∈l,(wayG l (l.length+1) e.id).length≤l.length
set_option maxHeartbeats 8000000 in
theorem z8t (l:List Ent) (hl:l.length≤1048576):zeu Tryz.prog 93 [lexD l] (fun x=>∃ n,x=int n∧(n=0→MainF l)):=by
 refine za3 mixed Tryz.func93 rfl call_93 ?_
 simp +decide [Tryz.f93,int,lexD]
 refine zad mixed (fun i:Nat=>{n:=44,next:=0,slots:=[(0,.d (lexD l)),(3,.d (int i))],own:=[]}) (fun i=>i≤l.length∧∀ e∈l.take i,e.main≠0→0≤zd1 l e.main) (fun i=>l.length-i) 0 (by simp) (by simp +decide [int,lexD]) ?_
 intro i ⟨hi,hp⟩
 by_cases hli:i<l.length
 ·have hli':(i:Int)<l.length:=by omega
  obtain ⟨e,ee⟩ : ∃ e,l[i]=e:=⟨_,rfl⟩;have e1:l[i]?=some e:=by rw [List.getElem?_eq_getElem hli,ee]
  have hsn:=zal hli;rw [ee] at hsn;have hgo:(e.main≠0→0≤zd1 l e.main)→∀ x∈l.take (i+1),x.main≠0→0≤zd1 l x.main:=by
   intro h x hx;rw [hsn] at hx;rcases List.mem_append.1 hx with h' | h'
   ·exact hp x h'
   ·rw [List.mem_singleton] at h';rw [h'];exact h
  by_cases hm:e.main=0
  ·have hg:=hgo (fun h=>absurd hm h)
   simp +decide [int,lexD,Ent.row,hli,hli',ee,e1,hm,I64];exact ⟨⟨by omega,by omega⟩,i+1,⟨hli,hg⟩,by omega,by omega⟩
  ·simp +decide [int,lexD,Ent.row,hli,hli',ee,e1,hm,I64]
   refine zaj.pure (by rfl) (zl9 l e.main (by omega)) (by simp [int,lexD]) ?_
   by_cases c1:zd1 l e.main<0
   ·simp +decide [int,c1]
   ·have hg:=hgo (fun _=>by omega)
    simp +decide [int,c1,I64,lexD];exact ⟨⟨by omega,by omega⟩,i+1,⟨hli,hg⟩,by omega,by omega⟩
 ·have:i=l.length:=by omega
  subst this;rw [List.take_length] at hp;simp +decide [int,lexD];refine zad mixed (fun i:Nat=>{n:=44,next:=0,slots:=[(0,.d (lexD l)),(4,.d (int i))],own:=[]}) (fun i=>i≤l.length∧∀ e∈l.take i,(wayG l (l.length+1) e.id).length≤l.length) (fun i=>l.length-i) 0 (by simp) (by simp +decide [int,lexD]) ?_
  intro j ⟨hj,hq⟩;by_cases hlj:j<l.length
  ·have hlj':(j:Int)<l.length:=by omega
   obtain ⟨e,ee⟩ : ∃ e,l[j]=e:=⟨_,rfl⟩;have e1:l[j]?=some e:=by rw [List.getElem?_eq_getElem hlj,ee]
   have hsn:=zal hlj;rw [ee] at hsn;simp +decide [int,lexD,Ent.row,hlj,hlj',ee,e1,I64];refine zaj.pure (by rfl) (z5i l e.id (by omega)) (by simp [int,lexD]) ?_
   by_cases c1:l.length<(wayG l (l.length+1) e.id).length
   ·have c1':(l.length:Int)<(wayG l (l.length+1) e.id).length:=by omega
    simp +decide [int,ints,lexD,c1,c1']
   ·have c1':¬(l.length:Int)<(wayG l (l.length+1) e.id).length:=by omega
    simp +decide [int,ints,lexD,c1,c1',I64];refine ⟨⟨by omega,by omega⟩,j+1,⟨hlj,fun x hx=>?_⟩,by omega,by omega⟩
    rw [hsn] at hx;rcases List.mem_append.1 hx with h' | h'
    ·exact hq x h'
    ·rw [List.mem_singleton] at h';rw [h'];omega
  ·have:j=l.length:=by omega
   subst this;rw [List.take_length] at hq;simp +decide [int,lexD];exact ⟨hp,hq⟩
end Go.V
namespace Go.V
open Go Go.Proofs
theorem z8u {s:ByteArray} (h:zk2 s=true):0<s.size∧s.size≤32:=by
 unfold zk2 at h
 simp only [Bool.and_eq_true,decide_eq_true_eq] at h
 omega
structure UnitF (u:Grap):Prop where
 pos:0<u.graph.size
 size:u.graph.size≤32
 segs:1≤u.segs.length
 few:u.segs.length≤3
theorem z2d (s:ByteArray) (hs:s.size≤1048576):zeu Tryz.prog 113 [.str s] (fun x=>∃ b,x = .bool b∧(b=true→0<s.size∧s.size≤32)):=by
 refine za3 mixed Tryz.func113 rfl call_113 ?_
 simp +decide [Tryz.f113,int]
 refine zad mixed (fun k:Nat=>{n:=16,next:=0,slots:=[(0,.d (.str s)),(3,.d (int k))],own:=[]})
  (fun k=>k≤s.size) (fun k=>s.size-k) 0 (by simp) (by simp +decide [int]) ?_
 intro k hk
 by_cases hlt:k<s.size
 ·have hlt':(k:Int)<s.size:=by omega
  have e1:byteAt s (k:Int)=(zar s k:Int):=zda s k
  by_cases b1:(zar s k:Int)=32
  ·simp +decide [int,hlt,hlt',e1,b1]
  ·simp +decide [int,hlt,hlt',e1,b1,I64]
   exact ⟨⟨by omega,by omega⟩,k+1,hlt,by omega,by omega⟩
 ·have hlt':¬(k:Int)<s.size:=by omega
  simp +decide [int,hlt'];refine zaj.pure (by rfl) (zrh s hs) (by simp) ?_
  simp +decide [int];cases h:zk2 s with
  | false=>exact .inl rfl
  | true=>exact .inr ⟨rfl,z8u h⟩
set_option maxHeartbeats 4000000 in
theorem z8v (inv:List Phon) (o:Orth) (ho:OrthC o) (i:Nat) (hi:i<o.units.length) (hl:inv.length<2^40):zeu Tryz.prog 112 [.agg [invD inv],.agg o.cells,int i] (fun x=>∃ n,x=int n∧(n=0→∀ u,o.units[i]?=some u→UnitF u)):=by
 refine za3 mixed Tryz.func112 rfl call_112 ?_
 have hi':(i:Int)<o.units.length:=by omega
 have hu:=ho.units o.units[i] (List.getElem_mem hi)
 have hfew:=ho.few.1
 obtain ⟨u,eu⟩ : ∃ u,o.units[i]=u:=⟨_,rfl⟩
 have eu1:o.units[i]?=some u:=by rw [List.getElem?_eq_getElem hi,eu]
 rw [eu] at hu
 rw [eu1]
 simp +decide [Tryz.f112,int,Orth.cells,za8,hi,hi',eu,eu1,Grap.row]
 refine zaj.some (by rfl) (z2d u.graph hu.1) ?_
 rintro r ⟨b,rfl,hpos⟩
 cases b with
 | false=>simp +decide [int]
 | true=>
  have hpos:=hpos rfl;simp +decide [int];refine zad mixed (fun k:Nat=>{n:=67,next:=3,slots:=[(2,.d (int i)),(3,.bp 0 0),(4,.bp 1 0),(7,.bp 2 0),(8,.d (int k))],own:=[(0,.box 44 [.d (invD inv)]),(1,.box 48 (o.cells.map .d)),(2,.box 98 [.d (.str u.graph),.d (ints u.segs)])]})
   (fun k=>k≤i) (fun k=>i-k) 0 (by simp) (by simp +decide [int,ints,Orth.cells,za8,Grap.row]) ?_
  intro k hk;by_cases hlt:k<i
  ·have hlt':(k:Int)<i:=by omega
   have hku:k<o.units.length:=by omega
   have hku':(k:Int)<o.units.length:=by omega
   obtain ⟨x,ex⟩ : ∃ x,o.units[k]=x:=⟨_,rfl⟩;have ex1:o.units[k]?=some x:=by rw [List.getElem?_eq_getElem hku,ex]
   by_cases b1:x.graph=u.graph
   ·simp +decide [int,ints,Orth.cells,za8,Grap.row,hlt,hlt',hku,hku',ex,ex1,b1]
   ·simp +decide [int,ints,Orth.cells,za8,Grap.row,hlt,hlt',hku,hku',ex,ex1,b1,I64]
    exact fun _=>⟨⟨by omega,by omega⟩,k+1,hlt,by omega,by omega⟩
  ·have hlt':¬(k:Int)<i:=by omega
   by_cases c1:(u.segs.length:Int)<1
   ·simp +decide [int,ints,Orth.cells,za8,Grap.row,hlt,hlt',c1]
   ·by_cases c2:(3:Int)<u.segs.length
    ·simp +decide [int,ints,Orth.cells,za8,Grap.row,hlt,hlt',c1,c2]
    ·simp +decide [int,ints,Orth.cells,za8,Grap.row,hlt,hlt',c1,c2]
     refine zad mixed (fun m:Nat=>{n:=67,next:=3,slots:=[(2,.d (int i)),(3,.bp 0 0),(4,.bp 1 0),(7,.bp 2 0),(9,.d (int m))],own:=[(0,.box 44 [.d (invD inv)]),(1,.box 48 (o.cells.map .d)),(2,.box 98 [.d (.str u.graph),.d (ints u.segs)])]})
      (fun m=>m≤u.segs.length) (fun m=>u.segs.length-m) 0 (by simp) (by simp +decide [int,ints,Orth.cells,za8,Grap.row]) ?_
     intro m hm;by_cases hlm:m<u.segs.length
     ·have hlm':(m:Int)<u.segs.length:=by omega
      obtain ⟨y,ey⟩ : ∃ y,u.segs[m]=y:=⟨_,rfl⟩;have ey1:u.segs[m]?=some y:=by rw [List.getElem?_eq_getElem hlm,ey]
      by_cases b1:y<1
      ·simp +decide [int,ints,hlm,hlm',ey,ey1,b1]
      ·by_cases b2:(inv.length:Int)<y
       ·simp +decide [int,ints,invD,hlm,hlm',ey,ey1,b1,b2]
       ·simp +decide [int,ints,invD,hlm,hlm',ey,ey1,b1,b2,I64]
        exact ⟨⟨by omega,by omega⟩,m+1,hlm,by omega,by omega,by simp [Orth.cells,Sym.los,Sym.lo]⟩
     ·have hlm':¬(m:Int)<u.segs.length:=by omega
      simp +decide [int,ints,hlm'];exact ⟨hpos.1,hpos.2,by omega,by omega⟩
set_option maxHeartbeats 8000000 in
theorem z2e (inv:List Phon) (o:Orth) (ho:OrthC o) (hl:inv.length<2^40):zeu Tryz.prog 88 [.agg [invD inv],.agg o.cells] (fun x=>∃ n,x=int n∧(n=0→∀ u∈o.units,UnitF u)):=by
 have hfew:=ho.few
 refine za3 mixed Tryz.func88 rfl call_88 ?_
 simp +decide [Tryz.f88,int,Orth.cells]
 refine zaj.pure (by rfl) (z8h o.name (by have:=ho.name;omega)) (by simp) ?_
 cases hnm:nameP o.name with
 | false=>simp +decide [int]
 | true=>
  by_cases h0:(100:Int)<o.units.length
  ·simp +decide [int,za8,h0]
  simp +decide [int,za8,h0];refine zad mixed (fun k:Nat=>{n:=79,next:=2,slots:=[(2,.bp 0 0),(3,.bp 1 0),(5,.d (int k))],own:=[(0,.box 44 [.d (invD inv)]),(1,.box 48 (o.cells.map .d))]})
   (fun k=>k≤o.units.length∧∀ u∈o.units.take k,UnitF u) (fun k=>o.units.length-k) 0 (by simp) (by simp +decide [int,za8,Orth.cells]) ?_
  intro k ⟨hk,hgp⟩;by_cases hlt:k<o.units.length
  ·have hlt':(k:Int)<o.units.length:=by omega
   simp +decide [int,za8,hlt,hlt',Orth.cells];refine zaj.some (by rfl) (z8v inv o ho k hlt hl) ?_
   rintro r ⟨e,rfl,hpos⟩
   by_cases he:e=0
   ·subst he
    simp +decide [int,I64];exact ⟨⟨by omega,by omega⟩,k+1,⟨hlt,fun u hu=>by
     rw [zal hlt] at hu;rcases List.mem_append.1 hu with h | h
     ·exact hgp u h
     ·rw [List.mem_singleton] at h
      exact hpos rfl u (by rw [List.getElem?_eq_getElem hlt,h])⟩,by omega,by simp [Orth.cells,Sym.los,Sym.lo,za8]⟩
   ·simp +decide [int,he]
  ·have hlt':¬(k:Int)<o.units.length:=by omega
   have:k=o.units.length:=by omega
   subst this;rw [List.take_length] at hgp;by_cases h1:(100:Int)<o.letters.length
   ·simp +decide [int,za8,zdr,hlt',h1,Orth.cells]
   simp +decide [int,za8,zdr,hlt',h1,Orth.cells];refine zad mixed (fun x:Nat×List ByteArray=>{n:=79,next:=3,slots:=[(2,.bp 0 0),(3,.bp 1 0),(7,.ar 2),(8,.d (int x.1))],own:=[(0,.box 44 [.d (invD inv)]),(1,.box 48 (o.cells.map .d)),(2,.arr 9 1 (x.2.map fun s=>[.str s]))],moved:=[2]})
    (fun x=>x.1≤o.letters.length∧x.2.length≤x.1*1048576) (fun x=>o.letters.length-x.1) (0,[]) (by simp) (by simp +decide [int,za8,zdr,Orth.cells]) ?_
   rintro ⟨i,seen⟩ ⟨hi,hs⟩
   simp only at hi hs
   by_cases hli:i<o.letters.length
   ·have hli':(i:Int)<o.letters.length:=by omega
    have hL:=ho.letters o.letters[i] (List.getElem_mem hli);obtain ⟨L,eL⟩ : ∃ L,o.letters[i]=L:=⟨_,rfl⟩;have eL1:o.letters[i]?=some L:=by rw [List.getElem?_eq_getElem hli,eL]
    rw [eL] at hL;by_cases hz:L.length=0
    ·simp +decide [int,za8,zdr,Orth.cells,hli,hli',eL,eL1,hz]
    have hz':¬(L.length:Int)=0:=by omega
    simp +decide [int,za8,zdr,Orth.cells,hli,hli',eL,eL1,hz,hz'];refine zad mixed (fun x:Nat×List ByteArray=>{n:=79,next:=3,slots:=[(2,.bp 0 0),(3,.bp 1 0),(7,.ar 2),(8,.d (int i)),(9,.d (int x.1))],own:=[(0,.box 44 [.d (invD inv)]),(1,.box 48 (o.cells.map .d)),(2,.arr 9 1 (x.2.map fun s=>[.str s]))],moved:=[2]})
     (fun x=>x.1≤L.length∧x.2.length≤i*1048576+x.1) (fun x=>L.length-x.1) (0,seen) (by simpa using hs) (by simp +decide [int,za8,zdr,Orth.cells]) ?_
    rintro ⟨m,sn⟩ ⟨hm,hs2⟩
    simp only at hm hs2
    by_cases hlm:m<L.length
    ·have hlm':(m:Int)<L.length:=by omega
     have hS:=hL.2 L[m] (List.getElem_mem hlm);obtain ⟨y,ey⟩ : ∃ y,L[m]=y:=⟨_,rfl⟩;have ey1:L[m]?=some y:=by rw [List.getElem?_eq_getElem hlm,ey]
     rw [ey] at hS;simp +decide [int,za8,zdr,Orth.cells,hli,hli',eL,eL1,hlm,hlm',ey,ey1];refine zaj.some (by rfl) (z8g y hS) ?_
     rintro r ⟨b,rfl⟩
     cases b with
     | false=>simp +decide [int]
     | true=>
      simp +decide [int];refine zaj.some (by rfl) (yf2 sn y (by omega)) ?_
      rintro r ⟨b,rfl⟩
      cases b with
      | true=>simp +decide [int]
      | false=>
       simp +decide [int,I64];exact ⟨by omega,by unfold maxLen;omega,⟨by omega,by omega⟩,m+1,sn++[y],⟨hlm,by rw [List.length_append];simp;omega⟩,by omega,by omega,by simp⟩
    ·have hlm':¬(m:Int)<L.length:=by omega
     simp +decide [int,za8,zdr,Orth.cells,hli,hli',eL,eL1,hlm',I64];exact ⟨⟨by omega,by omega⟩,i+1,sn,⟨hli,by omega⟩,by omega,by omega,rfl⟩
   ·have hli':¬(i:Int)<o.letters.length:=by omega
    simp +decide [int,za8,zdr,hli',Orth.cells];exact hgp
end Go.V
namespace Go.V
open Go Go.Proofs
structure SmallL (l:List Ent):Prop where
 few:l.length≤5
 forms : ∀ e∈l,e.form.length≤3∧e.alts.length≤1∧∀ w∈e.alts,w.length≤3
set_option maxHeartbeats 8000000 in
theorem z8w (l:List Ent) (hl:l.length≤1048576):zeu Tryz.prog 67 [lexD l] (fun x=>∃ b,x = .bool b∧(b=true→SmallL l)):=by
 refine za3 mixed Tryz.func67 rfl call_67 ?_
 by_cases h0:(5:Int)<l.length
 ·simp +decide [Tryz.f67,int,lexD,h0]
 simp +decide [Tryz.f67,int,lexD,h0]
 refine zad mixed (fun i:Nat=>{n:=50,next:=0,slots:=[(0,.d (lexD l)),(3,.d (int i))],own:=[]}) (fun i=>i≤l.length∧∀ e∈l.take i,e.form.length≤3∧e.alts.length≤1∧∀ w∈e.alts,w.length≤3) (fun i=>l.length-i) 0 (by simp) (by simp +decide [int,lexD]) ?_
 intro i ⟨hi,hp⟩
 by_cases hli:i<l.length
 ·have hli':(i:Int)<l.length:=by omega
  obtain ⟨e,ee⟩ : ∃ e,l[i]=e:=⟨_,rfl⟩;have e1:l[i]?=some e:=by rw [List.getElem?_eq_getElem hli,ee]
  have hsn:=zal hli;rw [ee] at hsn;by_cases c1:(3:Int)<e.form.length
  ·simp +decide [int,ints,lexD,Ent.row,hli,hli',ee,e1,c1]
  by_cases c2:(1:Int)<e.alts.length
  ·simp +decide [int,ints,lexD,zbh,Ent.row,hli,hli',ee,e1,c1,c2]
  simp +decide [int,ints,lexD,zbh,Ent.row,hli,hli',ee,e1,c1,c2];refine zad mixed (fun k:Nat=>{n:=50,next:=0,slots:=[(0,.d (lexD l)),(3,.d (int i)),(4,.d (int k))],own:=[]}) (fun k=>k≤e.alts.length∧∀ w∈e.alts.take k,w.length≤3) (fun k=>e.alts.length-k) 0 (by simp) (by simp +decide [int,lexD]) ?_
  intro k ⟨hk,hq⟩;by_cases hlk:k<e.alts.length
  ·have hlk':(k:Int)<e.alts.length:=by omega
   obtain ⟨w,ew⟩ : ∃ w,e.alts[k]=w:=⟨_,rfl⟩;have ew1:e.alts[k]?=some w:=by rw [List.getElem?_eq_getElem hlk,ew]
   have hsk:=zal hlk;rw [ew] at hsk;by_cases c3:(3:Int)<w.length
   ·simp +decide [int,ints,lexD,zbh,Ent.row,hli,hli',ee,e1,hlk,hlk',ew,ew1,c3]
   ·simp +decide [int,ints,lexD,zbh,Ent.row,hli,hli',ee,e1,hlk,hlk',ew,ew1,c3,I64]
    refine ⟨⟨by omega,by omega⟩,k+1,⟨hlk,fun x hx=>?_⟩,by omega,by omega⟩
    rw [hsk] at hx;rcases List.mem_append.1 hx with h' | h'
    ·exact hq x h'
    ·rw [List.mem_singleton] at h';rw [h'];omega
  ·have:k=e.alts.length:=by omega
   subst this;rw [List.take_length] at hq;simp +decide [int,ints,lexD,zbh,Ent.row,hli,hli',ee,e1,I64];refine ⟨⟨by omega,by omega⟩,i+1,⟨hli,fun x hx=>?_⟩,by omega,by omega⟩
   rw [hsn] at hx;rcases List.mem_append.1 hx with h' | h'
   ·exact hp x h'
   ·rw [List.mem_singleton] at h';rw [h'];exact ⟨by omega,by omega,hq⟩
 ·have:i=l.length:=by omega
  subst this;rw [List.take_length] at hp;simp +decide [int,lexD];exact ⟨by omega,hp⟩
structure LangC (g:Lang):Prop where
 inv:InvC g.inv
 orth:OrthC g.orth
 rules:RulesC g.rules
 steps:g.net.steps.length≤1048576
 final:g.net.final.length≤1048576
 lex:LexC g.lex
structure RightF (g:Lang):Prop where
 rules : ∀ r∈g.rules,RuleL r
 dsts : ∀ r∈g.rules,DstF g.inv r
 net:NetF g.net
 lex:LexF g.inv g.lex
 main:MainF g.lex
 units1 : ∀ u∈g.orth.units,UnitF u
theorem RightF.graphs {g:Lang} (h:RightF g) : ∀ u∈g.orth.units,0<u.graph.size:=fun u hu=>(h.units1 u hu).pos
set_option maxHeartbeats 8000000 in
theorem z8x (g:Lang) (hg:LangC g) (h5:g.lex.length≤5):zeu Tryz.prog 68 [g.d] (fun x=>∃ n,x=int n∧(n=0→RightF g)):=by
 have hil:=hg.inv.1
 refine za3 mixed Tryz.func68 rfl call_68 ?_
 simp +decide [Tryz.f68,int,Lang.d]
 refine zaj.some (by rfl) (z8i g.inv hg.inv) ?_
 rintro r ⟨n,rfl⟩
 by_cases z1:n=0
 case neg=>simp +decide [int,z1]
 simp +decide [int,z1]
 refine zaj.some (by rfl) (z2e g.inv g.orth hg.orth (by omega)) ?_
 rintro r ⟨n,rfl,hG⟩
 by_cases z2:n=0
 case neg=>simp +decide [int,z2]
 have hG:=hG z2
 simp +decide [int,z2]
 refine zaj.some (by rfl) (z8l g hg.rules) ?_
 rintro r ⟨n,rfl,hR⟩
 by_cases z3:n=0
 case neg=>simp +decide [int,z3]
 have hR:=hR z3
 simp +decide [int,z3]
 refine zaj.some (by rfl) (z8m g.net hg.steps hg.final) ?_
 rintro r ⟨n,rfl,hN⟩
 by_cases z4:n=0
 case neg=>simp +decide [int,z4]
 have hN:=hN z4
 simp +decide [int,z4]
 refine zaj.some (by rfl) (z8r g.inv g.lex hg.lex) ?_
 rintro r ⟨n,rfl,hL⟩
 by_cases z5:n=0
 case neg=>simp +decide [int,z5]
 have hL:=hL z5
 simp +decide [int,z5]
 refine zaj.some (by rfl) (z8s g.lex h5 fun e he=>(hL.each e he).links) ?_
 rintro r ⟨n,rfl⟩
 by_cases z6:n=0
 case neg=>simp +decide [int,z6]
 simp +decide [int,z6]
 refine zaj.some (by rfl) (z8t g.lex (by omega)) ?_
 rintro r ⟨n,rfl,hM⟩
 simp +decide [int]
 exact fun h=>⟨fun r hr=>(hR r hr).1,fun r hr=>(hR r hr).2,hN,hL,hM h,hG⟩
structure LightF (g:Lang):Prop extends RightF g where
 small:SmallL g.lex
 segs:g.inv.length≤8
 units:g.orth.units.length≤10
 few:g.rules.length≤2
 states:g.net.states≤3
 steps:g.net.steps.length≤6
 final:g.net.final.length≤3
set_option maxHeartbeats 16000000 in
theorem z8y (g:Lang) (hg:LangC g):zeu Tryz.prog 48 [g.d] (fun x=>∃ b,x = .bool b∧(b=true→LightF g)):=by
 have hlf:=hg.lex.few
 have hrf:=hg.rules.few
 refine za3 mixed Tryz.func48 rfl call_48 ?_
 by_cases c1:(8:Int)<g.inv.length
 ·simp +decide [Tryz.f48,int,Lang.d,invD,c1]
 by_cases c2:(10:Int)<g.orth.units.length
 ·simp +decide [Tryz.f48,int,Lang.d,invD,za8,c1,c2]
 by_cases c3:(2:Int)<g.rules.length
 ·simp +decide [Tryz.f48,int,Lang.d,invD,za8,zbj,c1,c2,c3]
 by_cases c4:3<g.net.states
 ·simp +decide [Tryz.f48,int,Lang.d,invD,za8,zbj,c1,c2,c3,c4]
 by_cases c5:(6:Int)<g.net.steps.length
 ·simp +decide [Tryz.f48,int,Lang.d,invD,za8,zbj,stepsD,c1,c2,c3,c4,c5]
 by_cases c6:(3:Int)<g.net.final.length
 ·simp +decide [Tryz.f48,int,ints,Lang.d,invD,za8,zbj,stepsD,c1,c2,c3,c4,c5,c6]
 simp +decide [Tryz.f48,int,ints,Lang.d,invD,za8,zbj,stepsD,c1,c2,c3,c4,c5,c6]
 refine zaj.some (by rfl) (z8w g.lex hlf) ?_
 rintro r ⟨b,rfl,hS⟩
 cases b with
 | false=>simp +decide [int]
 | true=>
  have hS:=hS rfl;simp +decide [int];refine zad mixed (fun k:Nat=>{n:=66,next:=1,slots:=[(1,.bp 0 0),(3,.d (int k))],own:=[(0,.box 56 (zai g.d))]})
   (fun k=>k≤g.rules.length) (fun k=>g.rules.length-k) 0 (by simp) (by simp +decide [int,ints,invD,za8,zbj,stepsD,zai,Lang.d]) ?_
  intro k hk;by_cases hlt:k<g.rules.length
  ·have hlt':(k:Int)<g.rules.length:=by omega
   obtain ⟨r,er⟩ : ∃ r,g.rules[k]=r:=⟨_,rfl⟩;have er1:g.rules[k]?=some r:=by rw [List.getElem?_eq_getElem hlt,er]
   by_cases d1:(8:Int)<r.src.length
   ·simp +decide [int,ints,zbj,zai,Lang.d,hlt,hlt',er,er1,Rule.row,d1]
   ·simp +decide [int,ints,zbj,zai,Lang.d,hlt,hlt',er,er1,Rule.row,d1,I64]
    exact ⟨⟨by omega,by omega⟩,k+1,hlt,by omega,by omega⟩
  ·have hlt':¬(k:Int)<g.rules.length:=by omega
   simp +decide [int,zbj,zai,Lang.d,hlt'];refine zaj.some (by rfl) (z8x g hg hS.few) ?_
   rintro r ⟨n,rfl,hF⟩
   simp +decide [int];by_cases z:n=0
   ·exact .inr ⟨z,hF z,hS,by omega,by omega,by omega,by omega,by omega,by omega⟩
   ·exact .inl z
theorem LightF.net' {g:Lang} (h:LightF g):NetL g.net:=
 {lo:=h.net.lo,hi:=h.states,steps:=fun s hs=>⟨(h.net.steps s hs).1,(h.net.steps s hs).2.1,(h.net.steps s hs).2.2.1⟩,final:=h.net.final,few:=by have:=h.steps;omega,few2:=by have:=h.final;omega}
theorem LightF.zwf {g:Lang} (h:LightF g) (hc:LangC g):LangR g:=by
 have hs:=h.small
 have hform : ∀ e∈g.lex,∀ w∈e.forms,WordF g.inv w:=by
  intro e he w hw;have hE:=h.lex.each e he;rcases List.mem_cons.1 hw with e1 | e1
  ·rw [e1];exact hE.form
  ·exact hE.alts w e1
 refine {lex:=⟨by have:=hs.few;omega,fun e he=>by have:=(hs.forms e he).2.1;omega,fun e he w hw=>by have:=(hform e he w hw).len;omega,fun e he=>by have:=(hc.lex.each e he).senses.1;omega⟩,inv:=by have:=h.segs;omega,rules:=⟨fun r hr=>(h.rules r hr).toRuleOk,by have:=h.few;omega⟩,net:=h.net'.ok,light:=h.net',rulesL:=h.rules,nz:=fun e he w hw x hx=>?_}
 have:=(hform e he w hw).segs x hx
 simp only [zds,Bool.and_eq_true,decide_eq_true_eq] at this
 omega
end Go.V
namespace Go.V
open Go Go.Proofs
theorem lex_lt {l:List Ent} (h : ∀ k (h:k+1<l.length),l[k].id<l[k+1].id) : ∀ (d i:Nat) (hj:i+d+1<l.length),l[i].id<l[i+d+1].id
 | 0,i,hj=>h i hj
 | d+1,i,hj=>by
  have h1:=lex_lt h d i (by omega)
  have h2:=h (i+d+1) hj;exact Int.lt_trans h1 h2
theorem zwg {l:List Ent} (h : ∀ k (h:k+1<l.length),l[k].id<l[k+1].id) {e:Ent} (he:e∈l):getE l e.id=(e,true):=by
 obtain ⟨i,hi,ei⟩:=List.mem_iff_getElem.1 he
 unfold getE
 have:l.find? (fun x=>decide (x.id=e.id))=some e:=by
  rw [List.find?_eq_some_iff_getElem];refine ⟨by simp,i,hi,ei,fun j hj=>?_⟩
  have:=lex_lt h (i-j-1) j (by omega)
  have e2:j+(i-j-1)+1=i:=by omega
  simp only [e2] at this;rw [ei] at this;simp
  omega
 rw [this]
theorem zyl {inv:List Phon} {l:List Ent} (hE : ∀ e∈l,EntF inv e) (hM : ∀ e∈l,e.main≠0→0≤zd1 l e.main) : ∀ (f:Nat) (id:Int),(wayG l f id).length<f→(getE l id).2=true→senW l (wayG l f id)≠[]
 | 0,id,h,_=>by omega
 | f+1,id,h,hg=>by
  have hmem:=zqe hg;unfold wayG at h ⊢;rw [if_pos hg] at h ⊢;unfold senW;by_cases hs:(getE l id).1.senses≠[]
  ·rw [if_pos hs];exact hs
  ·rw [if_neg hs]
   have hm:(getE l id).1.main≠0:=by
    rcases (hE _ hmem).senses with h' | h'
    ·exact absurd h' hs
    ·exact h'
   rw [if_neg hm] at h ⊢;refine zyl hE hM f _ (by simpa using h) ?_
   rcases zcy l (getE l id).1.main with ⟨h1,_⟩ | ⟨j,hj,_,h2⟩
   ·exact absurd (hM _ hmem hm) (by omega)
   ·rw [h2]
theorem LightF.senses {g:Lang} (h:LightF g) {e:Ent} (he:e∈g.lex):zcf g.lex e.id≠[]:=by
 unfold zcf
 rw [zmf]
 refine zyl h.lex.each h.main.main _ _ ?_ (by rw [zwg h.lex.up he])
 have:=h.main.ends e he
 omega
section
variable (g:Lang) (w:List Int)
def zd8:Nat:=if ze9 g.rules=true then 24 else w.length
def licB (b:List Prt):Bool:=decide (w.length≤(zbc g.lex b).length)&&licE g w b
def furF:Nat→List Prt→List (List Prt)
 | 0,_=>[]
 | f+1,a=>g.lex.flatMap fun e=>if e.cls∈zdk g.net (zas g.lex a) 20 then ((List.range e.forms.length).flatMap fun (alt:Nat)=>
   if zd8 g w<(zbc g.lex (a++[⟨e.id,alt,0⟩])).length then [] else (if licB g w (a++[⟨e.id,alt,0⟩])=true then [a++[⟨e.id,alt,0⟩]] else [])++furF f (a++[⟨e.id,alt,0⟩])) else []
def zh4 (base:List Int):Bool:=decide (zek g.inv g.rules base≠[])&&decide (zek g.inv g.rules base=w)
def walkT:Nat→List Prt→Nat→List Int→List (List Prt×List Int)
 | 0,_,_,_=>[]
 | f+1,a,s,base=>g.lex.flatMap fun e=>if zaw g.net.steps s e.cls≠0 then ((List.range e.forms.length).flatMap fun (alt:Nat)=>
   if zd8 g w<(base++e.forms[alt]?.getD []).length then [] else
   (if zaw g.net.steps s e.cls &&& zbe g.net.final≠0∧w.length≤(base++e.forms[alt]?.getD []).length∧zh4 g w (base++e.forms[alt]?.getD [])=true then [(a++[⟨e.id,alt,0⟩],base++e.forms[alt]?.getD [])] else []) ++
    walkT f (a++[⟨e.id,alt,0⟩]) (zaw g.net.steps s e.cls) (base++e.forms[alt]?.getD [])) else []
end
theorem zfh {α β:Type} {f h:α→List β} : ∀ {l:List α},(∀ x∈l,f x=h x)→l.flatMap f=l.flatMap h
 | [],_=>rfl
 | a::l,e=>by
  rw [List.flatMap_cons,List.flatMap_cons,e a (List.mem_cons_self ..),zfh fun x hx=>e x (List.mem_cons_of_mem _ hx)]
theorem zjd {α β:Type} {l:List α} {f:α→List β} (h : ∀ x∈l,f x=[]):l.flatMap f=[]:=by
 rw [List.flatMap_eq_nil_iff];exact h
theorem zux {g:Lang} {w:List Int} (hg:LightF g) : ∀ (f:Nat) (a:List Prt) (s:Nat) (base:List Int),s<2^g.net.states.toNat→Dead g.net s→walkT g w f a s base=[]
 | 0,_,_,_,_,_=>rfl
 | f+1,a,s,base,hs,hd=>by
  unfold walkT;refine zjd fun e he=>?_
  split
  ·refine zjd fun alt _=>?_
   have hc:=(hg.lex.each e he).cls;have h1:=z8e hg.net' hs hd hc.1;have hlt:=zny hg.net' s e.cls;have h2:=zum hg.net' hlt h1;split
   ·rfl
   ·rw [if_neg (fun h=>h.1 h2),zux hg f _ _ _ hlt h1];rfl
  ·rfl
theorem ybt (n:Nett):Dead n 0:=by
 rw [zwa];intro q _ h;rw [Nat.zero_testBit] at h;cases h
theorem zuy {g:Lang} (hg:LightF g) (cs:List Int) {c:Int} (h1:1≤c) (h2:c≤20):c∈zdk g.net cs 20↔¬ Dead g.net (zaw g.net.steps (runS g.net.steps cs) c):=by
 unfold zdk Dead
 rw [List.mem_filter,List.mem_map]
 constructor
 ·rintro ⟨_,h⟩ h';rw [h'] at h;cases h
 ·intro h
  refine ⟨⟨(c-1).toNat,List.mem_range.2 (by omega),by omega⟩,?_⟩
  cases hb:zi2 g.net.states.toNat (zaw g.net.steps (runS g.net.steps cs) c) (znz g.net) with
  | true=>rfl
  | false=>exact absurd hb h
theorem zje {g:Lang} (hg:LightF g) {e:Ent} (he:e∈g.lex) {alt:Nat} (ha:alt<e.forms.length):zgb g.lex ⟨e.id,alt,0⟩=(e,e.forms[alt]?.getD [],true):=by
 have h:=zwg hg.lex.up he
 unfold zgb
 simp only
 rw [if_pos ⟨by rw [h],by omega,by rw [h];show (alt:Int)<e.forms.length;omega⟩,h]
 rfl
theorem zrl {g:Lang} (hg:LightF g) {e:Ent} (he:e∈g.lex) {alt:Nat} (ha:alt<e.forms.length):zhe g.lex ⟨e.id,alt,0⟩=0:=by
 have hs:0<(zcf g.lex e.id).length:=List.length_pos_iff.2 (hg.senses he)
 unfold zhe
 rw [zje hg he ha,zwg hg.lex.up he]
 simp only [Bool.true_eq_false,if_false]
 rw [if_neg]
 rintro (h | h) <;> omega
theorem zym {g:Lang} (hg:LightF g) {e:Ent} (he:e∈g.lex) {alt:Nat} (ha:alt<e.forms.length) (a:List Prt):zas g.lex (a++[⟨e.id,alt,0⟩])=zas g.lex a++[e.cls]:=by
 unfold zas
 rw [List.flatMap_append,List.flatMap_singleton,zje hg he ha]
 rfl
theorem ybu {g:Lang} (hg:LightF g) {e:Ent} (he:e∈g.lex) {alt:Nat} (ha:alt<e.forms.length) (a:List Prt):zbc g.lex (a++[⟨e.id,alt,0⟩])=zbc g.lex a++e.forms[alt]?.getD []:=by
 unfold zbc
 rw [List.flatMap_append,List.flatMap_singleton,zje hg he ha]
 rfl
theorem zh5 {l:List Ent} : ∀ {ps:List Prt},(∀ p∈ps,zhe l p=0)→zgd l ps=0
 | [],_=>rfl
 | p::ps,h=>by
  unfold zgd;rw [if_pos (h p (List.mem_cons_self ..))];exact zh5 fun x hx=>h x (List.mem_cons_of_mem _ hx)
theorem yf8 {g:Lang} {w:List Int} {b:List Prt} (hv : ∀ p∈b,zhe g.lex p=0) (h1:1≤b.length) (h4:b.length≤4) (hb:(zbc g.lex b).length≤24) :
  licE g w b=(decide (runS g.net.steps (zas g.lex b) &&& zbe g.net.final≠0)&&zh4 g w (zbc g.lex b)):=by
 have hR:zfe g b=if zej g.net (zas g.lex b)=false then 21 else 0:=by
  unfold zfe;rw [if_neg (by omega),if_neg (by omega),if_neg (by rw [zh5 hv];simp),if_neg (show ¬ 24<(zbc g.lex b).length by omega)]
 unfold licE zff zh4
 rw [hR]
 have hacc:zej g.net (zas g.lex b)=decide (runS g.net.steps (zas g.lex b) &&& zbe g.net.final≠0):=rfl
 rw [← hacc]
 cases zej g.net (zas g.lex b) with
 | false=>simp
 | true=>
  simp only [Bool.true_eq_false,if_false,ne_eq,not_true_eq_false,Bool.true_and];by_cases hl:zek g.inv g.rules (zbc g.lex b)=[]
  ·simp [hl]
  ·have hl':¬(zek g.inv g.rules (zbc g.lex b)).length=0:=fun h=>hl (List.length_eq_zero_iff.mp h)
   simp [hl,hl']
theorem yf9 (n:Nett) (cs:List Int) (c:Int):runS n.steps (cs++[c])=zaw n.steps (runS n.steps cs) c:=by unfold runS;rw [List.foldl_append];rfl
theorem z5r {g:Lang} {w:List Int} (hg:LightF g) (hw:w.length≤24) : ∀ (f:Nat) (a:List Prt),a.length+f=4→(∀ p∈a,zhe g.lex p=0) →
  walkT g w f a (runS g.net.steps (zas g.lex a)) (zbc g.lex a)=(furF g w f a).map fun b=>(b,zbc g.lex b)
 | 0,_,_,_=>rfl
 | f+1,a,hl,hv=>by
  have hm:zd8 g w≤24:=by unfold zd8;split <;> omega
  unfold walkT furF;rw [List.map_flatMap];refine zfh fun e he=>?_
  have hc:=(hg.lex.each e he).cls;have hlt:=zny hg.net' (runS g.net.steps (zas g.lex a)) e.cls;by_cases hd:Dead g.net (zaw g.net.steps (runS g.net.steps (zas g.lex a)) e.cls)
  ·rw [if_neg (fun h=>(zuy hg _ hc.1 hc.2).1 h hd)]
   have h2:=zum hg.net' hlt hd;rw [List.map_nil];split
   ·refine zjd fun alt _=>?_
    split
    ·rfl
    ·rw [if_neg (fun h=>h.1 h2),zux hg f _ _ _ hlt hd];rfl
   ·rfl
  ·rw [if_pos ((zuy hg _ hc.1 hc.2).2 hd),if_pos (fun h=>hd (by rw [h];exact ybt _)),List.map_flatMap]
   refine zfh fun alt ha=>?_
   have ha:=List.mem_range.1 ha;rw [← ybu hg he ha a];by_cases hmo:zd8 g w<(zbc g.lex (a++[⟨e.id,(alt:Int),0⟩])).length
   ·rw [if_pos hmo,if_pos hmo];rfl
   ·rw [if_neg hmo,if_neg hmo,List.map_append]
    have hv2 : ∀ p∈a++[⟨e.id,(alt:Int),0⟩],zhe g.lex p=0:=by
     intro p hp;rcases List.mem_append.1 hp with h | h
     ·exact hv p h
     ·rw [List.mem_singleton] at h;rw [h];exact zrl hg he ha
    have hr:zaw g.net.steps (runS g.net.steps (zas g.lex a)) e.cls=runS g.net.steps (zas g.lex (a++[⟨e.id,(alt:Int),0⟩])):=by rw [zym hg he ha,yf9]
    have hli:=yf8 (w:=w) hv2 (by simp) (by simp;omega) (by omega)
    rw [hr,z5r hg hw f _ (by simp;omega) hv2]
    congr 1
    unfold licB;rw [hli];by_cases h1:runS g.net.steps (zas g.lex (a++[⟨e.id,(alt:Int),0⟩])) &&& zbe g.net.final≠0
    ·by_cases h2:w.length≤(zbc g.lex (a++[⟨e.id,(alt:Int),0⟩])).length
     ·cases h3:zh4 g w (zbc g.lex (a++[⟨e.id,(alt:Int),0⟩])) with
      | true=>rw [if_pos ⟨h1,h2,rfl⟩,if_pos (by simp [h1,h2])];rfl
      | false=>rw [if_neg (fun h=>by cases h.2.2),if_neg (by simp)];rfl
     ·rw [if_neg (fun h=>h2 h.2.1),if_neg (by simp [h2])];rfl
    ·rw [if_neg (fun h=>h1 h.1),if_neg (by simp only [ne_eq,Decidable.not_not] at h1;simp [h1])];rfl
end Go.V
namespace Go.V
open Go Go.Proofs
def orE:List Int→Int
 | []=>0
 | x::r=>if x=0 then orE r else x
theorem yga {l:List Int} {k:Nat} (h:k<l.length):orE (l.drop k)=if l[k]=0 then orE (l.drop (k+1)) else l[k]:=by
 rw [List.drop_eq_getElem_cons h];rfl
theorem yll (l:List Int) (hl:l.length<2^40):zam Tryz.prog 82 [ints l] (int (orE l)):=by
 refine zaa mixed Tryz.func82 rfl call_82 ?_
 simp +decide [Tryz.f82,int,ints]
 refine zad mixed (fun k:Nat=>{n:=18,next:=0,slots:=[(3,.d (int 0)),(6,.d (ints l)),(7,.d (int l.length)),(8,.d (int k))],own:=[]})
  (fun k=>k≤l.length∧orE (l.drop k)=orE l) (fun k=>l.length-k) 0 (by simp) (by simp +decide [int,ints]) ?_
 intro k ⟨hk,hp⟩
 by_cases hlt:k<l.length
 case neg=>
  have:k=l.length:=by omega
  subst this;rw [List.drop_length] at hp;simp +decide [int,ints,← hp,orE]
 have hlt':(k:Int)<l.length:=by omega
 rw [yga hlt] at hp
 obtain ⟨x,ex⟩ : ∃ x,l[k]=x:=⟨_,rfl⟩
 have e1:l[k]?=some x:=by rw [List.getElem?_eq_getElem hlt,ex]
 rw [ex] at hp
 by_cases hx:x=0
 ·rw [if_pos hx] at hp
  simp +decide [int,ints,hlt,hlt',e1,ex,hx,I64];exact ⟨⟨by omega,by omega⟩,k+1,⟨hlt,hp⟩,by omega,by omega⟩
 ·rw [if_neg hx] at hp
  simp +decide [int,ints,hlt,hlt',e1,ex,hx,I64,← hp]
def cmpP (a b:Prt):Int:=orE [cmpI a.entry b.entry,cmpI a.alt b.alt,cmpI a.sense b.sense]
theorem zge {a b:Int}:cmpI a b=0↔a=b:=by unfold cmpI;split;omega;split <;> omega
theorem zwh {a b:Int}:cmpI a b<0↔a<b:=by unfold cmpI;split;omega;split <;> omega
theorem zyn {a b:Prt}:cmpP a b=0↔a=b:=by
 unfold cmpP orE orE orE orE
 constructor
 ·intro h
  split at h
  ·rename_i h1
   split at h
   ·rename_i h2
    split at h
    ·rename_i h3
     obtain ⟨a1,a2,a3⟩:=a;obtain ⟨b1,b2,b3⟩:=b;rw [zge] at h1 h2 h3;simp only at h1 h2 h3
     rw [h1,h2,h3]
    ·contradiction
   ·contradiction
  ·contradiction
 ·intro h
  subst h;simp [cmpI]
theorem ygb {a b:Prt}:decide (cmpP a b<0)=zh1 a b:=by
 unfold cmpP orE orE orE orE zh1
 by_cases h1:a.entry=b.entry
 ·rw [if_pos (zge.2 h1),if_pos h1]
  by_cases h2:a.alt=b.alt
  ·rw [if_pos (zge.2 h2),if_pos h2]
   by_cases h3:a.sense=b.sense
   ·rw [if_pos (zge.2 h3)];simp [h3]
   ·rw [if_neg (fun h=>h3 (zge.1 h))];simp [zwh]
  ·rw [if_neg (fun h=>h2 (zge.1 h)),if_neg h2];simp [zwh]
 ·rw [if_neg (fun h=>h1 (zge.1 h)),if_neg h1];simp [zwh]
theorem z8z (a b:Prt):zam Tryz.prog 85 [.agg a.row,.agg b.row] (int (cmpP a b)):=by
 have h1:=znq a.entry b.entry
 have h2:=znq a.alt b.alt
 have h3:=znq a.sense b.sense
 have ho:=yll [cmpI a.entry b.entry,cmpI a.alt b.alt,cmpI a.sense b.sense] (by simp)
 refine zaa mixed Tryz.func85 rfl call_85 ?_
 simp +decide [Tryz.f85,int,Prt.row]
 refine zac (by rfl) (by rfl) h1 (by simp [int]) ?_
 simp +decide [int,Prt.row]
 refine zac (by rfl) (by rfl) h2 (by simp [int]) ?_
 simp +decide [int,Prt.row]
 refine zac (by rfl) (by rfl) h3 (by simp [int]) ?_
 simp +decide [int,Prt.row]
 refine zac (by rfl) (by rfl) ho (by simp [int,ints]) ?_
 simp +decide [int,Prt.row,cmpP]
def cmpA:List Prt→List Prt→Int
 | [],[]=>0
 | [],_::_=>-1
 | _::_,[]=>1
 | a::l,b::m=>if cmpP a b=0 then cmpA l m else cmpP a b
theorem z5s : ∀ {a b:List Prt},decide (cmpA a b<0)=zbq a b
 | [],[]=>rfl
 | [],_::_=>rfl
 | _::_,[]=>rfl
 | a::l,b::m=>by
  unfold cmpA zbq;by_cases h:a=b
  ·rw [if_pos (zyn.2 h),if_pos h];exact z5s
  ·rw [if_neg (fun h'=>h (zyn.1 h')),if_neg h];exact ygb
theorem ybv {a b:List Prt} {k:Nat} (h:k<a.length) (h':k<b.length):cmpA (a.drop k) (b.drop k)=if cmpP a[k] b[k]=0 then cmpA (a.drop (k+1)) (b.drop (k+1)) else cmpP a[k] b[k]:=by
 rw [List.drop_eq_getElem_cons h,List.drop_eq_getElem_cons h'];rfl
theorem z2f (a b:List Prt) (ha:a.length<2^40) (hb:b.length<2^40) :
  zam Tryz.prog 84 [zab a,zab b,.fn 85 []] (int (cmpA a b)):=by
 refine zaa mixed Tryz.func84 rfl call_84 ?_
 simp +decide [Tryz.f84,int,zab]
 refine zad mixed (fun k:Nat=>{n:=39,next:=0,slots:=[(0,.d (zab a)),(1,.d (zab b)),(2,.d (.fn 85 [])),(11,.d (zab a)),(12,.d (int a.length)),(13,.d (int k))],own:=[]})
  (fun k=>k≤a.length∧k≤b.length∧cmpA (a.drop k) (b.drop k)=cmpA a b) (fun k=>a.length-k) 0 (by simp) (by simp +decide [int,zab]) ?_
 intro k ⟨hk,hkb,hp⟩
 by_cases hlt:k<a.length
 case neg=>
  have:k=a.length:=by omega
  subst this;rw [List.drop_length] at hp;by_cases hb2:a.length<b.length
  ·have hb':(a.length:Int)<b.length:=by omega
   rw [List.drop_eq_getElem_cons hb2] at hp;simp +decide [int,zab,hb',← hp,cmpA]
  ·have hb':¬(a.length:Int)<b.length:=by omega
   rw [show a.length=b.length by omega,List.drop_length] at hp
   simp +decide [int,zab,hb',← hp,cmpA]
 have hlt':(k:Int)<a.length:=by omega
 obtain ⟨x,ex⟩ : ∃ x,a[k]=x:=⟨_,rfl⟩
 have e1:a[k]?=some x:=by rw [List.getElem?_eq_getElem hlt,ex]
 by_cases hlb:k<b.length
 case neg=>
  have hlb':(b.length:Int)≤k:=by omega
  have:b.drop k=[]:=List.drop_eq_nil_of_le (by omega)
  rw [this,List.drop_eq_getElem_cons hlt] at hp;simp +decide [int,zab,Prt.row,hlt,hlt',e1,ex,hlb',← hp,cmpA,I64]
 have hlb':¬(b.length:Int)≤k:=by omega
 obtain ⟨y,ey⟩ : ∃ y,b[k]=y:=⟨_,rfl⟩
 have e2:b[k]?=some y:=by rw [List.getElem?_eq_getElem hlb,ey]
 rw [ybv hlt hlb,ex,ey] at hp
 simp +decide [int,zab,Prt.row,hlt,hlt',hlb,e1,ex,e2,ey,hlb',I64]
 refine zaj.pure (by rfl) (z8z x y) (by simp [Prt.row,int]) ?_
 by_cases hx:cmpP x y=0
 ·rw [if_pos hx] at hp
  simp +decide [int,zab,Prt.row,hx,I64];exact ⟨⟨by omega,by omega⟩,k+1,⟨hlt,hlb,hp⟩,by omega,by omega⟩
 ·rw [if_neg hx] at hp
  simp +decide [int,zab,Prt.row,hx,I64,← hp]
theorem ygc (a b:List Prt) (ha:a.length<2^40) (hb:b.length<2^40):zam Tryz.prog 60 [anaD a,anaD b] (.bool (zbq a b)):=by
 refine zaa mixed Tryz.func60 rfl call_60 ?_
 simp +decide [Tryz.f60,anaD,zab]
 refine zaj.pure (by rfl) (z2f a b ha hb) (by simp [zab,int]) ?_
 simp +decide [int]
 exact z5s
theorem ygd (inv:List Phon) (s:Int):zam Tryz.prog 156 [int s,.ptr [invD inv]] (.bool (!zds inv s)):=by
 refine zaa mixed Tryz.func156 rfl call_156 ?_
 simp +decide [Tryz.f156,int]
 refine zaj.pure (by rfl) (zt8 inv s) (by simp [invD,int]) ?_
 simp +decide [int]
def badW (inv:List Phon) (w:List Int):Int:=match w.findIdx? (fun s=>!zds inv s) with
 | some k=>k
 | none=>-1
theorem ybw (inv:List Phon) (w:List Int) (hl:w.length<2^40):zam Tryz.prog 181 [ints w,.fn 156 [.ptr [invD inv]]] (int (badW inv w)):=by
 refine zaa mixed Tryz.func181 rfl call_181 ?_
 simp +decide [Tryz.f181,ints]
 refine zad mixed (fun k:Nat=>{n:=19,next:=0,slots:=[(0,.d (ints w)),(1,.d (.fn 156 [.ptr [invD inv]])),(6,.d (ints w)),(7,.d (.int .i64 w.length)),(8,.d (.int .i64 k))],own:=[]})
  (fun k=>k≤w.length∧∀ e∈w.take k,zds inv e=true) (fun k=>w.length-k) 0 (by simp) (by simp [ints]) ?_
 intro k ⟨hk,hp⟩
 by_cases hlt:k<w.length
 ·have hlt':(k:Int)<w.length:=by omega
  obtain ⟨e,ee⟩ : ∃ e,w[k]=e:=⟨_,rfl⟩;have e1:w[k]?=some e:=by rw [List.getElem?_eq_getElem hlt,ee]
  simp +decide [ints,int,e1,ee,hlt,hlt',I64];refine zaj.pure (by rfl) (ygd inv e) (by simp [int,invD]) ?_
  cases he:zds inv e with
  | false=>
   have:w.findIdx? (fun s=>!zds inv s)=some k:=by
    rw [List.findIdx?_eq_some_iff_getElem];refine ⟨hlt,by rw [ee,he];rfl,fun j hj=>?_⟩
    have:=hp w[j] (by rw [List.mem_take_iff_getElem];exact ⟨j,by omega,rfl⟩)
    rw [this];decide
   simp +decide [ints,int,he,I64,badW,this]
  | true=>
   simp +decide [ints,int,he,I64];refine ⟨⟨by omega,by omega⟩,k+1,⟨hlt,?_⟩,by omega,by omega⟩
   intro x hx;rw [List.take_succ_eq_append_getElem hlt] at hx;rcases List.mem_append.1 hx with h | h
   ·exact hp x h
   ·rw [List.mem_singleton] at h;rw [h,ee];exact he
 ·have:k=w.length:=by omega
  subst this;have:w.findIdx? (fun s=>!zds inv s)=none:=by
   rw [List.findIdx?_eq_none_iff];intro x hx;rw [hp x (by simpa using hx)];rfl
  simp +decide [ints,int,badW,this]
theorem yiy (inv:List Phon) (w:List Int) (hw:w.length<2^40):zam Tryz.prog 126 [.agg [invD inv],ints w] (int (zg3 inv w)):=by
 have hI:=ybw inv w hw
 refine zaa mixed Tryz.func126 rfl call_126 ?_
 obtain ⟨R,hR⟩ : ∃ R,zg3 inv w=R:=⟨_,rfl⟩
 rw [hR]
 unfold zg3 at hR
 have hC:zam Tryz.prog 155 [ints w,.fn 156 [.ptr [invD inv]]] (.bool (decide (0≤badW inv w))):=by
  refine zaa mixed Tryz.func155 rfl call_155 ?_
  simp +decide [Tryz.f155,ints];refine zaj.pure (by rfl) hI (by simp [int,invD]) ?_
  simp +decide [int]
 by_cases h0:w.length=0
 ·rw [if_pos h0] at hR
  subst hR;have h0':(w.length:Int)=0:=by omega
  simp +decide [Tryz.f126,int,ints,h0,h0'];done
 rw [if_neg h0] at hR
 have h0':¬(w.length:Int)=0:=by omega
 by_cases h1:24<w.length
 ·rw [if_pos h1] at hR
  subst hR;have h1':(24:Int)<w.length:=by omega
  simp +decide [Tryz.f126,int,ints,h0,h0',h1,h1'];done
 rw [if_neg h1] at hR
 have h1':¬(24:Int)<w.length:=by omega
 simp +decide [Tryz.f126,int,ints,h0,h0',h1,h1']
 refine zaj.pure (by rfl) hC (by simp [D.scalar]) ?_
 by_cases hall:(w.all fun x=>zds inv x)=true
 ·rw [if_pos hall] at hR
  have hb:badW inv w = -1:=by
   unfold badW;have:w.findIdx? (fun s=>!zds inv s)=none:=by
    rw [List.findIdx?_eq_none_iff];intro x hx;rw [List.all_eq_true.1 hall x hx];rfl
   rw [this]
  simp +decide [int,hb,← hR]
 ·rw [if_neg hall] at hR
  have hb:0≤badW inv w:=by
   unfold badW;cases h:w.findIdx? (fun s=>!zds inv s) with
   | none=>
    rw [List.findIdx?_eq_none_iff] at h;exact absurd (List.all_eq_true.2 fun x hx=>by simpa using h x hx) hall
   | some k=>simp
  simp +decide [int,hb,← hR]
end Go.V

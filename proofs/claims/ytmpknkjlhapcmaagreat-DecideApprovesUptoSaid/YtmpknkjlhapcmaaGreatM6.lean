/- Contracts and plain laws of this seat: part M6. It needs no conditions. -/
import Derived.Test.YtmpknkjlhapcmaaGreatM5
import Derived.Test.YtmpknkjlhapcmaaGreatM1
set_option linter.unusedVariables false
set_option linter.unusedSimpArgs false
set_option linter.unusedSectionVars false
set_option maxRecDepth 100000
namespace Go.V
open Go Go.Proofs
def zie (n:Int):Bool:=decide (1≤n∧n≤1099511627776)
theorem zgx (n:Int):zam Tryz.prog 41 [int n] (.bool (zie n)):=by
 refine zaa mixed Tryz.func41 rfl call_41 ?_
 by_cases h0:1≤n
 ·simp +decide [Tryz.f41,int,zie,h0]
 ·simp +decide [Tryz.f41,int,zie,h0]
def zij (inv:List Phon) (w:List Int):Int:=if w.length=0 then 4 else if 24<w.length then 5 else if (w.all fun x=>zdr inv x)=true then 0 else 19
set_option maxHeartbeats 4000000 in
theorem zxe (inv:List Phon) (w:List Int) (hw:w.length≤1048576):zam Tryz.prog 96 [.agg [invD inv],ints w] (int (zij inv w)):=by
 refine zaa mixed Tryz.func96 rfl call_96 ?_
 obtain ⟨R,hR⟩ : ∃ R,zij inv w=R:=⟨_,rfl⟩
 rw [hR]
 unfold zij at hR
 by_cases h0:w.length=0
 ·rw [if_pos h0] at hR
  subst hR;have h0':(w.length:Int)=0:=by omega
  simp +decide [Tryz.f96,int,ints,h0,h0'];done
 rw [if_neg h0] at hR
 have h0':¬(w.length:Int)=0:=by omega
 by_cases h1:24<w.length
 ·rw [if_pos h1] at hR
  subst hR;have h1':(24:Int)<w.length:=by omega
  simp +decide [Tryz.f96,int,ints,h0,h0',h1,h1'];done
 rw [if_neg h1] at hR
 have h1':¬(24:Int)<w.length:=by omega
 simp +decide [Tryz.f96,int,ints,h0,h0',h1,h1']
 refine zaf mixed (fun k:Nat=>{n:=25,next:=1,slots:=[(1,.d (ints w)),(2,.bp 0 0),(13,.d (int w.length)),(14,.d (int k))],own:=[(0,.box 44 [.d (invD inv)])]})
  (fun k=>k≤w.length∧∀ x∈w.take k,zdr inv x=true) (fun k=>w.length-k) 0 (by simp) (by simp +decide [int,ints]) ?_
 intro k ⟨hk,hp⟩
 by_cases hlt:k<w.length
 ·have hlt':(k:Int)<w.length:=by omega
  have hmem:=List.getElem_mem hlt;obtain ⟨x,ex⟩ : ∃ x,w[k]=x:=⟨_,rfl⟩;have ex1:w[k]?=some x:=by rw [List.getElem?_eq_getElem hlt,ex]
  have hsn:=zao hlt;rw [ex] at hsn hmem;simp +decide [int,ints,hlt,hlt',ex,ex1];refine zae (by rfl) (by rfl) (zur inv x) (by simp [int]) ?_
  cases hs:zdr inv x with
  | false=>
   have:¬(w.all fun x=>zdr inv x)=true:=by
    rw [List.all_eq_true];intro h;rw [h x hmem] at hs;cases hs
   rw [if_neg this] at hR;subst hR;simp +decide [int]
  | true=>
   simp +decide [int];refine ⟨⟨by omega,by omega⟩,k+1,⟨hlt,fun y hy=>?_⟩,by omega,by omega⟩
   rw [hsn] at hy;rcases List.mem_append.1 hy with h | h
   ·exact hp y h
   ·rw [List.mem_singleton] at h;rw [h];exact hs
 ·have:k=w.length:=by omega
  subst this;rw [List.take_length] at hp;rw [if_pos (List.all_eq_true.2 hp)] at hR;subst hR;simp +decide [int,ints]
structure WordF (inv:List Phon) (w:List Int):Prop where
 pos:1≤w.length
 len:w.length≤24
 segs : ∀ x∈w,zdr inv x=true
theorem zth {inv:List Phon} {w:List Int} (h:zij inv w=0):WordF inv w:=by
 unfold zij at h
 split at h
 ·cases h
 split at h
 ·cases h
 split at h
 ·rename_i h3;exact ⟨by omega,by omega,List.all_eq_true.1 h3⟩
 ·cases h
structure EntC (e:Ent):Prop where
 form:e.form.length≤1048576
 alts:e.alts.length≤1048576∧∀ w∈e.alts,w.length≤1048576
 senses:e.senses.length≤1048576∧∀ s∈e.senses,s.gloss.size≤1048576∧s.defn.size≤1048576
 links:e.links.length≤1048576
 refs:e.refs.length≤1048576
structure WordsF (inv:List Phon) (e:Ent):Prop where
 id:zie e.id=true
 form:WordF inv e.form
 cls:1≤e.cls∧e.cls≤20
 alts : ∀ w∈e.alts,WordF inv w
set_option maxHeartbeats 8000000 in
theorem z6m (inv:List Phon) (e:Ent) (he:EntC e):zej Tryz.prog 151 [.agg [invD inv],.agg e.row] (fun x=>∃ n,x=int n∧(n=0→WordsF inv e)):=by
 have hfl:=he.form
 have hal:=he.alts.1
 refine zaz mixed Tryz.func151 rfl call_151 ?_
 simp +decide [Tryz.f151,int,Ent.row]
 refine zaj.pure (by rfl) (zgx e.id) (by simp [int]) ?_
 cases hid:zie e.id with
 | false=>simp +decide [int]
 | true=>
  simp +decide [int];refine zaj.pure (by rfl) (zxe inv e.form hfl) (by simp [int]) ?_
  by_cases hw:zij inv e.form=0
  case neg=>simp +decide [int,hw]
  by_cases c1:e.cls<1
  ·simp +decide [int,hw,c1]
  by_cases c2:20<e.cls
  ·simp +decide [int,hw,c1,c2]
  by_cases c3:(3:Int)<e.alts.length
  ·simp +decide [int,hw,zbh,c1,c2,c3]
  simp +decide [int,hw,zbh,c1,c2,c3];refine zaf mixed (fun k:Nat=>{n:=73,next:=2,slots:=[(2,.bp 0 0),(3,.bp 1 0),(6,.d (int k))],own:=[(0,.box 44 [.d (invD inv)]),(1,.box 108 (e.row.map .d))]})
   (fun k=>k≤e.alts.length∧∀ w∈e.alts.take k,WordF inv w) (fun k=>e.alts.length-k) 0 (by simp) (by simp +decide [int,ints,Ent.row,zbh]) ?_
  intro k ⟨hk,hp⟩;by_cases hlt:k<e.alts.length
  ·have hlt':(k:Int)<e.alts.length:=by omega
   have hkl:=he.alts.2 e.alts[k] (List.getElem_mem hlt);obtain ⟨w,ew⟩ : ∃ w,e.alts[k]=w:=⟨_,rfl⟩;have ew1:e.alts[k]?=some w:=by rw [List.getElem?_eq_getElem hlt,ew]
   have hsn:=zao hlt;rw [ew] at hsn hkl;simp +decide [int,ints,zbh,Ent.row,hlt,hlt',ew,ew1];refine zae (by rfl) (by rfl) (zxe inv w hkl) (by simp [int,ints]) ?_
   by_cases hz:zij inv w=0
   case neg=>simp +decide [int,hz]
   simp +decide [int,ints,zbh,Ent.row,hz,hlt,hlt',ew,ew1];refine zae (by rfl) (by rfl) (zn8 w e.form (by omega) (by omega)) (by simp [int,ints]) ?_
   by_cases hs:w=e.form
   ·simp +decide [int,hs]
   simp +decide [int,ints,zbh,Ent.row,hs];refine zaf mixed (fun m:Nat=>{n:=73,next:=2,slots:=[(2,.bp 0 0),(3,.bp 1 0),(6,.d (int k)),(8,.d (int m))],own:=[(0,.box 44 [.d (invD inv)]),(1,.box 108 (e.row.map .d))]})
    (fun m=>m≤k) (fun m=>k-m) 0 (by simp) (by simp +decide [int,ints,Ent.row,zbh]) ?_
   intro m hm;by_cases hlm:m<k
   ·have hlm':(m:Int)<k:=by omega
    have hml:m<e.alts.length:=by omega
    have hml':(m:Int)<e.alts.length:=by omega
    have hyl:=he.alts.2 e.alts[m] (List.getElem_mem hml);obtain ⟨y,ey⟩ : ∃ y,e.alts[m]=y:=⟨_,rfl⟩;have ey1:e.alts[m]?=some y:=by rw [List.getElem?_eq_getElem hml,ey]
    rw [ey] at hyl;simp +decide [int,ints,zbh,Ent.row,hlm,hlm',hml,hml',hlt,hlt',ew,ew1,ey,ey1];refine zae (by rfl) (by rfl) (zn8 w y (by omega) (by omega)) (by simp [int,ints]) ?_
    by_cases hs2:w=y
    ·simp +decide [int,hs2]
    ·simp +decide [int,hs2,I64,ints,zbh,Ent.row]
     exact ⟨⟨by omega,by omega⟩,m+1,hlm,by omega,by omega⟩
   ·have hlm':¬(m:Int)<k:=by omega
    simp +decide [int,ints,zbh,Ent.row,hlm',I64];refine ⟨⟨by omega,by omega⟩,k+1,⟨hlt,fun y hy=>?_⟩,by omega,by omega⟩
    rw [hsn] at hy;rcases List.mem_append.1 hy with h | h
    ·exact hp y h
    ·rw [List.mem_singleton] at h;rw [h];exact zth hz
  ·have:k=e.alts.length:=by omega
   subst this;rw [List.take_length] at hp;simp +decide [int,ints,zbh,Ent.row];exact ⟨hid,zth hw,⟨by omega,by omega⟩,hp⟩
end Go.V
namespace Go.V
open Go Go.Proofs
def zf3 (f:Nat→Bool) (s:ByteArray):Bool:=(List.range s.size).all fun k=>f (zaq s k)
theorem zho {f:Nat→Bool} {s:ByteArray} {k:Nat} (hk:k<s.size) (h:f (zaq s k)=false):zf3 f s=false:=by
 unfold zf3;rw [List.all_eq_false];exact ⟨k,List.mem_range.2 hk,by rw [h];decide⟩
theorem zn9 {f:Nat→Bool} {s:ByteArray} (h : ∀ j,j<s.size→f (zaq s j)=true):zf3 f s=true:=by
 unfold zf3;rw [List.all_eq_true];intro j hj;exact h j (List.mem_range.1 hj)
theorem zxf {p:Nat→Prop} {k:Nat} (h : ∀ j,j<k→p j) (hk:p k) : ∀ j,j<k+1→p j:=by
 intro j hj
 rcases Nat.lt_succ_iff_lt_or_eq.mp hj with h' | h'
 ·exact h j h'
 ·rw [h'];exact hk
def labB (b:Nat):Bool:=decide (¬ b<32)&&decide (¬ b=127)
def zki (s:ByteArray):Bool:=zf3 labB s&&((zkc s s.size 0).isSome&&decide (1≤s.size)&&decide (s.size≤32))
theorem zp7 (s:ByteArray) (hs:s.size≤1048576):zam Tryz.prog 110 [.str s] (.bool (zki s)):=by
 refine zaa mixed Tryz.func110 rfl call_110 ?_
 simp +decide [Tryz.f110,int]
 refine zaf mixed (fun k:Nat=>{n:=38,next:=0,slots:=[(0,.d (.str s)),(3,.d (int k))],own:=[]})
  (fun k=>k≤s.size∧∀ j,j<k→labB (zaq s j)=true) (fun k=>s.size-k) 0 (by simp) (by simp +decide [int]) ?_
 intro k ⟨hk,hp⟩
 by_cases hlt:k<s.size
 ·have hlt':(k:Int)<s.size:=by omega
  have e1:byteAt s (k:Int)=(zaq s k:Int):=zc6 s k
  by_cases b1:(zaq s k:Int)<32
  ·have:zki s=false:=by unfold zki;rw [zho hlt (by simp [labB];omega)];rfl
   rw [this];simp +decide [int,hlt,hlt',e1,b1]
  ·by_cases b2:(zaq s k:Int)=127
   ·have:zki s=false:=by unfold zki;rw [zho hlt (by simp [labB];omega)];rfl
    rw [this];simp +decide [int,hlt,hlt',e1,b1,b2]
   ·have hg:=zxf hp (show labB (zaq s k)=true by simp [labB];omega)
    simp +decide [int,hlt,hlt',e1,b1,b2,I64];exact ⟨⟨by omega,by omega⟩,k+1,⟨hlt,hg⟩,by omega,by omega⟩
 ·have hlt':¬(k:Int)<s.size:=by omega
  have hall:zf3 labB s=true:=zn9 fun j hj=>hp j (by omega)
  simp +decide [int,hlt'];refine zaj.pure (by rfl) (zis s hs) (by simp) ?_
  unfold zki;rw [hall];cases hp:zkc s s.size 0 with
  | none=>simp +decide [ptsD,int]
  | some l=>
   by_cases c1:1≤s.size
   ·have c1':(1:Int)≤s.size:=by omega
    simp +decide [ptsD,int,ints,c1,c1'];try omega
   ·have c1':¬(1:Int)≤s.size:=by omega
    simp +decide [ptsD,int,ints,c1,c1']
def gloB (b:Nat):Bool:=decide (¬ b=32)&&decide (¬ b=45)
def zoa (s:ByteArray):Bool:=zf3 gloB s&&zki s
theorem z0u (s:ByteArray) (hs:s.size≤1048576):zam Tryz.prog 197 [.str s] (.bool (zoa s)):=by
 refine zaa mixed Tryz.func197 rfl call_197 ?_
 simp +decide [Tryz.f197,int]
 refine zaf mixed (fun k:Nat=>{n:=22,next:=0,slots:=[(0,.d (.str s)),(3,.d (int k))],own:=[]})
  (fun k=>k≤s.size∧∀ j,j<k→gloB (zaq s j)=true) (fun k=>s.size-k) 0 (by simp) (by simp +decide [int]) ?_
 intro k ⟨hk,hp⟩
 by_cases hlt:k<s.size
 ·have hlt':(k:Int)<s.size:=by omega
  have e1:byteAt s (k:Int)=(zaq s k:Int):=zc6 s k
  by_cases b1:(zaq s k:Int)=32
  ·have:zoa s=false:=by unfold zoa;rw [zho hlt (by simp [gloB];omega)];rfl
   rw [this];simp +decide [int,hlt,hlt',e1,b1]
  ·by_cases b2:(zaq s k:Int)=45
   ·have:zoa s=false:=by unfold zoa;rw [zho hlt (by simp [gloB];omega)];rfl
    rw [this];simp +decide [int,hlt,hlt',e1,b1,b2]
   ·have hg:=zxf hp (show gloB (zaq s k)=true by simp [gloB];omega)
    simp +decide [int,hlt,hlt',e1,b1,b2,I64];exact ⟨⟨by omega,by omega⟩,k+1,⟨hlt,hg⟩,by omega,by omega⟩
 ·have hlt':¬(k:Int)<s.size:=by omega
  have hall:zf3 gloB s=true:=zn9 fun j hj=>hp j (by omega)
  simp +decide [int,hlt'];refine zaj.pure (by rfl) (zp7 s hs) (by simp) ?_
  unfold zoa;rw [hall];simp +decide [int]
def badI (p:Int):Bool:=decide (p<32) || decide (p=127)
def z96 (s:ByteArray):Int:=if 200<s.size then 5 else match zkc s s.size 0 with
 | none=>3
 | some l=>if l.any badI=true then 3 else 0
theorem z6n (s:ByteArray):zam Tryz.prog 198 [.str s] (int (z96 s)):=by
 refine zaa mixed Tryz.func198 rfl call_198 ?_
 unfold z96
 by_cases h0:200<s.size
 ·have h0':(200:Int)<s.size:=by omega
  simp +decide [Tryz.f198,h0',h0,int]
 have h0':¬(200:Int)<s.size:=by omega
 simp +decide [Tryz.f198,h0',h0,int]
 refine zaj.pure (by rfl) (zis s (by omega)) (by simp) ?_
 cases hp:zkc s s.size 0 with
 | none=>simp +decide [ptsD,int]
 | some l=>
  have hll:l.length≤s.size:=z90 s _ _ _ hp
  simp +decide [ptsD,ints,int];refine zaf mixed (fun k:Nat=>{n:=34,next:=0,slots:=[(3,.d (ints l)),(5,.d (int k))],own:=[]})
   (fun k=>k≤l.length∧∀ x∈l.take k,badI x=false) (fun k=>l.length-k) 0 (by simp) (by simp +decide [int,ints]) ?_
  intro k ⟨hk,hq⟩;by_cases hlt:k<l.length
  ·have e1:l[k]?=some l[k]:=List.getElem?_eq_getElem hlt
   have hbad:badI l[k]=true→l.any badI=true:=fun hb=>List.any_eq_true.2 ⟨l[k],List.getElem_mem hlt,hb⟩
   by_cases b1:l[k]<32
   ·have hb:=hbad (by simp [badI,b1])
    simp +decide [ints,int,e1,hlt,b1];exact List.any_eq_true.1 hb
   ·by_cases b2:l[k]=127
    ·have hb:=hbad (by simp [badI,b2])
     simp +decide [ints,int,e1,hlt,b1,b2];exact List.any_eq_true.1 hb
    ·simp +decide [ints,int,e1,hlt,b1,b2,I64]
     refine ⟨by omega,k+1,⟨hlt,?_⟩,by omega,by omega⟩
     rw [List.take_succ_eq_append_getElem hlt];intro x hx;rcases List.mem_append.1 hx with hx | hx
     ·exact hq x hx
     ·simp at hx;rw [hx];simp [badI,b1,b2]
  ·have:k=l.length:=by omega
   subst this;rw [List.take_length] at hq;have hb:l.any badI=false:=by rw [List.any_eq_false];intro x hx;simp [hq x hx]
   simp +decide [ints,int];exact hq
def zna (l:List Sens) (s:ByteArray):Bool:=l.any fun x=>decide (x.gloss=s)
theorem z97 (l:List Sens) (s:ByteArray) (hl:l.length<2^40):zam Tryz.prog 199 [zbu l,.str s] (.bool (zna l s)):=by
 refine zaa mixed Tryz.func199 rfl call_199 ?_
 simp +decide [Tryz.f199,int,zbu]
 refine zaf mixed (fun k:Nat=>{n:=19,next:=0,slots:=[(0,.d (zbu l)),(1,.d (.str s)),(5,.d (int k))],own:=[]})
  (fun k=>k≤l.length∧∀ x∈l.take k,¬ x.gloss=s) (fun k=>l.length-k) 0 (by simp) (by simp +decide [int,zbu]) ?_
 intro k ⟨hk,hp⟩
 by_cases hlt:k<l.length
 ·have hlt':(k:Int)<l.length:=by omega
  have hmem:=List.getElem_mem hlt;have hsn:=zao hlt;obtain ⟨x,ex⟩ : ∃ x,l[k]=x:=⟨_,rfl⟩;have e1:l[k]?=some x:=by rw [List.getElem?_eq_getElem hlt,ex]
  rw [ex] at hmem hsn;by_cases b1:x.gloss=s
  ·have:zna l s=true:=List.any_eq_true.2 ⟨x,hmem,by simpa using b1⟩
   rw [this];simp +decide [int,zbu,Sens.row,hlt,hlt',e1,ex,b1]
  ·simp +decide [int,zbu,Sens.row,hlt,hlt',e1,ex,b1,I64]
   refine ⟨fun h=>absurd (bytes_inj h) b1,fun _=>⟨⟨by omega,by omega⟩,k+1,⟨hlt,fun y hy=>?_⟩,by omega,by omega⟩⟩
   rw [hsn] at hy;rcases List.mem_append.1 hy with h | h
   ·exact hp y h
   ·rw [List.mem_singleton] at h;rw [h];exact b1
 ·have:k=l.length:=by omega
  subst this;rw [List.take_length] at hp;have:zna l s=false:=by unfold zna;rw [List.any_eq_false];intro x hx;simpa using hp x hx
  rw [this];simp +decide [int,zbu]
def zxg (l:List Sens) (s:Sens):Int:=if zoa s.gloss=false then 7 else if z96 s.defn≠0 then z96 s.defn else if zna l s.gloss=true then 8 else 0
theorem zk0 (l:List Sens) (s:Sens) (hl:l.length<2^40) (hs:s.gloss.size≤1048576):zam Tryz.prog 178 [zbu l,.agg s.row] (int (zxg l s)):=by
 refine zaa mixed Tryz.func178 rfl call_178 ?_
 have hH:=z97 l s.gloss hl
 unfold zxg
 simp +decide [Tryz.f178,int,Sens.row]
 refine zaj.pure (by rfl) (z0u s.gloss hs) (by simp) ?_
 cases hg:zoa s.gloss with
 | false=>simp +decide [int]
 | true=>
  simp +decide [int];refine zaj.pure (by rfl) (z6n s.defn) (by simp) ?_
  by_cases he:z96 s.defn=0
  case neg=>simp +decide [int,he]
  simp +decide [int,he];generalize zna l s.gloss=b at hH ⊢;refine zaj.pure (by rfl) hH (by simp [int]) ?_
  cases b <;> simp +decide [int]
set_option maxHeartbeats 8000000 in
theorem z0v (e:Ent) (he:EntC e):zej Tryz.prog 152 [.agg e.row] (fun x=>∃ n,x=int n∧(n=0→(e.senses≠[]∨e.main≠0)∧e.senses.length≤5)):=by
 have hsl:=he.senses.1
 refine zaz mixed Tryz.func152 rfl call_152 ?_
 by_cases hm:e.main=0
 ·by_cases h2:e.main=e.id
  ·have h2':e.id=0:=by omega
   simp +decide [Tryz.f152,int,Ent.row,hm,h2']
  have h2':¬ 0=e.id:=by omega
  by_cases h3:(5:Int)<e.senses.length
  ·simp +decide [Tryz.f152,int,Ent.row,zbu,hm,h2',h3]
  by_cases h4:(e.senses.length:Int)=0
  ·simp +decide [Tryz.f152,int,Ent.row,zbu,hm,h2',h3,h4]
  simp +decide [Tryz.f152,int,Ent.row,zbu,hm,h2',h3,h4];intro hne;refine zaf mixed (fun k:Nat=>{n:=52,next:=1,slots:=[(1,.bp 0 0),(3,.d (int k))],own:=[(0,.box 108 (e.row.map .d))]})
   (fun k=>k≤e.senses.length) (fun k=>e.senses.length-k) 0 (by simp) (by simp +decide [int,ints,Ent.row,zbu,hm]) ?_
  intro k hk;by_cases hlt:k<e.senses.length
  ·have hlt':(k:Int)<e.senses.length:=by omega
   have hkl:=he.senses.2 e.senses[k] (List.getElem_mem hlt);obtain ⟨s,es⟩ : ∃ s,e.senses[k]=s:=⟨_,rfl⟩;have es1:e.senses[k]?=some s:=by rw [List.getElem?_eq_getElem hlt,es]
   rw [es] at hkl;have hS:=zk0 (e.senses.take k) s (by rw [List.length_take];omega) hkl.1
   have eS:zbu (e.senses.take k) = .sl ((e.senses.map Sens.row).take k):=by simp [zbu,List.map_take]
   rw [eS] at hS;have hrl : ∀ a∈e.senses,a.row.length=2:=fun a _=>rfl
   simp +decide [int,ints,zbu,Ent.row,hlt,hlt',es,es1];refine ⟨by omega,hrl,by rfl,by simp [Sens.row],?_⟩
   refine zae (by rfl) (by rfl) hS (by simp [Sens.row,int]) ?_
   by_cases hz:zxg (e.senses.take k) s=0
   case neg=>simp +decide [int,hz]
   rw [hz];simp +decide [int,ints,zbu,Ent.row,I64];exact ⟨⟨by omega,by omega⟩,k+1,hlt,by omega,by omega⟩
  ·have hlt':¬(k:Int)<e.senses.length:=by omega
   simp +decide [int,ints,zbu,Ent.row,hlt'];exact ⟨hne,by omega⟩
 ·simp +decide [Tryz.f152,int,Ent.row,zbu,hm]
  refine zaj.pure (by rfl) (zgx e.main) (by simp [int]) ?_
  cases hid:zie e.main with
  | false=>simp +decide [int]
  | true=>
   by_cases h2:e.main=e.id
   ·simp +decide [int,h2]
   by_cases h3:(5:Int)<e.senses.length
   ·simp +decide [int,zbu,h2,h3]
   by_cases h4:(e.senses.length:Int)=0
   ·simp +decide [int,zbu,hm,h2,h3,h4]
    refine zaf mixed (fun k:Nat=>{n:=52,next:=1,slots:=[(1,.bp 0 0),(3,.d (int k))],own:=[(0,.box 108 (e.row.map .d))]})
     (fun k=>k≤e.senses.length) (fun k=>e.senses.length-k) 0 (by simp) (by simp +decide [int,ints,Ent.row,zbu,hm]) ?_
    intro k hk;by_cases hlt:k<e.senses.length
    ·have hlt':(k:Int)<e.senses.length:=by omega
     have hkl:=he.senses.2 e.senses[k] (List.getElem_mem hlt);obtain ⟨s,es⟩ : ∃ s,e.senses[k]=s:=⟨_,rfl⟩;have es1:e.senses[k]?=some s:=by rw [List.getElem?_eq_getElem hlt,es]
     rw [es] at hkl;have hS:=zk0 (e.senses.take k) s (by rw [List.length_take];omega) hkl.1
     have eS:zbu (e.senses.take k) = .sl ((e.senses.map Sens.row).take k):=by simp [zbu,List.map_take]
     rw [eS] at hS;have hrl : ∀ a∈e.senses,a.row.length=2:=fun a _=>rfl
     simp +decide [int,ints,zbu,Ent.row,hlt,hlt',es,es1];refine ⟨by omega,hrl,by rfl,by simp [Sens.row],?_⟩
     refine zae (by rfl) (by rfl) hS (by simp [Sens.row,int]) ?_
     by_cases hz:zxg (e.senses.take k) s=0
     case neg=>simp +decide [int,hz]
     rw [hz];simp +decide [int,ints,zbu,Ent.row,I64];exact ⟨⟨by omega,by omega⟩,k+1,hlt,by omega,by omega⟩
    ·have hlt':¬(k:Int)<e.senses.length:=by omega
     simp +decide [int,ints,zbu,Ent.row,hlt'];omega
   ·have hne:¬ e.senses=[]:=by intro h;rw [h] at h4;simp at h4
    simp +decide [int,zbu,hm,h2,h3,h4,hne];refine zaf mixed (fun k:Nat=>{n:=52,next:=1,slots:=[(1,.bp 0 0),(3,.d (int k))],own:=[(0,.box 108 (e.row.map .d))]})
     (fun k=>k≤e.senses.length) (fun k=>e.senses.length-k) 0 (by simp) (by simp +decide [int,ints,Ent.row,zbu,hm]) ?_
    intro k hk;by_cases hlt:k<e.senses.length
    ·have hlt':(k:Int)<e.senses.length:=by omega
     have hkl:=he.senses.2 e.senses[k] (List.getElem_mem hlt);obtain ⟨s,es⟩ : ∃ s,e.senses[k]=s:=⟨_,rfl⟩;have es1:e.senses[k]?=some s:=by rw [List.getElem?_eq_getElem hlt,es]
     rw [es] at hkl;have hS:=zk0 (e.senses.take k) s (by rw [List.length_take];omega) hkl.1
     have eS:zbu (e.senses.take k) = .sl ((e.senses.map Sens.row).take k):=by simp [zbu,List.map_take]
     rw [eS] at hS;have hrl : ∀ a∈e.senses,a.row.length=2:=fun a _=>rfl
     simp +decide [int,ints,zbu,Ent.row,hlt,hlt',es,es1];refine ⟨by omega,hrl,by rfl,by simp [Sens.row],?_⟩
     refine zae (by rfl) (by rfl) hS (by simp [Sens.row,int]) ?_
     by_cases hz:zxg (e.senses.take k) s=0
     case neg=>simp +decide [int,hz]
     rw [hz];simp +decide [int,ints,zbu,Ent.row,I64];exact ⟨⟨by omega,by omega⟩,k+1,hlt,by omega,by omega⟩
    ·have hlt':¬(k:Int)<e.senses.length:=by omega
     simp +decide [int,ints,zbu,Ent.row,hlt'];omega
end Go.V
namespace Go.V
open Go Go.Proofs
def z98 (a b:Rf):Bool:=decide (a.rcd<b.rcd) || (decide (a.rcd=b.rcd)&&decide (a.note<b.note))
theorem z99 (a b:Rf):zam Tryz.prog 180 [.agg a.row,.agg b.row] (.bool (z98 a b)):=by
 refine zaa mixed Tryz.func180 rfl call_180 ?_
 by_cases h1:a.rcd<b.rcd
 ·simp +decide [Tryz.f180,int,Rf.row,z98,h1]
 ·by_cases h2:a.rcd=b.rcd
  ·simp +decide [Tryz.f180,int,Rf.row,z98,h1,h2]
  ·simp +decide [Tryz.f180,int,Rf.row,z98,h1,h2]
theorem yek (a:Rf):zam Tryz.prog 179 [.agg a.row] (.bool (zie a.rcd&&zie a.note)):=by
 refine zaa mixed Tryz.func179 rfl call_179 ?_
 simp +decide [Tryz.f179,int,Rf.row]
 refine zaj.pure (by rfl) (zgx a.rcd) (by simp [int]) ?_
 cases h:zie a.rcd with
 | false=>simp +decide [int]
 | true=>
  simp +decide [int];refine zaj.pure (by rfl) (zgx a.note) (by simp [int]) ?_
  simp +decide [int]
set_option maxHeartbeats 8000000 in
theorem yaa (l:List Rf) (n:Int) (hl:l.length≤1048576):zej Tryz.prog 154 [rfD l,int n] IsI:=by
 refine zaz mixed Tryz.func154 rfl call_154 ?_
 by_cases h0:n<l.length
 ·simp +decide [Tryz.f154,int,rfD,h0]
 simp +decide [Tryz.f154,int,rfD,h0]
 refine zaf mixed (fun k:Nat=>{n:=37,next:=0,slots:=[(0,.d (rfD l)),(5,.d (int k))],own:=[]})
  (fun k=>k≤l.length) (fun k=>l.length-k) 0 (by simp) (by simp +decide [int,rfD]) ?_
 intro k hk
 by_cases hlt:k<l.length
 ·have hlt':(k:Int)<l.length:=by omega
  obtain ⟨x,ex⟩ : ∃ x,l[k]=x:=⟨_,rfl⟩;have e1:l[k]?=some x:=by rw [List.getElem?_eq_getElem hlt,ex]
  simp +decide [int,rfD,Rf.row,hlt,hlt',e1,ex];refine zaj.pure (by rfl) (yek x) (by simp [int,Rf.row]) ?_
  cases hr:zie x.rcd&&zie x.note with
  | false=>simp +decide [int]
  | true=>
   by_cases hk0:k=0
   ·subst hk0
    simp +decide [int,I64,rfD];exact ⟨1,hlt,by omega,by omega⟩
   ·have hk0':(0:Int)<k:=by omega
    have hlm:k-1<l.length:=by omega
    obtain ⟨y,ey⟩ : ∃ y,l[k-1]=y:=⟨_,rfl⟩;have ey1:l[k-1]?=some y:=by rw [List.getElem?_eq_getElem hlm,ey]
    have t1:((k:Int)-1).toNat=k-1:=by omega
    have t2:0≤(k:Int)-1:=by omega
    have t3:(k:Int)-1<l.length:=by omega
    simp +decide [int,I64,rfD,Rf.row,hk0,hk0',hlt,hlt',e1,ex,ey,ey1,t1,t2,t3,hlm];intro _;refine ⟨⟨by omega,by omega⟩,by omega,?_⟩
    refine zae (by rfl) (by rfl) (z99 y x) (by simp [int,Rf.row]) ?_
    cases hpx:z98 y x with
    | false=>simp +decide [int]
    | true=>
     simp +decide [int,I64,rfD,hk0'];exact ⟨⟨by omega,by omega⟩,k+1,hlt,by omega,by omega⟩
 ·have hlt':¬(k:Int)<l.length:=by omega
  simp +decide [int,rfD,hlt']
set_option maxHeartbeats 8000000 in
theorem z6o (e:Ent) (hl:e.links.length≤1048576):zej Tryz.prog 153 [.agg e.row] (fun x=>∃ n,x=int n∧(n=0→e.links.length≤12∧∀ l∈e.links,0≤l.kind∧l.kind≤5)):=by
 refine zaz mixed Tryz.func153 rfl call_153 ?_
 by_cases h0:(12:Int)<e.links.length
 ·simp +decide [Tryz.f153,int,Ent.row,lnkD,h0]
 simp +decide [Tryz.f153,int,Ent.row,lnkD,h0]
 refine zaf mixed (fun k:Nat=>{n:=76,next:=1,slots:=[(1,.bp 0 0),(3,.d (int k))],own:=[(0,.box 108 (e.row.map .d))]})
  (fun k=>k≤e.links.length∧∀ l∈e.links.take k,0≤l.kind∧l.kind≤5) (fun k=>e.links.length-k) 0 (by simp) (by simp +decide [int,ints,Ent.row,lnkD]) ?_
 intro k ⟨hk,hp⟩
 by_cases hlt:k<e.links.length
 ·have hlt':(k:Int)<e.links.length:=by omega
  obtain ⟨x,ex⟩ : ∃ x,e.links[k]=x:=⟨_,rfl⟩;have e1:e.links[k]?=some x:=by rw [List.getElem?_eq_getElem hlt,ex]
  have hsn:=zao hlt;rw [ex] at hsn;by_cases b1:x.kind<0
  ·simp +decide [int,ints,Ent.row,lnkD,Lnk.row,hlt,hlt',e1,ex,b1]
  by_cases b2:5<x.kind
  ·simp +decide [int,ints,Ent.row,lnkD,Lnk.row,hlt,hlt',e1,ex,b1,b2]
  have hgo : ∀ z∈e.links.take (k+1),0≤z.kind∧z.kind≤5:=by
   intro z hz;rw [hsn] at hz;rcases List.mem_append.1 hz with h | h
   ·exact hp z h
   ·rw [List.mem_singleton] at h;rw [h];omega
  simp +decide [int,ints,Ent.row,lnkD,Lnk.row,hlt,hlt',e1,ex,b1,b2];refine zaj.pure (by rfl) (zgx x.dst) (by simp [int]) ?_
  cases hr:zie x.dst with
  | false=>simp +decide [int]
  | true=>
   by_cases b3:x.dst=e.id
   ·simp +decide [int,b3]
   by_cases hk0:k=0
   ·subst hk0
    simp +decide [int,ints,Ent.row,lnkD,Lnk.row,I64,b3];exact ⟨1,⟨hlt,hgo⟩,by omega,by omega⟩
   ·have hk0':(0:Int)<k:=by omega
    have hlm:k-1<e.links.length:=by omega
    obtain ⟨y,ey⟩ : ∃ y,e.links[k-1]=y:=⟨_,rfl⟩;have ey1:e.links[k-1]?=some y:=by rw [List.getElem?_eq_getElem hlm,ey]
    have t1:((k:Int)-1).toNat=k-1:=by omega
    have t2:0≤(k:Int)-1:=by omega
    have t3:(k:Int)-1<e.links.length:=by omega
    by_cases c1:x.kind<y.kind
    ·simp +decide [int,ints,Ent.row,lnkD,Lnk.row,I64,b3,hk0,hk0',hlt,hlt',e1,ex,ey,ey1,t1,t2,t3,hlm,c1]
     exact fun _=>⟨⟨by omega,by omega⟩,by omega⟩
    ·by_cases c2:x.kind=y.kind
     ·by_cases c3:x.dst≤y.dst
      ·simp +decide [int,ints,Ent.row,lnkD,Lnk.row,I64,b3,hk0,hk0',hlt,hlt',e1,ex,ey,ey1,t1,t2,t3,hlm,c1,c2,c3]
       exact fun _=>⟨⟨by omega,by omega⟩,by omega,⟨by omega,by omega⟩,by omega,⟨by omega,by omega⟩,by omega⟩
      ·simp +decide [int,ints,Ent.row,lnkD,Lnk.row,I64,b3,hk0,hk0',hlt,hlt',e1,ex,ey,ey1,t1,t2,t3,hlm,c1,c2,c3]
       exact fun _=>⟨⟨by omega,by omega⟩,by omega,⟨by omega,by omega⟩,by omega,⟨by omega,by omega⟩,by omega,⟨by omega,by omega⟩,k+1,⟨hlt,hgo⟩,by omega,by omega⟩
     ·simp +decide [int,ints,Ent.row,lnkD,Lnk.row,I64,b3,hk0,hk0',hlt,hlt',e1,ex,ey,ey1,t1,t2,t3,hlm,c1,c2]
      exact fun _=>⟨⟨by omega,by omega⟩,by omega,⟨by omega,by omega⟩,by omega,⟨by omega,by omega⟩,k+1,⟨hlt,hgo⟩,by omega,by omega⟩
 ·have:k=e.links.length:=by omega
  subst this;rw [List.take_length] at hp;simp +decide [int,ints,Ent.row,lnkD];exact ⟨by omega,hp⟩
structure EntF (inv:List Phon) (e:Ent):Prop extends WordsF inv e where
 senses:e.senses≠[]∨e.main≠0
 fewS:e.senses.length≤5
 links:e.links.length≤12
 kinds : ∀ l∈e.links,0≤l.kind∧l.kind≤5
set_option maxHeartbeats 4000000 in
theorem z6p (inv:List Phon) (e:Ent) (he:EntC e):zej Tryz.prog 117 [.agg [invD inv],.agg e.row] (fun x=>∃ n,x=int n∧(n=0→EntF inv e)):=by
 refine zaz mixed Tryz.func117 rfl call_117 ?_
 simp +decide [Tryz.f117,int,Ent.row]
 refine zaj.some (by rfl) (z6m inv e he) ?_
 rintro r ⟨n,rfl,hW⟩
 by_cases h1:n=0
 case neg=>simp +decide [int,h1]
 have hW:=hW h1
 simp +decide [int,h1]
 refine zaj.some (by rfl) (z0v e he) ?_
 rintro r ⟨m,rfl,hS⟩
 by_cases h2:m=0
 case neg=>simp +decide [int,h2]
 have hS:=hS h2
 simp +decide [int,h2]
 refine zaj.some (by rfl) (z6o e he.links) ?_
 rintro r ⟨j,rfl,hL⟩
 by_cases h3:j=0
 case neg=>simp +decide [int,h3]
 have hL:=hL h3
 simp +decide [int,h3]
 refine zaj.some (by rfl) (yaa e.refs 12 he.refs) ?_
 rintro r ⟨i,rfl⟩
 simp +decide [int]
 exact fun _=>⟨hW,hS.1,hS.2,hL.1,hL.2⟩
end Go.V
namespace Go.V
open Go Go.Proofs
theorem zu6 (l:List Ent) (id:Int) (hl:l.length<2^40):zam Tryz.prog 118 [lexD l,int id] (.bool (getE l id).2):=by
 refine zaa mixed Tryz.func118 rfl call_118 ?_
 have hG:=ydl l id (by omega)
 generalize getE l id=r at hG ⊢
 obtain ⟨e,ok⟩:=r
 simp +decide [Tryz.f118,int,lexD]
 refine zaj.pure (by rfl) hG (by simp [lexD,int]) ?_
 simp +decide [int,Ent.row]
structure LexC (l:List Ent):Prop where
 few:l.length≤1048576
 each : ∀ e∈l,EntC e
structure LexF (inv:List Phon) (l:List Ent):Prop where
 each : ∀ e∈l,EntF inv e
 up : ∀ k (h:k+1<l.length),l[k].id<l[k+1].id
set_option maxHeartbeats 16000000 in
theorem z6q (inv:List Phon) (l:List Ent) (hl:LexC l):zej Tryz.prog 91 [.agg [invD inv],lexD l] (fun x=>∃ n,x=int n∧(n=0→LexF inv l)):=by
 have hfew:=hl.few
 refine zaz mixed Tryz.func91 rfl call_91 ?_
 by_cases h0:(100:Int)<l.length
 ·simp +decide [Tryz.f91,int,lexD,h0]
 simp +decide [Tryz.f91,int,lexD,h0]
 refine zbe mixed (fun k:Nat=>{n:=87,next:=1,slots:=[(1,.d (lexD l)),(2,.bp 0 0),(13,.d (int l.length)),(14,.d (int k))],own:=[(0,.box 44 [.d (invD inv)])]})
  (fun k=>k≤l.length∧(∀ e∈l.take k,EntF inv e)∧∀ j (h:j+1<l.length),j+1<k→l[j].id<l[j+1].id) (fun k=>l.length-k) 0 ⟨by simp,by simp,fun j h h'=>absurd h' (by omega)⟩ (by simp +decide [int,ints,lexD]) ?_
 intro k ⟨hk,hp,hup⟩
 by_cases hlt:k<l.length
 ·have hlt':(k:Int)<l.length:=by omega
  have hC:=hl.each l[k] (List.getElem_mem hlt);obtain ⟨e,ee⟩ : ∃ e,l[k]=e:=⟨_,rfl⟩;have e1:l[k]?=some e:=by rw [List.getElem?_eq_getElem hlt,ee]
  have hsn:=zao hlt;rw [ee] at hsn hC;have hE:=z6p inv e hC;refine zhg mixed 2 {n:=87,next:=1,slots:=[(1,.d (lexD l)),(2,.bp 0 0),(13,.d (int l.length)),(14,.d (int k))],own:=[(0,.box 44 [.d (invD inv)])]} rfl (by simp +decide [ze9,cutK,int,lexD,hlt,hlt']) ?_
  simp only [zfz];refine zch (zcy (zhg mixed 1 {n:=87,next:=1,slots:=[(1,.d (lexD l)),(2,.bp 0 0),(5,.d (int k)),(13,.d (int l.length)),(14,.d (int k))],own:=[(0,.box 44 [.d (invD inv)])]} rfl (by simp +decide [ze9,cutK,int,lexD]) ?_)) mixed
  simp only [zfz];refine zch ?_ mixed
  refine ycx mixed 5 (by rfl) (by rfl) (by rfl) (by rfl) (by simp) ?_
  simp +decide [int,lexD,Ent.row,hlt,hlt',ee,e1];refine zaj.some (by rfl) hE ?_
  rintro r ⟨n,rfl,hF⟩
  by_cases hn:n=0
  case neg=>simp +decide [int,hn]
  have hF:=hF hn;have hgo : ∀ x∈l.take (k+1),EntF inv x:=by
   intro x hx;rw [hsn] at hx;rcases List.mem_append.1 hx with h | h
   ·exact hp x h
   ·rw [List.mem_singleton] at h;rw [h];exact hF
  by_cases hk0:k=0
  ·subst hk0
   simp +decide [int,hn,lexD,I64];exact ⟨1,⟨hlt,hgo,fun j h h'=>absurd h' (by omega)⟩,by omega,by omega⟩
  ·have hk0':(0:Int)<k:=by omega
   have hlm:k-1<l.length:=by omega
   obtain ⟨y,ey⟩ : ∃ y,l[k-1]=y:=⟨_,rfl⟩;have ey1:l[k-1]?=some y:=by rw [List.getElem?_eq_getElem hlm,ey]
   have t1:((k:Int)-1).toNat=k-1:=by omega
   have t2:0≤(k:Int)-1:=by omega
   have t3:(k:Int)-1<l.length:=by omega
   by_cases c1:e.id≤y.id
   ·simp +decide [int,hn,lexD,Ent.row,I64,hk0,hk0',hlt,hlt',e1,ee,ey,ey1,t1,t2,t3,hlm,c1]
    exact fun _=>⟨⟨by omega,by omega⟩,by omega⟩
   ·simp +decide [int,hn,lexD,Ent.row,I64,hk0,hk0',hlt,hlt',e1,ee,ey,ey1,t1,t2,t3,hlm,c1]
    refine fun _=>⟨⟨by omega,by omega⟩,by omega,⟨by omega,by omega⟩,k+1,⟨hlt,hgo,fun j h h'=>?_⟩,by omega,by omega⟩
    by_cases hj:j+1<k
    ·exact hup j h hj
    ·have hj1:j=k-1:=by omega
     subst hj1;have hk1:k-1+1=k:=by omega
     have:l[k-1+1]=e:=by rw [← ee];congr 1
     rw [ey,this];omega
 ·have:k=l.length:=by omega
  subst this;rw [List.take_length] at hp;refine zar mixed ?_
  simp +decide [int,lexD];have hsimp:LexF inv l:=⟨hp,fun j h=>hup j h h⟩
  refine zaf mixed (fun k:Nat=>{n:=87,next:=1,slots:=[(1,.d (lexD l)),(2,.bp 0 0),(44,.d (int l.length)),(45,.d (int k))],own:=[(0,.box 44 [.d (invD inv)])]})
   (fun k=>k≤l.length) (fun k=>l.length-k) 0 (by simp) (by simp +decide [int,ints,lexD]) ?_
  intro i hi;by_cases hli:i<l.length
  ·have hli':(i:Int)<l.length:=by omega
   have hlk:=(hp l[i] (List.getElem_mem hli)).links;obtain ⟨e,ee⟩ : ∃ e,l[i]=e:=⟨_,rfl⟩;have e1:l[i]?=some e:=by rw [List.getElem?_eq_getElem hli,ee]
   rw [ee] at hlk;by_cases hm:e.main=0
   ·simp +decide [int,lexD,Ent.row,lnkD,hli,hli',e1,ee,hm,I64]
    refine zaf mixed (fun m:Nat=>{n:=87,next:=1,slots:=[(1,.d (lexD l)),(2,.bp 0 0),(7,.d (int i)),(44,.d (int l.length)),(45,.d (int i)),(69,.d (int e.links.length)),(70,.d (int m))],own:=[(0,.box 44 [.d (invD inv)])]})
     (fun m=>m≤e.links.length) (fun m=>e.links.length-m) 0 (by simp) (by simp +decide [int,ints,lexD]) ?_
    intro m hm2;by_cases hlm:m<e.links.length
    ·have hlm':(m:Int)<e.links.length:=by omega
     obtain ⟨y,ey⟩ : ∃ y,e.links[m]=y:=⟨_,rfl⟩;have ey1:e.links[m]?=some y:=by rw [List.getElem?_eq_getElem hlm,ey]
     simp +decide [int,lexD,Ent.row,lnkD,Lnk.row,hli,hli',e1,ee,hlm,hlm',ey,ey1,I64];refine zaj.pure (by rfl) (zu6 l y.dst (by omega)) (by simp [int,lexD]) ?_
     cases hg2:(getE l y.dst).2 with
     | false=>simp +decide [int]
     | true=>
      simp +decide [int,I64,lexD];exact ⟨⟨by omega,by omega⟩,m+1,hlm,by omega,by omega⟩
    ·have hlm':¬(m:Int)<e.links.length:=by omega
     simp +decide [int,lexD,hlm',I64];exact ⟨⟨by omega,by omega⟩,i+1,hli,by omega,by omega⟩
   ·simp +decide [int,lexD,Ent.row,lnkD,hli,hli',e1,ee,hm,I64]
    refine zaj.pure (by rfl) (zu6 l e.main (by omega)) (by simp [int,lexD]) ?_
    cases hg:(getE l e.main).2 with
    | false=>simp +decide [int]
    | true=>
     simp +decide [int,lexD,Ent.row,lnkD,hli,hli',e1,ee,hm,I64];refine zaf mixed (fun m:Nat=>{n:=87,next:=1,slots:=[(1,.d (lexD l)),(2,.bp 0 0),(7,.d (int i)),(44,.d (int l.length)),(45,.d (int i)),(69,.d (int e.links.length)),(70,.d (int m))],own:=[(0,.box 44 [.d (invD inv)])]})
      (fun m=>m≤e.links.length) (fun m=>e.links.length-m) 0 (by simp) (by simp +decide [int,ints,lexD]) ?_
     intro m hm2;by_cases hlm:m<e.links.length
     ·have hlm':(m:Int)<e.links.length:=by omega
      obtain ⟨y,ey⟩ : ∃ y,e.links[m]=y:=⟨_,rfl⟩;have ey1:e.links[m]?=some y:=by rw [List.getElem?_eq_getElem hlm,ey]
      simp +decide [int,lexD,Ent.row,lnkD,Lnk.row,hli,hli',e1,ee,hlm,hlm',ey,ey1,I64];refine zaj.pure (by rfl) (zu6 l y.dst (by omega)) (by simp [int,lexD]) ?_
      cases hg2:(getE l y.dst).2 with
      | false=>simp +decide [int]
      | true=>
       simp +decide [int,I64,lexD];exact ⟨⟨by omega,by omega⟩,m+1,hlm,by omega,by omega⟩
     ·have hlm':¬(m:Int)<e.links.length:=by omega
      simp +decide [int,lexD,hlm',I64];exact ⟨⟨by omega,by omega⟩,i+1,hli,by omega,by omega⟩
  ·have hli':¬(i:Int)<l.length:=by omega
   simp +decide [int,lexD,hli'];exact hsimp
end Go.V
namespace Go.V
open Go Go.Proofs
def invC (k:Int):Int:=if k=0 then k else if k=1 then k else if k=2 then 3 else if k=3 then 2 else if k=4 then 5 else if k=5 then 4 else -1
theorem zob (k:Int):zam Tryz.prog 119 [int k] (int (invC k)):=by
 refine zaa mixed Tryz.func119 rfl call_119 ?_
 unfold invC
 by_cases h0:k=0
 ·simp +decide [Tryz.f119,int,h0]
 by_cases h1:k=1
 ·simp +decide [Tryz.f119,int,h0,h1]
 by_cases h2:k=2
 ·simp +decide [Tryz.f119,int,h0,h1,h2]
 by_cases h3:k=3
 ·simp +decide [Tryz.f119,int,h0,h1,h2,h3]
 by_cases h4:k=4
 ·simp +decide [Tryz.f119,int,h0,h1,h2,h3,h4]
 by_cases h5:k=5
 ·simp +decide [Tryz.f119,int,h0,h1,h2,h3,h4,h5]
 simp +decide [Tryz.f119,int,h0,h1,h2,h3,h4,h5]
def zxh (e:Ent) (x:Lnk):Bool:=e.links.any fun y=>decide (y=x)
theorem yel (e:Ent) (x:Lnk) (hl:e.links.length≤1048576):zam Tryz.prog 121 [.agg e.row,.agg x.row] (.bool (zxh e x)):=by
 refine zaa mixed Tryz.func121 rfl call_121 ?_
 simp +decide [Tryz.f121,int,Ent.row,Lnk.row]
 refine zaf mixed (fun k:Nat=>{n:=20,next:=2,slots:=[(2,.bp 0 0),(3,.bp 1 0),(5,.d (int k))],own:=[(0,.box 108 (e.row.map .d)),(1,.box 157 (x.row.map .d))]})
  (fun k=>k≤e.links.length∧∀ y∈e.links.take k,¬ y=x) (fun k=>e.links.length-k) 0 (by simp) (by simp +decide [int,ints,Ent.row,Lnk.row,lnkD]) ?_
 intro k ⟨hk,hp⟩
 by_cases hlt:k<e.links.length
 ·have hlt':(k:Int)<e.links.length:=by omega
  have hmem:=List.getElem_mem hlt;have hsn:=zao hlt;obtain ⟨y,ey⟩ : ∃ y,e.links[k]=y:=⟨_,rfl⟩;have e1:e.links[k]?=some y:=by rw [List.getElem?_eq_getElem hlt,ey]
  rw [ey] at hmem hsn;by_cases b1:y=x
  ·have:zxh e x=true:=List.any_eq_true.2 ⟨y,hmem,by simpa using b1⟩
   rw [this];subst b1;simp +decide [int,ints,Ent.row,lnkD,Lnk.row,hlt,hlt',e1,ey]
  ·simp +decide [int,ints,Ent.row,lnkD,Lnk.row,hlt,hlt',e1,ey,I64]
   have hne:y.kind=x.kind→¬ y.dst=x.dst:=by
    intro h1 h2;obtain ⟨a,b⟩:=y;obtain ⟨c,d⟩:=x;simp only at h1 h2
    exact b1 (by rw [h1,h2])
   refine ⟨fun h1 h2=>absurd h2 (hne h1),fun _=>⟨⟨by omega,by omega⟩,k+1,⟨hlt,fun z hz=>?_⟩,by omega,by omega⟩⟩
   rw [hsn] at hz;rcases List.mem_append.1 hz with h | h
   ·exact hp z h
   ·rw [List.mem_singleton] at h;rw [h];exact b1
 ·have:k=e.links.length:=by omega
  subst this;rw [List.take_length] at hp;have:zxh e x=false:=by unfold zxh;rw [List.any_eq_false];intro y hy;simpa using hp y hy
  rw [this];simp +decide [int,ints,Ent.row,lnkD]
theorem yab (l:List Int) (x:Int) (hl:l.length<2^40):zam Tryz.prog 122 [ints l,int x] (.bool (decide (x∈l))):=by
 refine zaa mixed Tryz.func122 rfl call_122 ?_
 simp +decide [Tryz.f122,int,ints]
 refine zaf mixed (fun k:Nat=>{n:=18,next:=0,slots:=[(0,.d (ints l)),(1,.d (int x)),(5,.d (int k))],own:=[]})
  (fun k=>k≤l.length∧∀ y∈l.take k,¬ y=x) (fun k=>l.length-k) 0 (by simp) (by simp +decide [int,ints]) ?_
 intro k ⟨hk,hp⟩
 by_cases hlt:k<l.length
 ·have hlt':(k:Int)<l.length:=by omega
  have hmem:=List.getElem_mem hlt;have hsn:=zao hlt;obtain ⟨y,ey⟩ : ∃ y,l[k]=y:=⟨_,rfl⟩;have e1:l[k]?=some y:=by rw [List.getElem?_eq_getElem hlt,ey]
  rw [ey] at hmem hsn;by_cases b1:y=x
  ·subst b1
   simp +decide [int,ints,hlt,hlt',e1,ey,hmem]
  ·simp +decide [int,ints,hlt,hlt',e1,ey,b1,I64]
   refine ⟨⟨by omega,by omega⟩,k+1,⟨hlt,fun z hz=>?_⟩,by omega,by omega⟩
   rw [hsn] at hz;rcases List.mem_append.1 hz with h | h
   ·exact hp z h
   ·rw [List.mem_singleton] at h;rw [h];exact b1
 ·have:k=l.length:=by omega
  subst this;rw [List.take_length] at hp;have hn:¬ x∈l:=fun h=>hp x h rfl
  simp +decide [int,ints,hn]
def zl1 (l:List Ent) (kind:Int) (s:List Bool×List Int) (x:Lnk):List Bool×List Int:=
 if x.kind=kind∧0≤zds l x.dst∧s.1[(zds l x.dst).toNat]?.getD true=false then (s.1.set (zds l x.dst).toNat true,s.2++[x.dst]) else s
def rOne (l:List Ent) (kind:Int) (s:List Bool×List Int) (t:Int):List Bool×List Int:=(getE l t).1.links.foldl (zl1 l kind) s
def yga (l:List Ent) (kind:Int) (s:List Bool×List Int):List Bool×List Int:=s.2.foldl (rOne l kind) (s.1,[])
def rN (l:List Ent) (id kind:Int):Nat→List Bool×List Int
 | 0=>(List.replicate l.length false,[id])
 | n+1=>yga l kind (rN l id kind n)
def rOut (l:List Ent) (s:List Bool) (k:Nat):List Int:=((List.range k).filter fun j=>s[j]?.getD false).map fun j=>((l[j]?).map Ent.id).getD 0
def zp8 (l:List Ent) (id kind:Int):List Int:=rOut l (rN l id kind (l.length+1)).1 l.length
theorem yac (l:List Ent) (kind:Int) (s:List Bool×List Int) (x:Lnk):(zl1 l kind s x).1.length=s.1.length∧(zl1 l kind s x).2.length≤s.2.length+1:=by
 unfold zl1;split <;> simp
theorem zp9 (l:List Ent) (kind:Int) : ∀ (xs:List Lnk) (s:List Bool×List Int),(xs.foldl (zl1 l kind) s).1.length=s.1.length∧(xs.foldl (zl1 l kind) s).2.length≤s.2.length+xs.length
 | [],s=>⟨rfl,Nat.le_refl _⟩
 | x::xs,s=>by
  have h1:=yac l kind s x;have h2:=zp9 l kind xs (zl1 l kind s x);rw [List.foldl_cons,List.length_cons];exact ⟨h2.1.trans h1.1,by omega⟩
theorem zti {l:List Ent} (hk : ∀ e∈l,e.links.length≤12) (t:Int):(getE l t).1.links.length≤12:=by
 rcases zdd l t with ⟨_,h2⟩ | ⟨j,hj,_,h2⟩
 ·rw [h2];simp [Ent.zero]
 ·rw [h2];exact hk _ (List.getElem_mem hj)
theorem zqa {l:List Ent} (hk : ∀ e∈l,e.links.length≤12) (kind:Int) : ∀ (ts:List Int) (s:List Bool×List Int),(ts.foldl (rOne l kind) s).1.length=s.1.length∧(ts.foldl (rOne l kind) s).2.length≤s.2.length+12*ts.length
 | [],s=>⟨rfl,by simp⟩
 | t::ts,s=>by
  have h1:=zp9 l kind (getE l t).1.links s;have h0:=zti hk t;have h2:=zqa hk kind ts (rOne l kind s t);rw [List.foldl_cons,List.length_cons];unfold rOne at h2 ⊢;exact ⟨h2.1.trans h1.1,by omega⟩
theorem ygb {l:List Ent} (hk : ∀ e∈l,e.links.length≤12) (id kind:Int) : ∀ n,(rN l id kind n).1.length=l.length∧(rN l id kind n).2.length≤12^n
 | 0=>by simp [rN]
 | n+1=>by
  have h:=ygb hk id kind n;have h2:=zqa hk kind (rN l id kind n).2 ((rN l id kind n).1,[]);unfold rN yga;simp only [List.length_nil,Nat.zero_add] at h2;refine ⟨h2.1.trans h.1,Nat.le_trans h2.2 ?_⟩
  rw [Nat.pow_succ];omega
theorem yad (l:List Ent) (s:List Bool) (k:Nat):rOut l s (k+1)=rOut l s k++(if s[k]?.getD false=true then [((l[k]?).map Ent.id).getD 0] else []):=by
 unfold rOut
 rw [List.range_succ,List.filter_append,List.map_append]
 congr 1
 by_cases h:s[k]?.getD false=true
 ·simp [h]
 ·simp [h]
theorem z3v (l:List Ent) (s:List Bool) (k:Nat):(rOut l s k).length≤k:=by
 unfold rOut
 rw [List.length_map]
 have:=List.length_filter_le (fun j=>s[j]?.getD false) (List.range k)
 simpa using this
def rB (l:List Bool):List (List D):=l.map fun b=>[.bool b]
def rI (l:List Int):List (List D):=l.map fun n=>[int n]
def rH (l:List Ent) (id kind:Int) (i:Nat):St:=
 {n:=110,next:=3,slots:=[(0,.d (lexD l)),(1,.d (int id)),(2,.d (int kind)),(7,.ar 1),(8,.d (ints (rN l id kind i).2)),(9,.d (int i))],own:=[(1,.arr 4 1 (rB (rN l id kind i).1))],moved:=[3]}
def rM (l:List Ent) (id kind:Int) (i:Nat) (todo:List Int) (s:List Bool×List Int):St:=
 {n:=110,next:=4,slots:=[(0,.d (lexD l)),(1,.d (int id)),(2,.d (int kind)),(7,.ar 1),(8,.d (ints todo)),(9,.d (int i)),(10,.ar 3)],own:=[(1,.arr 4 1 (rB s.1)),(3,.arr 3 1 (rI s.2))],moved:=[3]}
def rMj (l:List Ent) (id kind:Int) (i:Nat) (todo:List Int) (j:Nat) (s:List Bool×List Int):St:=
 {n:=110,next:=4,slots:=[(0,.d (lexD l)),(1,.d (int id)),(2,.d (int kind)),(7,.ar 1),(8,.d (ints todo)),(9,.d (int i)),(10,.ar 3),(11,.d (int j))],own:=[(1,.arr 4 1 (rB s.1)),(3,.arr 3 1 (rI s.2))],moved:=[3]}
def rL (l:List Ent) (id kind:Int) (i:Nat) (todo:List Int) (j:Nat) (f:Int) (m:Nat) (s:List Bool×List Int):St:=
 {n:=110,next:=4,slots:=[(0,.d (lexD l)),(1,.d (int id)),(2,.d (int kind)),(7,.ar 1),(8,.d (ints todo)),(9,.d (int i)),(10,.ar 3),(11,.d (int j)),(12,.d (int f)),(13,.d (int m))],own:=[(1,.arr 4 1 (rB s.1)),(3,.arr 3 1 (rI s.2))],moved:=[3]}
set_option maxHeartbeats 16000000 in
theorem ztj (l:List Ent) (id kind:Int) (hl:l.length≤5) (hk : ∀ e∈l,e.links.length≤12):zam Tryz.prog 123 [lexD l,int id,int kind] (ints (zp8 l id kind)):=by
 refine zaa mixed Tryz.func123 rfl call_123 ?_
 simp +decide [Tryz.f123,int,lexD]
 refine ⟨by omega,by unfold maxLen;omega,?_⟩
 refine zka [2] ?_
 refine zbe mixed (rH l id kind) (fun i=>i≤l.length+1) (fun i=>l.length+1-i) 0 (by simp) (by simp +decide [rH,rN,int,ints,lexD,rB]) ?_
 intro i hi
 obtain ⟨n1,n2⟩:=ygb hk id kind i
 have hpw:12^i≤12^6:=Nat.pow_le_pow_right (by omega) (by omega)
 by_cases hlt:i<l.length+1
 ·have hlt':(i:Int)≤l.length:=by omega
  refine zhg mixed 1 (rH l id kind i) rfl (by simp +decide [rH,ze9,cutK,int,lexD,hlt']) ?_
  simp only [zfz];refine zch (zcy (zhg mixed 2 (rM l id kind i (rN l id kind i).2 (rN l id kind (i+1))) rfl ?_ ?_)) mixed
  ·unfold rH
   have n3:(rN l id kind i).2.length≤2985984:=Nat.le_trans n2 (Nat.le_trans hpw (by decide))
   have hsucc:rN l id kind (i+1)=(rN l id kind i).2.foldl (rOne l kind) ((rN l id kind i).1,[]):=rfl
   generalize rN l id kind (i+1)=nx at hsucc;generalize rN l id kind i=cur at hsucc n1 n2 n3 ⊢;obtain ⟨seen,todo⟩:=cur;simp only at hsucc n1 n2 n3
   simp +decide [rH,ze9,int,lexD];have hbase:(seen,[])=(([]:List Int).foldl (rOne l kind) (seen,[])):=rfl
   refine zaf mixed (fun j:Nat=>rMj l id kind i todo j ((todo.take j).foldl (rOne l kind) (seen,[]))) (fun j=>j≤todo.length) (fun j=>todo.length-j) 0 (by simp) (by simp +decide [rMj,int,ints,lexD,rB,rI]) ?_
   intro j hj;obtain ⟨m1,m2⟩:=zqa hk kind (todo.take j) (seen,[]);rw [List.length_take] at m2;simp only [List.length_nil,Nat.zero_add] at m1 m2;by_cases hlj:j<todo.length
   case neg=>
    have:j=todo.length:=by omega
    subst this;rw [List.take_length,← hsucc];simp +decide [rMj,rM,int,ints,lexD,cutK];done
   have hlj':(j:Int)<todo.length:=by omega
   have hsn:(todo.take (j+1)).foldl (rOne l kind) (seen,[])=rOne l kind ((todo.take j).foldl (rOne l kind) (seen,[])) todo[j]:=by rw [zao hlj,List.foldl_append];rfl
   obtain ⟨t,et⟩ : ∃ t,todo[j]=t:=⟨_,rfl⟩;have et1:todo[j]?=some t:=by rw [List.getElem?_eq_getElem hlj,et]
   rw [et] at hsn;generalize (todo.take j).foldl (rOne l kind) (seen,[])=s0 at hsn m1 m2;have hF:=zpp l t (by omega)
   have hlk:=zti hk t;have hone:rOne l kind s0 t=(getE l t).1.links.foldl (zl1 l kind) s0:=rfl
   rw [hone] at hsn;simp +decide [rMj,int,ints,lexD,hlj,hlj',et,et1];refine zaj.pure (by rfl) hF (by simp [int,lexD]) ?_
   simp +decide [int,ints,lexD];refine zaf mixed (fun m:Nat=>rL l id kind i todo j (zds l t) m (((getE l t).1.links.take m).foldl (zl1 l kind) s0)) (fun m=>m≤(getE l t).1.links.length) (fun m=>(getE l t).1.links.length-m) 0 (by simp) (by simp +decide [rL,int,ints,lexD,rB,rI]) ?_
   intro m hm;rcases zdd l t with ⟨f1,f2⟩ | ⟨q,hq,f1,f2⟩
   ·have hz:(getE l t).1.links=[]:=by rw [f2];rfl
    rw [hz] at hm hsn ⊢;have hm0:m=0:=by simpa using hm
    subst hm0;have hf0:¬ 0≤zds l t:=by omega
    simp only [List.take_zero,List.foldl_nil] at hsn ⊢;simp +decide [rL,int,ints,lexD,hf0,I64];exact ⟨⟨by omega,by omega⟩,j+1,hlj,by omega,by omega,by rw [hsn],by rw [hsn]⟩
   ·rw [f2] at hm hsn hlk ⊢
    simp only at hm hsn hlk ⊢
    rw [f1];obtain ⟨e,ee⟩ : ∃ e,l[q]=e:=⟨_,rfl⟩;have eq1:l[q]?=some e:=by rw [List.getElem?_eq_getElem hq,ee]
    have hq':(q:Int)<l.length:=by omega
    rw [ee] at hm hsn hlk ⊢;by_cases hlm:m<e.links.length
    case neg=>
     have:m=e.links.length:=by omega
     subst this;rw [List.take_length,← hsn];simp +decide [rL,int,ints,lexD,hq,hq',ee,eq1,Ent.row,lnkD,I64];exact ⟨⟨by omega,by omega⟩,j+1,hlj,by omega,by omega,rfl,rfl⟩
    have hlm':(m:Int)<e.links.length:=by omega
    obtain ⟨p1,p2⟩:=zp9 l kind (e.links.take m) s0;rw [List.length_take] at p2;have hsm:(e.links.take (m+1)).foldl (zl1 l kind) s0=zl1 l kind ((e.links.take m).foldl (zl1 l kind) s0) e.links[m]:=by rw [zao hlm,List.foldl_append];rfl
    obtain ⟨x,ex⟩ : ∃ x,e.links[m]=x:=⟨_,rfl⟩;have ex1:e.links[m]?=some x:=by rw [List.getElem?_eq_getElem hlm,ex]
    rw [ex] at hsm;generalize (e.links.take m).foldl (zl1 l kind) s0=s1 at hsm p1 p2;have hG:=zpp l x.dst (by omega)
    have hstep:zl1 l kind s1 x=if x.kind=kind∧0≤zds l x.dst∧s1.1[(zds l x.dst).toNat]?.getD true=false then (s1.1.set (zds l x.dst).toNat true,s1.2++[x.dst]) else s1:=rfl
    rw [hstep] at hsm;simp +decide [rL,int,ints,lexD,hq,hq',ee,eq1,Ent.row,lnkD,Lnk.row,I64,hlm,hlm',ex,ex1];refine zaj.pure (by rfl) hG (by simp [int,lexD]) ?_
    by_cases k1:x.kind=kind
    case neg=>
     rw [if_neg (fun h=>k1 h.1)] at hsm
     simp +decide [int,k1,I64];exact ⟨⟨by omega,by omega⟩,m+1,hlm,by omega,by omega,by rw [hsm],by rw [hsm]⟩
    rcases zdd l x.dst with ⟨g1,g2⟩ | ⟨u,hu,g1,g2⟩
    ·have hg0:¬ 0≤zds l x.dst:=by omega
     rw [if_neg (fun h=>hg0 h.2.1)] at hsm
     simp +decide [int,k1,hg0,I64];exact ⟨⟨by omega,by omega⟩,m+1,hlm,by omega,by omega,by rw [hsm],by rw [hsm]⟩
    ·have hul:u<s1.1.length:=by omega
     obtain ⟨b,eb⟩ : ∃ b,s1.1[u]=b:=⟨_,rfl⟩;have eb1:s1.1[u]?=some b:=by rw [List.getElem?_eq_getElem hul,eb]
     rw [g1] at hsm;simp only [Int.toNat_natCast,eb1,Option.getD_some] at hsm;have hu':(u:Int)<s1.1.length:=by omega
     cases b with
     | true=>
      rw [if_neg (fun h=>by cases h.2.2)] at hsm
      simp +decide [int,k1,g1,rB,hul,hu',eb,eb1,I64];exact ⟨⟨by omega,by omega⟩,m+1,hlm,by omega,by omega,by rw [hsm],by rw [hsm]⟩
     | false=>
      rw [if_pos ⟨k1,by omega,rfl⟩] at hsm
      simp +decide [int,k1,g1,rB,rI,hul,hu',eb,eb1,I64];exact ⟨by omega,by unfold maxLen;omega,⟨by omega,by omega⟩,m+1,hlm,by omega,by omega,by rw [hsm];simp [List.map_set],by rw [hsm];simp⟩
  ·simp only [zfz]
   refine zka [3] ?_
   refine zar mixed ?_
   simp +decide [rM,int,lexD];exact ⟨⟨by omega,by omega⟩,i+1,by omega,by omega,by simp +decide [rH,int,ints,lexD,rB,rI]⟩
 ·have:i=l.length+1:=by omega
  subst this;refine zar mixed ?_
  have hn:¬(l.length:Int)+1≤l.length:=by omega
  simp +decide [rH,int,lexD,hn];have hfin:zp8 l id kind=rOut l (rN l id kind (l.length+1)).1 l.length:=rfl
  generalize (rN l id kind (l.length+1)).1=seen at hfin n1 ⊢;refine zaf mixed (fun k:Nat=>{n:=110,next:=4,slots:=[(0,.d (lexD l)),(7,.ar 1),(16,.ar 3),(17,.d (int k))],own:=[(1,.arr 4 1 (rB seen)),(3,.arr 3 1 (rI (rOut l seen k)))],moved:=[3]}) (fun k=>k≤l.length) (fun k=>l.length-k) 0 (by simp) (by simp +decide [int,ints,lexD,rB,rI,rOut]) ?_
  intro k hkl;have hol:=z3v l seen k;by_cases hlk:k<l.length
  ·have hlk':(k:Int)<l.length:=by omega
   have hks:k<seen.length:=by omega
   have hks':(k:Int)<seen.length:=by omega
   have hsn:=yad l seen k;obtain ⟨e,ee⟩ : ∃ e,l[k]=e:=⟨_,rfl⟩;have e1:l[k]?=some e:=by rw [List.getElem?_eq_getElem hlk,ee]
   obtain ⟨b,eb⟩ : ∃ b,seen[k]=b:=⟨_,rfl⟩;have eb1:seen[k]?=some b:=by rw [List.getElem?_eq_getElem hks,eb]
   rw [e1,eb1] at hsn;cases b with
   | false=>
    simp only [Option.getD_some,Bool.false_eq_true,if_false,List.append_nil] at hsn;simp +decide [int,ints,lexD,rB,hlk,hlk',hks,hks',ee,e1,eb,eb1,I64];exact ⟨⟨by omega,by omega⟩,k+1,hlk,by omega,by omega,by rw [hsn]⟩
   | true=>
    simp only [Option.getD_some,if_true,Option.map_some] at hsn;simp +decide [int,ints,lexD,rB,rI,Ent.row,hlk,hlk',hks,hks',ee,e1,eb,eb1,I64];exact ⟨by omega,by unfold maxLen;omega,⟨by omega,by omega⟩,k+1,hlk,by omega,by omega,by rw [hsn];simp⟩
  ·have:k=l.length:=by omega
   subst this;rw [hfin];simp +decide [int,ints,lexD,rI]
end Go.V
namespace Go.V
open Go Go.Proofs
theorem ztk (l:List Ent) (id kind:Int):(zp8 l id kind).length≤l.length:=z3v _ _ _
set_option maxHeartbeats 16000000 in
theorem z6r (l:List Ent) (hl:l.length≤5) (hk : ∀ e∈l,e.links.length≤12):zej Tryz.prog 92 [lexD l] IsI:=by
 refine zaz mixed Tryz.func92 rfl call_92 ?_
 simp +decide [Tryz.f92,int,lexD]
 refine zaf mixed (fun i:Nat=>{n:=91,next:=0,slots:=[(0,.d (lexD l)),(3,.d (int i))],own:=[]}) (fun i=>i≤l.length) (fun i=>l.length-i) 0 (by simp) (by simp +decide [int,lexD]) ?_
 intro i hi
 by_cases hli:i<l.length
 ·have hli':(i:Int)<l.length:=by omega
  have hlk:=hk l[i] (List.getElem_mem hli);obtain ⟨e,ee⟩ : ∃ e,l[i]=e:=⟨_,rfl⟩;have e1:l[i]?=some e:=by rw [List.getElem?_eq_getElem hli,ee]
  rw [ee] at hlk;simp +decide [int,lexD,hli'];refine zaf mixed (fun k:Nat=>{n:=91,next:=0,slots:=[(0,.d (lexD l)),(3,.d (int i)),(4,.d (int k))],own:=[]}) (fun k=>k≤e.links.length) (fun k=>e.links.length-k) 0 (by simp) (by simp +decide [int,lexD]) ?_
  intro k hkl;by_cases hlm:k<e.links.length
  ·have hlm':(k:Int)<e.links.length:=by omega
   obtain ⟨x,ex⟩ : ∃ x,e.links[k]=x:=⟨_,rfl⟩;have ex1:e.links[k]?=some x:=by rw [List.getElem?_eq_getElem hlm,ex]
   simp +decide [int,lexD,Ent.row,lnkD,Lnk.row,hli,hli',ee,e1,hlm,hlm',ex,ex1];refine zaj.pure (by rfl) (zob x.kind) (by simp [int]) ?_
   by_cases c1:invC x.kind<0
   ·simp +decide [int,c1]
   simp +decide [int,lexD,c1];refine zaj.pure (by rfl) (zpp l x.dst (by omega)) (by simp [int,lexD]) ?_
   rcases zdd l x.dst with ⟨g1,g2⟩ | ⟨u,hu,g1,g2⟩
   ·simp +decide [int,g1]
   ·have hu':(u:Int)<l.length:=by omega
    have hul:=hk l[u] (List.getElem_mem hu);obtain ⟨y,ey⟩ : ∃ y,l[u]=y:=⟨_,rfl⟩;have ey1:l[u]?=some y:=by rw [List.getElem?_eq_getElem hu,ey]
    rw [ey] at hul;have hH:=yel y ⟨invC x.kind,e.id⟩ (by omega)
    rw [g1];simp +decide [int,lexD,Ent.row,lnkD,Lnk.row,hli,hli',ee,e1,hu,hu',ey,ey1];refine zae (by rfl) (by rfl) (zob x.kind) (by simp [int]) ?_
    simp +decide [int,lexD,Ent.row,lnkD,Lnk.row,hli,hli',ee,e1,hu,hu',ey,ey1];refine zae (by rfl) (by rfl) hH (by simp [int,Ent.row,Lnk.row]) ?_
    cases hb:zxh y ⟨invC x.kind,e.id⟩ with
    | false=>simp +decide [int]
    | true=>
     simp +decide [int,I64,lexD];exact ⟨⟨by omega,by omega⟩,k+1,hlm,by omega,by omega⟩
  ·have hlm':¬(k:Int)<e.links.length:=by omega
   simp +decide [int,lexD,Ent.row,lnkD,hli,hli',ee,e1,hlm',I64];exact ⟨⟨by omega,by omega⟩,i+1,hli,by omega,by omega⟩
 ·have hli':¬(i:Int)<l.length:=by omega
  simp +decide [int,lexD,hli'];refine zaf mixed (fun i:Nat=>{n:=91,next:=0,slots:=[(0,.d (lexD l)),(7,.d (int i))],own:=[]}) (fun i=>i≤l.length) (fun i=>l.length-i) 0 (by simp) (by simp +decide [int,lexD]) ?_
  intro j hj;by_cases hlj:j<l.length
  ·have hlj':(j:Int)<l.length:=by omega
   obtain ⟨e,ee⟩ : ∃ e,l[j]=e:=⟨_,rfl⟩;have e1:l[j]?=some e:=by rw [List.getElem?_eq_getElem hlj,ee]
   have r2:=ztk l e.id 2;have r4:=ztk l e.id 4;simp +decide [int,lexD,Ent.row,hlj,hlj',ee,e1];refine zae (by rfl) (by rfl) (ztj l e.id 2 hl hk) (by simp [int,lexD]) ?_
   simp +decide [int,ints,lexD,Ent.row,hlj,hlj',ee,e1];refine zae (by rfl) (by rfl) (yab (zp8 l e.id 2) e.id (by omega)) (by simp [int,ints]) ?_
   by_cases m2:e.id∈zp8 l e.id 2
   ·simp +decide [int,m2]
   simp +decide [int,lexD,Ent.row,hlj,hlj',ee,e1,m2];refine zae (by rfl) (by rfl) (ztj l e.id 4 hl hk) (by simp [int,lexD]) ?_
   simp +decide [int,ints,lexD,Ent.row,hlj,hlj',ee,e1,m2];refine zae (by rfl) (by rfl) (yab (zp8 l e.id 4) e.id (by omega)) (by simp [int,ints]) ?_
   by_cases m4:e.id∈zp8 l e.id 4
   ·simp +decide [int,m2,m4]
   ·simp +decide [int,m2,m4,I64,lexD]
    exact ⟨⟨by omega,by omega⟩,j+1,hlj,by omega,by omega⟩
  ·have hlj':¬(j:Int)<l.length:=by omega
   simp +decide [int,lexD,hlj']
structure MainF (l:List Ent):Prop where
 main : ∀ e∈l,e.main≠0→0≤zds l e.main
 ends : ∀ e∈l,(wayG l (l.length+1) e.id).length≤l.length
set_option maxHeartbeats 8000000 in
theorem z6s (l:List Ent) (hl:l.length≤1048576):zej Tryz.prog 93 [lexD l] (fun x=>∃ n,x=int n∧(n=0→MainF l)):=by
 refine zaz mixed Tryz.func93 rfl call_93 ?_
 simp +decide [Tryz.f93,int,lexD]
 refine zaf mixed (fun i:Nat=>{n:=44,next:=0,slots:=[(0,.d (lexD l)),(3,.d (int i))],own:=[]}) (fun i=>i≤l.length∧∀ e∈l.take i,e.main≠0→0≤zds l e.main) (fun i=>l.length-i) 0 (by simp) (by simp +decide [int,lexD]) ?_
 intro i ⟨hi,hp⟩
 by_cases hli:i<l.length
 ·have hli':(i:Int)<l.length:=by omega
  obtain ⟨e,ee⟩ : ∃ e,l[i]=e:=⟨_,rfl⟩;have e1:l[i]?=some e:=by rw [List.getElem?_eq_getElem hli,ee]
  have hsn:=zao hli;rw [ee] at hsn;have hgo:(e.main≠0→0≤zds l e.main)→∀ x∈l.take (i+1),x.main≠0→0≤zds l x.main:=by
   intro h x hx;rw [hsn] at hx;rcases List.mem_append.1 hx with h' | h'
   ·exact hp x h'
   ·rw [List.mem_singleton] at h';rw [h'];exact h
  by_cases hm:e.main=0
  ·have hg:=hgo (fun h=>absurd hm h)
   simp +decide [int,lexD,Ent.row,hli,hli',ee,e1,hm,I64];exact ⟨⟨by omega,by omega⟩,i+1,⟨hli,hg⟩,by omega,by omega⟩
  ·simp +decide [int,lexD,Ent.row,hli,hli',ee,e1,hm,I64]
   refine zaj.pure (by rfl) (zpo l e.main (by omega)) (by simp [int,lexD]) ?_
   by_cases c1:zds l e.main<0
   ·simp +decide [int,c1]
   ·have hg:=hgo (fun _=>by omega)
    simp +decide [int,c1,I64,lexD];exact ⟨⟨by omega,by omega⟩,i+1,⟨hli,hg⟩,by omega,by omega⟩
 ·have:i=l.length:=by omega
  subst this;rw [List.take_length] at hp;simp +decide [int,lexD];refine zaf mixed (fun i:Nat=>{n:=44,next:=0,slots:=[(0,.d (lexD l)),(4,.d (int i))],own:=[]}) (fun i=>i≤l.length∧∀ e∈l.take i,(wayG l (l.length+1) e.id).length≤l.length) (fun i=>l.length-i) 0 (by simp) (by simp +decide [int,lexD]) ?_
  intro j ⟨hj,hq⟩;by_cases hlj:j<l.length
  ·have hlj':(j:Int)<l.length:=by omega
   obtain ⟨e,ee⟩ : ∃ e,l[j]=e:=⟨_,rfl⟩;have e1:l[j]?=some e:=by rw [List.getElem?_eq_getElem hlj,ee]
   have hsn:=zao hlj;rw [ee] at hsn;simp +decide [int,lexD,Ent.row,hlj,hlj',ee,e1,I64];refine zaj.pure (by rfl) (yed l e.id (by omega)) (by simp [int,lexD]) ?_
   by_cases c1:l.length<(wayG l (l.length+1) e.id).length
   ·have c1':(l.length:Int)<(wayG l (l.length+1) e.id).length:=by omega
    simp +decide [int,ints,lexD,c1,c1']
   ·have c1':¬(l.length:Int)<(wayG l (l.length+1) e.id).length:=by omega
    simp +decide [int,ints,lexD,c1,c1',I64];refine ⟨⟨by omega,by omega⟩,j+1,⟨hlj,fun x hx=>?_⟩,by omega,by omega⟩
    rw [hsn] at hx;rcases List.mem_append.1 hx with h' | h'
    ·exact hq x h'
    ·rw [List.mem_singleton] at h';rw [h'];omega
  ·have:j=l.length:=by omega
   subst this;rw [List.take_length] at hq;simp +decide [int,lexD];exact ⟨hp,hq⟩
end Go.V
namespace Go.V
open Go Go.Proofs
theorem z6t {s:ByteArray} (h:zki s=true):0<s.size∧s.size≤32:=by
 unfold zki at h
 simp only [Bool.and_eq_true,decide_eq_true_eq] at h
 omega
structure UnitF (u:Grap):Prop where
 pos:0<u.graph.size
 size:u.graph.size≤32
 segs:1≤u.segs.length
 few:u.segs.length≤3
theorem z0w (s:ByteArray) (hs:s.size≤1048576):zej Tryz.prog 113 [.str s] (fun x=>∃ b,x = .bool b∧(b=true→0<s.size∧s.size≤32)):=by
 refine zaz mixed Tryz.func113 rfl call_113 ?_
 simp +decide [Tryz.f113,int]
 refine zaf mixed (fun k:Nat=>{n:=16,next:=0,slots:=[(0,.d (.str s)),(3,.d (int k))],own:=[]})
  (fun k=>k≤s.size) (fun k=>s.size-k) 0 (by simp) (by simp +decide [int]) ?_
 intro k hk
 by_cases hlt:k<s.size
 ·have hlt':(k:Int)<s.size:=by omega
  have e1:byteAt s (k:Int)=(zaq s k:Int):=zc6 s k
  by_cases b1:(zaq s k:Int)=32
  ·simp +decide [int,hlt,hlt',e1,b1]
  ·simp +decide [int,hlt,hlt',e1,b1,I64]
   exact ⟨⟨by omega,by omega⟩,k+1,hlt,by omega,by omega⟩
 ·have hlt':¬(k:Int)<s.size:=by omega
  simp +decide [int,hlt'];refine zaj.pure (by rfl) (zp7 s hs) (by simp) ?_
  simp +decide [int];cases h:zki s with
  | false=>exact .inl rfl
  | true=>exact .inr ⟨rfl,z6t h⟩
set_option maxHeartbeats 4000000 in
theorem z6u (inv:List Phon) (o:Orth) (ho:OrthC o) (i:Nat) (hi:i<o.units.length) (hl:inv.length<2^40):zej Tryz.prog 112 [.agg [invD inv],.agg o.cells,int i] (fun x=>∃ n,x=int n∧(n=0→∀ u,o.units[i]?=some u→UnitF u)):=by
 refine zaz mixed Tryz.func112 rfl call_112 ?_
 have hi':(i:Int)<o.units.length:=by omega
 have hu:=ho.units o.units[i] (List.getElem_mem hi)
 have hfew:=ho.few.1
 obtain ⟨u,eu⟩ : ∃ u,o.units[i]=u:=⟨_,rfl⟩
 have eu1:o.units[i]?=some u:=by rw [List.getElem?_eq_getElem hi,eu]
 rw [eu] at hu
 rw [eu1]
 simp +decide [Tryz.f112,int,Orth.cells,zbd,hi,hi',eu,eu1,Grap.row]
 refine zaj.some (by rfl) (z0w u.graph hu.1) ?_
 rintro r ⟨b,rfl,hpos⟩
 cases b with
 | false=>simp +decide [int]
 | true=>
  have hpos:=hpos rfl;simp +decide [int];refine zaf mixed (fun k:Nat=>{n:=67,next:=3,slots:=[(2,.d (int i)),(3,.bp 0 0),(4,.bp 1 0),(7,.bp 2 0),(8,.d (int k))],own:=[(0,.box 44 [.d (invD inv)]),(1,.box 48 (o.cells.map .d)),(2,.box 98 [.d (.str u.graph),.d (ints u.segs)])]})
   (fun k=>k≤i) (fun k=>i-k) 0 (by simp) (by simp +decide [int,ints,Orth.cells,zbd,Grap.row]) ?_
  intro k hk;by_cases hlt:k<i
  ·have hlt':(k:Int)<i:=by omega
   have hku:k<o.units.length:=by omega
   have hku':(k:Int)<o.units.length:=by omega
   obtain ⟨x,ex⟩ : ∃ x,o.units[k]=x:=⟨_,rfl⟩;have ex1:o.units[k]?=some x:=by rw [List.getElem?_eq_getElem hku,ex]
   by_cases b1:x.graph=u.graph
   ·simp +decide [int,ints,Orth.cells,zbd,Grap.row,hlt,hlt',hku,hku',ex,ex1,b1]
   ·simp +decide [int,ints,Orth.cells,zbd,Grap.row,hlt,hlt',hku,hku',ex,ex1,b1,I64]
    exact fun _=>⟨⟨by omega,by omega⟩,k+1,hlt,by omega,by omega⟩
  ·have hlt':¬(k:Int)<i:=by omega
   by_cases c1:(u.segs.length:Int)<1
   ·simp +decide [int,ints,Orth.cells,zbd,Grap.row,hlt,hlt',c1]
   ·by_cases c2:(3:Int)<u.segs.length
    ·simp +decide [int,ints,Orth.cells,zbd,Grap.row,hlt,hlt',c1,c2]
    ·simp +decide [int,ints,Orth.cells,zbd,Grap.row,hlt,hlt',c1,c2]
     refine zaf mixed (fun m:Nat=>{n:=67,next:=3,slots:=[(2,.d (int i)),(3,.bp 0 0),(4,.bp 1 0),(7,.bp 2 0),(9,.d (int m))],own:=[(0,.box 44 [.d (invD inv)]),(1,.box 48 (o.cells.map .d)),(2,.box 98 [.d (.str u.graph),.d (ints u.segs)])]})
      (fun m=>m≤u.segs.length) (fun m=>u.segs.length-m) 0 (by simp) (by simp +decide [int,ints,Orth.cells,zbd,Grap.row]) ?_
     intro m hm;by_cases hlm:m<u.segs.length
     ·have hlm':(m:Int)<u.segs.length:=by omega
      obtain ⟨y,ey⟩ : ∃ y,u.segs[m]=y:=⟨_,rfl⟩;have ey1:u.segs[m]?=some y:=by rw [List.getElem?_eq_getElem hlm,ey]
      by_cases b1:y<1
      ·simp +decide [int,ints,hlm,hlm',ey,ey1,b1]
      ·by_cases b2:(inv.length:Int)<y
       ·simp +decide [int,ints,invD,hlm,hlm',ey,ey1,b1,b2]
       ·simp +decide [int,ints,invD,hlm,hlm',ey,ey1,b1,b2,I64]
        exact ⟨⟨by omega,by omega⟩,m+1,hlm,by omega,by omega,by simp [Orth.cells,Sym.los,Sym.lo]⟩
     ·have hlm':¬(m:Int)<u.segs.length:=by omega
      simp +decide [int,ints,hlm'];exact ⟨hpos.1,hpos.2,by omega,by omega⟩
set_option maxHeartbeats 8000000 in
theorem z0x (inv:List Phon) (o:Orth) (ho:OrthC o) (hl:inv.length<2^40):zej Tryz.prog 88 [.agg [invD inv],.agg o.cells] (fun x=>∃ n,x=int n∧(n=0→∀ u∈o.units,UnitF u)):=by
 have hfew:=ho.few
 refine zaz mixed Tryz.func88 rfl call_88 ?_
 simp +decide [Tryz.f88,int,Orth.cells]
 refine zaj.pure (by rfl) (z6g o.name (by have:=ho.name;omega)) (by simp) ?_
 cases hnm:nameP o.name with
 | false=>simp +decide [int]
 | true=>
  by_cases h0:(100:Int)<o.units.length
  ·simp +decide [int,zbd,h0]
  simp +decide [int,zbd,h0];refine zaf mixed (fun k:Nat=>{n:=79,next:=2,slots:=[(2,.bp 0 0),(3,.bp 1 0),(5,.d (int k))],own:=[(0,.box 44 [.d (invD inv)]),(1,.box 48 (o.cells.map .d))]})
   (fun k=>k≤o.units.length∧∀ u∈o.units.take k,UnitF u) (fun k=>o.units.length-k) 0 (by simp) (by simp +decide [int,zbd,Orth.cells]) ?_
  intro k ⟨hk,hgp⟩;by_cases hlt:k<o.units.length
  ·have hlt':(k:Int)<o.units.length:=by omega
   simp +decide [int,zbd,hlt,hlt',Orth.cells];refine zaj.some (by rfl) (z6u inv o ho k hlt hl) ?_
   rintro r ⟨e,rfl,hpos⟩
   by_cases he:e=0
   ·subst he
    simp +decide [int,I64];exact ⟨⟨by omega,by omega⟩,k+1,⟨hlt,fun u hu=>by
     rw [zao hlt] at hu;rcases List.mem_append.1 hu with h | h
     ·exact hgp u h
     ·rw [List.mem_singleton] at h
      exact hpos rfl u (by rw [List.getElem?_eq_getElem hlt,h])⟩,by omega,by simp [Orth.cells,Sym.los,Sym.lo,zbd]⟩
   ·simp +decide [int,he]
  ·have hlt':¬(k:Int)<o.units.length:=by omega
   have:k=o.units.length:=by omega
   subst this;rw [List.take_length] at hgp;by_cases h1:(100:Int)<o.letters.length
   ·simp +decide [int,zbd,zdy,hlt',h1,Orth.cells]
   simp +decide [int,zbd,zdy,hlt',h1,Orth.cells];refine zaf mixed (fun x:Nat×List ByteArray=>{n:=79,next:=3,slots:=[(2,.bp 0 0),(3,.bp 1 0),(7,.ar 2),(8,.d (int x.1))],own:=[(0,.box 44 [.d (invD inv)]),(1,.box 48 (o.cells.map .d)),(2,.arr 9 1 (x.2.map fun s=>[.str s]))],moved:=[2]})
    (fun x=>x.1≤o.letters.length∧x.2.length≤x.1*1048576) (fun x=>o.letters.length-x.1) (0,[]) (by simp) (by simp +decide [int,zbd,zdy,Orth.cells]) ?_
   rintro ⟨i,seen⟩ ⟨hi,hs⟩
   simp only at hi hs
   by_cases hli:i<o.letters.length
   ·have hli':(i:Int)<o.letters.length:=by omega
    have hL:=ho.letters o.letters[i] (List.getElem_mem hli);obtain ⟨L,eL⟩ : ∃ L,o.letters[i]=L:=⟨_,rfl⟩;have eL1:o.letters[i]?=some L:=by rw [List.getElem?_eq_getElem hli,eL]
    rw [eL] at hL;by_cases hz:L.length=0
    ·simp +decide [int,zbd,zdy,Orth.cells,hli,hli',eL,eL1,hz]
    have hz':¬(L.length:Int)=0:=by omega
    simp +decide [int,zbd,zdy,Orth.cells,hli,hli',eL,eL1,hz,hz'];refine zaf mixed (fun x:Nat×List ByteArray=>{n:=79,next:=3,slots:=[(2,.bp 0 0),(3,.bp 1 0),(7,.ar 2),(8,.d (int i)),(9,.d (int x.1))],own:=[(0,.box 44 [.d (invD inv)]),(1,.box 48 (o.cells.map .d)),(2,.arr 9 1 (x.2.map fun s=>[.str s]))],moved:=[2]})
     (fun x=>x.1≤L.length∧x.2.length≤i*1048576+x.1) (fun x=>L.length-x.1) (0,seen) (by simpa using hs) (by simp +decide [int,zbd,zdy,Orth.cells]) ?_
    rintro ⟨m,sn⟩ ⟨hm,hs2⟩
    simp only at hm hs2
    by_cases hlm:m<L.length
    ·have hlm':(m:Int)<L.length:=by omega
     have hS:=hL.2 L[m] (List.getElem_mem hlm);obtain ⟨y,ey⟩ : ∃ y,L[m]=y:=⟨_,rfl⟩;have ey1:L[m]?=some y:=by rw [List.getElem?_eq_getElem hlm,ey]
     rw [ey] at hS;simp +decide [int,zbd,zdy,Orth.cells,hli,hli',eL,eL1,hlm,hlm',ey,ey1];refine zaj.some (by rfl) (z6f y hS) ?_
     rintro r ⟨b,rfl⟩
     cases b with
     | false=>simp +decide [int]
     | true=>
      simp +decide [int];refine zaj.some (by rfl) (yeg sn y (by omega)) ?_
      rintro r ⟨b,rfl⟩
      cases b with
      | true=>simp +decide [int]
      | false=>
       simp +decide [int,I64];exact ⟨by omega,by unfold maxLen;omega,⟨by omega,by omega⟩,m+1,sn++[y],⟨hlm,by rw [List.length_append];simp;omega⟩,by omega,by omega,by simp⟩
    ·have hlm':¬(m:Int)<L.length:=by omega
     simp +decide [int,zbd,zdy,Orth.cells,hli,hli',eL,eL1,hlm',I64];exact ⟨⟨by omega,by omega⟩,i+1,sn,⟨hli,by omega⟩,by omega,by omega,rfl⟩
   ·have hli':¬(i:Int)<o.letters.length:=by omega
    simp +decide [int,zbd,zdy,hli',Orth.cells];exact hgp
end Go.V
namespace Go.V
open Go Go.Proofs
structure SmallL (l:List Ent):Prop where
 few:l.length≤5
 forms : ∀ e∈l,e.form.length≤3∧e.alts.length≤1∧∀ w∈e.alts,w.length≤3
set_option maxHeartbeats 8000000 in
theorem z6v (l:List Ent) (hl:l.length≤1048576):zej Tryz.prog 67 [lexD l] (fun x=>∃ b,x = .bool b∧(b=true→SmallL l)):=by
 refine zaz mixed Tryz.func67 rfl call_67 ?_
 by_cases h0:(5:Int)<l.length
 ·simp +decide [Tryz.f67,int,lexD,h0]
 simp +decide [Tryz.f67,int,lexD,h0]
 refine zaf mixed (fun i:Nat=>{n:=50,next:=0,slots:=[(0,.d (lexD l)),(3,.d (int i))],own:=[]}) (fun i=>i≤l.length∧∀ e∈l.take i,e.form.length≤3∧e.alts.length≤1∧∀ w∈e.alts,w.length≤3) (fun i=>l.length-i) 0 (by simp) (by simp +decide [int,lexD]) ?_
 intro i ⟨hi,hp⟩
 by_cases hli:i<l.length
 ·have hli':(i:Int)<l.length:=by omega
  obtain ⟨e,ee⟩ : ∃ e,l[i]=e:=⟨_,rfl⟩;have e1:l[i]?=some e:=by rw [List.getElem?_eq_getElem hli,ee]
  have hsn:=zao hli;rw [ee] at hsn;by_cases c1:(3:Int)<e.form.length
  ·simp +decide [int,ints,lexD,Ent.row,hli,hli',ee,e1,c1]
  by_cases c2:(1:Int)<e.alts.length
  ·simp +decide [int,ints,lexD,zbh,Ent.row,hli,hli',ee,e1,c1,c2]
  simp +decide [int,ints,lexD,zbh,Ent.row,hli,hli',ee,e1,c1,c2];refine zaf mixed (fun k:Nat=>{n:=50,next:=0,slots:=[(0,.d (lexD l)),(3,.d (int i)),(4,.d (int k))],own:=[]}) (fun k=>k≤e.alts.length∧∀ w∈e.alts.take k,w.length≤3) (fun k=>e.alts.length-k) 0 (by simp) (by simp +decide [int,lexD]) ?_
  intro k ⟨hk,hq⟩;by_cases hlk:k<e.alts.length
  ·have hlk':(k:Int)<e.alts.length:=by omega
   obtain ⟨w,ew⟩ : ∃ w,e.alts[k]=w:=⟨_,rfl⟩;have ew1:e.alts[k]?=some w:=by rw [List.getElem?_eq_getElem hlk,ew]
   have hsk:=zao hlk;rw [ew] at hsk;by_cases c3:(3:Int)<w.length
   ·simp +decide [int,ints,lexD,zbh,Ent.row,hli,hli',ee,e1,hlk,hlk',ew,ew1,c3]
   ·simp +decide [int,ints,lexD,zbh,Ent.row,hli,hli',ee,e1,hlk,hlk',ew,ew1,c3,I64]
    refine ⟨⟨by omega,by omega⟩,k+1,⟨hlk,fun x hx=>?_⟩,by omega,by omega⟩
    rw [hsk] at hx;rcases List.mem_append.1 hx with h' | h'
    ·exact hq x h'
    ·rw [List.mem_singleton] at h';rw [h'];omega
  ·have:k=e.alts.length:=by omega
   subst this;rw [List.take_length] at hq;simp +decide [int,ints,lexD,zbh,Ent.row,hli,hli',ee,e1,I64];refine ⟨⟨by omega,by omega⟩,i+1,⟨hli,fun x hx=>?_⟩,by omega,by omega⟩
   rw [hsn] at hx;rcases List.mem_append.1 hx with h' | h'
   ·exact hp x h'
   ·rw [List.mem_singleton] at h';rw [h'];exact ⟨by omega,by omega,hq⟩
 ·have:i=l.length:=by omega
  subst this;rw [List.take_length] at hp;simp +decide [int,lexD];exact ⟨by omega,hp⟩
structure LangC (g:Lang):Prop where
 inv:InvC g.inv
 orth:OrthC g.orth
 rules:RulesC g.rules
 steps:g.net.steps.length≤1048576
 final:g.net.final.length≤1048576
 lex:LexC g.lex
structure RightF (g:Lang):Prop where
 rules : ∀ r∈g.rules,RuleL r
 dsts : ∀ r∈g.rules,DstF g.inv r
 net:NetF g.net
 lex:LexF g.inv g.lex
 main:MainF g.lex
 units1 : ∀ u∈g.orth.units,UnitF u
theorem RightF.graphs {g:Lang} (h:RightF g) : ∀ u∈g.orth.units,0<u.graph.size:=fun u hu=>(h.units1 u hu).pos
set_option maxHeartbeats 8000000 in
theorem z6w (g:Lang) (hg:LangC g) (h5:g.lex.length≤5):zej Tryz.prog 68 [g.d] (fun x=>∃ n,x=int n∧(n=0→RightF g)):=by
 have hil:=hg.inv.1
 refine zaz mixed Tryz.func68 rfl call_68 ?_
 simp +decide [Tryz.f68,int,Lang.d]
 refine zaj.some (by rfl) (z6h g.inv hg.inv) ?_
 rintro r ⟨n,rfl⟩
 by_cases z1:n=0
 case neg=>simp +decide [int,z1]
 simp +decide [int,z1]
 refine zaj.some (by rfl) (z0x g.inv g.orth hg.orth (by omega)) ?_
 rintro r ⟨n,rfl,hG⟩
 by_cases z2:n=0
 case neg=>simp +decide [int,z2]
 have hG:=hG z2
 simp +decide [int,z2]
 refine zaj.some (by rfl) (z6k g hg.rules) ?_
 rintro r ⟨n,rfl,hR⟩
 by_cases z3:n=0
 case neg=>simp +decide [int,z3]
 have hR:=hR z3
 simp +decide [int,z3]
 refine zaj.some (by rfl) (z6l g.net hg.steps hg.final) ?_
 rintro r ⟨n,rfl,hN⟩
 by_cases z4:n=0
 case neg=>simp +decide [int,z4]
 have hN:=hN z4
 simp +decide [int,z4]
 refine zaj.some (by rfl) (z6q g.inv g.lex hg.lex) ?_
 rintro r ⟨n,rfl,hL⟩
 by_cases z5:n=0
 case neg=>simp +decide [int,z5]
 have hL:=hL z5
 simp +decide [int,z5]
 refine zaj.some (by rfl) (z6r g.lex h5 fun e he=>(hL.each e he).links) ?_
 rintro r ⟨n,rfl⟩
 by_cases z6:n=0
 case neg=>simp +decide [int,z6]
 simp +decide [int,z6]
 refine zaj.some (by rfl) (z6s g.lex (by omega)) ?_
 rintro r ⟨n,rfl,hM⟩
 simp +decide [int]
 exact fun h=>⟨fun r hr=>(hR r hr).1,fun r hr=>(hR r hr).2,hN,hL,hM h,hG⟩
structure LightF (g:Lang):Prop extends RightF g where
 small:SmallL g.lex
 segs:g.inv.length≤8
 units:g.orth.units.length≤10
 few:g.rules.length≤2
 states:g.net.states≤3
 steps:g.net.steps.length≤6
 final:g.net.final.length≤3
set_option maxHeartbeats 16000000 in
theorem z6x (g:Lang) (hg:LangC g):zej Tryz.prog 48 [g.d] (fun x=>∃ b,x = .bool b∧(b=true→LightF g)):=by
 have hlf:=hg.lex.few
 have hrf:=hg.rules.few
 refine zaz mixed Tryz.func48 rfl call_48 ?_
 by_cases c1:(8:Int)<g.inv.length
 ·simp +decide [Tryz.f48,int,Lang.d,invD,c1]
 by_cases c2:(10:Int)<g.orth.units.length
 ·simp +decide [Tryz.f48,int,Lang.d,invD,zbd,c1,c2]
 by_cases c3:(2:Int)<g.rules.length
 ·simp +decide [Tryz.f48,int,Lang.d,invD,zbd,zcb,c1,c2,c3]
 by_cases c4:3<g.net.states
 ·simp +decide [Tryz.f48,int,Lang.d,invD,zbd,zcb,c1,c2,c3,c4]
 by_cases c5:(6:Int)<g.net.steps.length
 ·simp +decide [Tryz.f48,int,Lang.d,invD,zbd,zcb,stepsD,c1,c2,c3,c4,c5]
 by_cases c6:(3:Int)<g.net.final.length
 ·simp +decide [Tryz.f48,int,ints,Lang.d,invD,zbd,zcb,stepsD,c1,c2,c3,c4,c5,c6]
 simp +decide [Tryz.f48,int,ints,Lang.d,invD,zbd,zcb,stepsD,c1,c2,c3,c4,c5,c6]
 refine zaj.some (by rfl) (z6v g.lex hlf) ?_
 rintro r ⟨b,rfl,hS⟩
 cases b with
 | false=>simp +decide [int]
 | true=>
  have hS:=hS rfl;simp +decide [int];refine zaf mixed (fun k:Nat=>{n:=66,next:=1,slots:=[(1,.bp 0 0),(3,.d (int k))],own:=[(0,.box 56 (zal g.d))]})
   (fun k=>k≤g.rules.length) (fun k=>g.rules.length-k) 0 (by simp) (by simp +decide [int,ints,invD,zbd,zcb,stepsD,zal,Lang.d]) ?_
  intro k hk;by_cases hlt:k<g.rules.length
  ·have hlt':(k:Int)<g.rules.length:=by omega
   obtain ⟨r,er⟩ : ∃ r,g.rules[k]=r:=⟨_,rfl⟩;have er1:g.rules[k]?=some r:=by rw [List.getElem?_eq_getElem hlt,er]
   by_cases d1:(8:Int)<r.src.length
   ·simp +decide [int,ints,zcb,zal,Lang.d,hlt,hlt',er,er1,Rule.row,d1]
   ·simp +decide [int,ints,zcb,zal,Lang.d,hlt,hlt',er,er1,Rule.row,d1,I64]
    exact ⟨⟨by omega,by omega⟩,k+1,hlt,by omega,by omega⟩
  ·have hlt':¬(k:Int)<g.rules.length:=by omega
   simp +decide [int,zcb,zal,Lang.d,hlt'];refine zaj.some (by rfl) (z6w g hg hS.few) ?_
   rintro r ⟨n,rfl,hF⟩
   simp +decide [int];by_cases z:n=0
   ·exact .inr ⟨z,hF z,hS,by omega,by omega,by omega,by omega,by omega,by omega⟩
   ·exact .inl z
theorem LightF.net' {g:Lang} (h:LightF g):NetL g.net:=
 {lo:=h.net.lo,hi:=h.states,steps:=fun s hs=>⟨(h.net.steps s hs).1,(h.net.steps s hs).2.1,(h.net.steps s hs).2.2.1⟩,final:=h.net.final,few:=by have:=h.steps;omega,few2:=by have:=h.final;omega}
theorem LightF.yae {g:Lang} (h:LightF g) (hc:LangC g):LangR g:=by
 have hs:=h.small
 have hform : ∀ e∈g.lex,∀ w∈e.forms,WordF g.inv w:=by
  intro e he w hw;have hE:=h.lex.each e he;rcases List.mem_cons.1 hw with e1 | e1
  ·rw [e1];exact hE.form
  ·exact hE.alts w e1
 refine {lex:=⟨by have:=hs.few;omega,fun e he=>by have:=(hs.forms e he).2.1;omega,fun e he w hw=>by have:=(hform e he w hw).len;omega,fun e he=>by have:=(hc.lex.each e he).senses.1;omega⟩,inv:=by have:=h.segs;omega,rules:=⟨fun r hr=>(h.rules r hr).toRuleOk,by have:=h.few;omega⟩,net:=h.net'.ok,light:=h.net',rulesL:=h.rules,nz:=fun e he w hw x hx=>?_}
 have:=(hform e he w hw).segs x hx
 simp only [zdr,Bool.and_eq_true,decide_eq_true_eq] at this
 omega
end Go.V
namespace Go.V
open Go Go.Proofs
theorem lex_lt {l:List Ent} (h : ∀ k (h:k+1<l.length),l[k].id<l[k+1].id) : ∀ (d i:Nat) (hj:i+d+1<l.length),l[i].id<l[i+d+1].id
 | 0,i,hj=>h i hj
 | d+1,i,hj=>by
  have h1:=lex_lt h d i (by omega)
  have h2:=h (i+d+1) hj;exact Int.lt_trans h1 h2
theorem zu7 {l:List Ent} (h : ∀ k (h:k+1<l.length),l[k].id<l[k+1].id) {e:Ent} (he:e∈l):getE l e.id=(e,true):=by
 obtain ⟨i,hi,ei⟩:=List.mem_iff_getElem.1 he
 unfold getE
 have:l.find? (fun x=>decide (x.id=e.id))=some e:=by
  rw [List.find?_eq_some_iff_getElem];refine ⟨by simp,i,hi,ei,fun j hj=>?_⟩
  have:=lex_lt h (i-j-1) j (by omega)
  have e2:j+(i-j-1)+1=i:=by omega
  simp only [e2] at this;rw [ei] at this;simp
  omega
 rw [this]
theorem zxi {inv:List Phon} {l:List Ent} (hE : ∀ e∈l,EntF inv e) (hM : ∀ e∈l,e.main≠0→0≤zds l e.main) : ∀ (f:Nat) (id:Int),(wayG l f id).length<f→(getE l id).2=true→senW l (wayG l f id)≠[]
 | 0,id,h,_=>by omega
 | f+1,id,h,hg=>by
  have hmem:=zux hg;unfold wayG at h ⊢;rw [if_pos hg] at h ⊢;unfold senW;by_cases hs:(getE l id).1.senses≠[]
  ·rw [if_pos hs];exact hs
  ·rw [if_neg hs]
   have hm:(getE l id).1.main≠0:=by
    rcases (hE _ hmem).senses with h' | h'
    ·exact absurd h' hs
    ·exact h'
   rw [if_neg hm] at h ⊢;refine zxi hE hM f _ (by simpa using h) ?_
   rcases zdd l (getE l id).1.main with ⟨h1,_⟩ | ⟨j,hj,_,h2⟩
   ·exact absurd (hM _ hmem hm) (by omega)
   ·rw [h2]
theorem LightF.senses {g:Lang} (h:LightF g) {e:Ent} (he:e∈g.lex):zde g.lex e.id≠[]:=by
 unfold zde
 rw [zuz]
 refine zxi h.lex.each h.main.main _ _ ?_ (by rw [zu7 h.lex.up he])
 have:=h.main.ends e he
 omega
section
variable (g:Lang) (w:List Int)
def zo3:Nat:=if zhi g.rules=true then 24 else w.length
def licB (b:List Prt):Bool:=decide (w.length≤(zbt g.lex b).length)&&licE g w b
def furF:Nat→List Prt→List (List Prt)
 | 0,_=>[]
 | f+1,a=>g.lex.flatMap fun e=>if e.cls∈z0o g.net (za5 g.lex a) 20 then ((List.range e.forms.length).flatMap fun (alt:Nat)=>
   if zo3 g w<(zbt g.lex (a++[⟨e.id,alt,0⟩])).length then [] else (if licB g w (a++[⟨e.id,alt,0⟩])=true then [a++[⟨e.id,alt,0⟩]] else [])++furF f (a++[⟨e.id,alt,0⟩])) else []
def zhp (base:List Int):Bool:=decide (zgu g.inv g.rules base≠[])&&decide (zgu g.inv g.rules base=w)
def walkT:Nat→List Prt→Nat→List Int→List (List Prt×List Int)
 | 0,_,_,_=>[]
 | f+1,a,s,base=>g.lex.flatMap fun e=>if za2 g.net.steps s e.cls≠0 then ((List.range e.forms.length).flatMap fun (alt:Nat)=>
   if zo3 g w<(base++e.forms[alt]?.getD []).length then [] else
   (if za2 g.net.steps s e.cls &&& zb6 g.net.final≠0∧w.length≤(base++e.forms[alt]?.getD []).length∧zhp g w (base++e.forms[alt]?.getD [])=true then [(a++[⟨e.id,alt,0⟩],base++e.forms[alt]?.getD [])] else []) ++
    walkT f (a++[⟨e.id,alt,0⟩]) (za2 g.net.steps s e.cls) (base++e.forms[alt]?.getD [])) else []
end
theorem ze1 {α β:Type} {f h:α→List β} : ∀ {l:List α},(∀ x∈l,f x=h x)→l.flatMap f=l.flatMap h
 | [],_=>rfl
 | a::l,e=>by
  rw [List.flatMap_cons,List.flatMap_cons,e a (List.mem_cons_self ..),ze1 fun x hx=>e x (List.mem_cons_of_mem _ hx)]
theorem zit {α β:Type} {l:List α} {f:α→List β} (h : ∀ x∈l,f x=[]):l.flatMap f=[]:=by
 rw [List.flatMap_eq_nil_iff];exact h
theorem ztl {g:Lang} {w:List Int} (hg:LightF g) : ∀ (f:Nat) (a:List Prt) (s:Nat) (base:List Int),s<2^g.net.states.toNat→Dead g.net s→walkT g w f a s base=[]
 | 0,_,_,_,_,_=>rfl
 | f+1,a,s,base,hs,hd=>by
  unfold walkT;refine zit fun e he=>?_
  split
  ·refine zit fun alt _=>?_
   have hc:=(hg.lex.each e he).cls;have h1:=z6d hg.net' hs hd hc.1;have hlt:=zs7 hg.net' s e.cls;have h2:=zta hg.net' hlt h1;split
   ·rfl
   ·rw [if_neg (fun h=>h.1 h2),ztl hg f _ _ _ hlt h1];rfl
  ·rfl
theorem yaf (n:Nett):Dead n 0:=by
 rw [zu1];intro q _ h;rw [Nat.zero_testBit] at h;cases h
theorem ztm {g:Lang} (hg:LightF g) (cs:List Int) {c:Int} (h1:1≤c) (h2:c≤20):c∈z0o g.net cs 20↔¬ Dead g.net (za2 g.net.steps (runS g.net.steps cs) c):=by
 unfold z0o Dead
 rw [List.mem_filter,List.mem_map]
 constructor
 ·rintro ⟨_,h⟩ h';rw [h'] at h;cases h
 ·intro h
  refine ⟨⟨(c-1).toNat,List.mem_range.2 (by omega),by omega⟩,?_⟩
  cases hb:z0n g.net.states.toNat (za2 g.net.steps (runS g.net.steps cs) c) (z9s g.net) with
  | true=>rfl
  | false=>exact absurd hb h
theorem ziu {g:Lang} (hg:LightF g) {e:Ent} (he:e∈g.lex) {alt:Nat} (ha:alt<e.forms.length):zhn g.lex ⟨e.id,alt,0⟩=(e,e.forms[alt]?.getD [],true):=by
 have h:=zu7 hg.lex.up he
 unfold zhn
 simp only
 rw [if_pos ⟨by rw [h],by omega,by rw [h];show (alt:Int)<e.forms.length;omega⟩,h]
 rfl
theorem zxj {g:Lang} (hg:LightF g) {e:Ent} (he:e∈g.lex) {alt:Nat} (ha:alt<e.forms.length):zlu g.lex ⟨e.id,alt,0⟩=0:=by
 have hs:0<(zde g.lex e.id).length:=List.length_pos_iff.2 (hg.senses he)
 unfold zlu
 rw [ziu hg he ha,zu7 hg.lex.up he]
 simp only [Bool.true_eq_false,if_false]
 rw [if_neg]
 rintro (h | h) <;> omega
theorem zxk {g:Lang} (hg:LightF g) {e:Ent} (he:e∈g.lex) {alt:Nat} (ha:alt<e.forms.length) (a:List Prt):za5 g.lex (a++[⟨e.id,alt,0⟩])=za5 g.lex a++[e.cls]:=by
 unfold za5
 rw [List.flatMap_append,List.flatMap_singleton,ziu hg he ha]
 rfl
theorem yag {g:Lang} (hg:LightF g) {e:Ent} (he:e∈g.lex) {alt:Nat} (ha:alt<e.forms.length) (a:List Prt):zbt g.lex (a++[⟨e.id,alt,0⟩])=zbt g.lex a++e.forms[alt]?.getD []:=by
 unfold zbt
 rw [List.flatMap_append,List.flatMap_singleton,ziu hg he ha]
 rfl
theorem zhq {l:List Ent} : ∀ {ps:List Prt},(∀ p∈ps,zlu l p=0)→zid l ps=0
 | [],_=>rfl
 | p::ps,h=>by
  unfold zid;rw [if_pos (h p (List.mem_cons_self ..))];exact zhq fun x hx=>h x (List.mem_cons_of_mem _ hx)
theorem yem {g:Lang} {w:List Int} {b:List Prt} (hv : ∀ p∈b,zlu g.lex p=0) (h1:1≤b.length) (h4:b.length≤4) (hb:(zbt g.lex b).length≤24) :
  licE g w b=(decide (runS g.net.steps (za5 g.lex b) &&& zb6 g.net.final≠0)&&zhp g w (zbt g.lex b)):=by
 have hR:zgv g b=if zhm g.net (za5 g.lex b)=false then 21 else 0:=by
  unfold zgv;rw [if_neg (by omega),if_neg (by omega),if_neg (by rw [zhq hv];simp),if_neg (show ¬ 24<(zbt g.lex b).length by omega)]
 unfold licE zgj zhp
 rw [hR]
 have hacc:zhm g.net (za5 g.lex b)=decide (runS g.net.steps (za5 g.lex b) &&& zb6 g.net.final≠0):=rfl
 rw [← hacc]
 cases zhm g.net (za5 g.lex b) with
 | false=>simp
 | true=>
  simp only [Bool.true_eq_false,if_false,ne_eq,not_true_eq_false,Bool.true_and];by_cases hl:zgu g.inv g.rules (zbt g.lex b)=[]
  ·simp [hl]
  ·have hl':¬(zgu g.inv g.rules (zbt g.lex b)).length=0:=fun h=>hl (List.length_eq_zero_iff.mp h)
   simp [hl,hl']
theorem yen (n:Nett) (cs:List Int) (c:Int):runS n.steps (cs++[c])=za2 n.steps (runS n.steps cs) c:=by unfold runS;rw [List.foldl_append];rfl
theorem z3w {g:Lang} {w:List Int} (hg:LightF g) (hw:w.length≤24) : ∀ (f:Nat) (a:List Prt),a.length+f=4→(∀ p∈a,zlu g.lex p=0) →
  walkT g w f a (runS g.net.steps (za5 g.lex a)) (zbt g.lex a)=(furF g w f a).map fun b=>(b,zbt g.lex b)
 | 0,_,_,_=>rfl
 | f+1,a,hl,hv=>by
  have hm:zo3 g w≤24:=by unfold zo3;split <;> omega
  unfold walkT furF;rw [List.map_flatMap];refine ze1 fun e he=>?_
  have hc:=(hg.lex.each e he).cls;have hlt:=zs7 hg.net' (runS g.net.steps (za5 g.lex a)) e.cls;by_cases hd:Dead g.net (za2 g.net.steps (runS g.net.steps (za5 g.lex a)) e.cls)
  ·rw [if_neg (fun h=>(ztm hg _ hc.1 hc.2).1 h hd)]
   have h2:=zta hg.net' hlt hd;rw [List.map_nil];split
   ·refine zit fun alt _=>?_
    split
    ·rfl
    ·rw [if_neg (fun h=>h.1 h2),ztl hg f _ _ _ hlt hd];rfl
   ·rfl
  ·rw [if_pos ((ztm hg _ hc.1 hc.2).2 hd),if_pos (fun h=>hd (by rw [h];exact yaf _)),List.map_flatMap]
   refine ze1 fun alt ha=>?_
   have ha:=List.mem_range.1 ha;rw [← yag hg he ha a];by_cases hmo:zo3 g w<(zbt g.lex (a++[⟨e.id,(alt:Int),0⟩])).length
   ·rw [if_pos hmo,if_pos hmo];rfl
   ·rw [if_neg hmo,if_neg hmo,List.map_append]
    have hv2 : ∀ p∈a++[⟨e.id,(alt:Int),0⟩],zlu g.lex p=0:=by
     intro p hp;rcases List.mem_append.1 hp with h | h
     ·exact hv p h
     ·rw [List.mem_singleton] at h;rw [h];exact zxj hg he ha
    have hr:za2 g.net.steps (runS g.net.steps (za5 g.lex a)) e.cls=runS g.net.steps (za5 g.lex (a++[⟨e.id,(alt:Int),0⟩])):=by rw [zxk hg he ha,yen]
    have hli:=yem (w:=w) hv2 (by simp) (by simp;omega) (by omega)
    rw [hr,z3w hg hw f _ (by simp;omega) hv2]
    congr 1
    unfold licB;rw [hli];by_cases h1:runS g.net.steps (za5 g.lex (a++[⟨e.id,(alt:Int),0⟩])) &&& zb6 g.net.final≠0
    ·by_cases h2:w.length≤(zbt g.lex (a++[⟨e.id,(alt:Int),0⟩])).length
     ·cases h3:zhp g w (zbt g.lex (a++[⟨e.id,(alt:Int),0⟩])) with
      | true=>rw [if_pos ⟨h1,h2,rfl⟩,if_pos (by simp [h1,h2])];rfl
      | false=>rw [if_neg (fun h=>by cases h.2.2),if_neg (by simp)];rfl
     ·rw [if_neg (fun h=>h2 h.2.1),if_neg (by simp [h2])];rfl
    ·rw [if_neg (fun h=>h1 h.1),if_neg (by simp only [ne_eq,Decidable.not_not] at h1;simp [h1])];rfl
end Go.V
namespace Go.V
open Go Go.Proofs
def orE:List Int→Int
 | []=>0
 | x::r=>if x=0 then orE r else x
theorem yeo {l:List Int} {k:Nat} (h:k<l.length):orE (l.drop k)=if l[k]=0 then orE (l.drop (k+1)) else l[k]:=by
 rw [List.drop_eq_getElem_cons h];rfl
theorem yju (l:List Int) (hl:l.length<2^40):zam Tryz.prog 82 [ints l] (int (orE l)):=by
 refine zaa mixed Tryz.func82 rfl call_82 ?_
 simp +decide [Tryz.f82,int,ints]
 refine zaf mixed (fun k:Nat=>{n:=18,next:=0,slots:=[(3,.d (int 0)),(6,.d (ints l)),(7,.d (int l.length)),(8,.d (int k))],own:=[]})
  (fun k=>k≤l.length∧orE (l.drop k)=orE l) (fun k=>l.length-k) 0 (by simp) (by simp +decide [int,ints]) ?_
 intro k ⟨hk,hp⟩
 by_cases hlt:k<l.length
 case neg=>
  have:k=l.length:=by omega
  subst this;rw [List.drop_length] at hp;simp +decide [int,ints,← hp,orE]
 have hlt':(k:Int)<l.length:=by omega
 rw [yeo hlt] at hp
 obtain ⟨x,ex⟩ : ∃ x,l[k]=x:=⟨_,rfl⟩
 have e1:l[k]?=some x:=by rw [List.getElem?_eq_getElem hlt,ex]
 rw [ex] at hp
 by_cases hx:x=0
 ·rw [if_pos hx] at hp
  simp +decide [int,ints,hlt,hlt',e1,ex,hx,I64];exact ⟨⟨by omega,by omega⟩,k+1,⟨hlt,hp⟩,by omega,by omega⟩
 ·rw [if_neg hx] at hp
  simp +decide [int,ints,hlt,hlt',e1,ex,hx,I64,← hp]
def cmpP (a b:Prt):Int:=orE [cmpI a.entry b.entry,cmpI a.alt b.alt,cmpI a.sense b.sense]
theorem zfq {a b:Int}:cmpI a b=0↔a=b:=by unfold cmpI;split;omega;split <;> omega
theorem zu8 {a b:Int}:cmpI a b<0↔a<b:=by unfold cmpI;split;omega;split <;> omega
theorem zxl {a b:Prt}:cmpP a b=0↔a=b:=by
 unfold cmpP orE orE orE orE
 constructor
 ·intro h
  split at h
  ·rename_i h1
   split at h
   ·rename_i h2
    split at h
    ·rename_i h3
     obtain ⟨a1,a2,a3⟩:=a;obtain ⟨b1,b2,b3⟩:=b;rw [zfq] at h1 h2 h3;simp only at h1 h2 h3
     rw [h1,h2,h3]
    ·contradiction
   ·contradiction
  ·contradiction
 ·intro h
  subst h;simp [cmpI]
theorem yep {a b:Prt}:decide (cmpP a b<0)=zel a b:=by
 unfold cmpP orE orE orE orE zel
 by_cases h1:a.entry=b.entry
 ·rw [if_pos (zfq.2 h1),if_pos h1]
  by_cases h2:a.alt=b.alt
  ·rw [if_pos (zfq.2 h2),if_pos h2]
   by_cases h3:a.sense=b.sense
   ·rw [if_pos (zfq.2 h3)];simp [h3]
   ·rw [if_neg (fun h=>h3 (zfq.1 h))];simp [zu8]
  ·rw [if_neg (fun h=>h2 (zfq.1 h)),if_neg h2];simp [zu8]
 ·rw [if_neg (fun h=>h1 (zfq.1 h)),if_neg h1];simp [zu8]
theorem z6y (a b:Prt):zam Tryz.prog 85 [.agg a.row,.agg b.row] (int (cmpP a b)):=by
 have h1:=zd2 a.entry b.entry
 have h2:=zd2 a.alt b.alt
 have h3:=zd2 a.sense b.sense
 have ho:=yju [cmpI a.entry b.entry,cmpI a.alt b.alt,cmpI a.sense b.sense] (by simp)
 refine zaa mixed Tryz.func85 rfl call_85 ?_
 simp +decide [Tryz.f85,int,Prt.row]
 refine zae (by rfl) (by rfl) h1 (by simp [int]) ?_
 simp +decide [int,Prt.row]
 refine zae (by rfl) (by rfl) h2 (by simp [int]) ?_
 simp +decide [int,Prt.row]
 refine zae (by rfl) (by rfl) h3 (by simp [int]) ?_
 simp +decide [int,Prt.row]
 refine zae (by rfl) (by rfl) ho (by simp [int,ints]) ?_
 simp +decide [int,Prt.row,cmpP]
def cmpA:List Prt→List Prt→Int
 | [],[]=>0
 | [],_::_=>-1
 | _::_,[]=>1
 | a::l,b::m=>if cmpP a b=0 then cmpA l m else cmpP a b
theorem z3x : ∀ {a b:List Prt},decide (cmpA a b<0)=zbc a b
 | [],[]=>rfl
 | [],_::_=>rfl
 | _::_,[]=>rfl
 | a::l,b::m=>by
  unfold cmpA zbc;by_cases h:a=b
  ·rw [if_pos (zxl.2 h),if_pos h];exact z3x
  ·rw [if_neg (fun h'=>h (zxl.1 h')),if_neg h];exact yep
theorem yah {a b:List Prt} {k:Nat} (h:k<a.length) (h':k<b.length):cmpA (a.drop k) (b.drop k)=if cmpP a[k] b[k]=0 then cmpA (a.drop (k+1)) (b.drop (k+1)) else cmpP a[k] b[k]:=by
 rw [List.drop_eq_getElem_cons h,List.drop_eq_getElem_cons h'];rfl
theorem z0y (a b:List Prt) (ha:a.length<2^40) (hb:b.length<2^40) :
  zam Tryz.prog 84 [zab a,zab b,.fn 85 []] (int (cmpA a b)):=by
 refine zaa mixed Tryz.func84 rfl call_84 ?_
 simp +decide [Tryz.f84,int,zab]
 refine zaf mixed (fun k:Nat=>{n:=39,next:=0,slots:=[(0,.d (zab a)),(1,.d (zab b)),(2,.d (.fn 85 [])),(11,.d (zab a)),(12,.d (int a.length)),(13,.d (int k))],own:=[]})
  (fun k=>k≤a.length∧k≤b.length∧cmpA (a.drop k) (b.drop k)=cmpA a b) (fun k=>a.length-k) 0 (by simp) (by simp +decide [int,zab]) ?_
 intro k ⟨hk,hkb,hp⟩
 by_cases hlt:k<a.length
 case neg=>
  have:k=a.length:=by omega
  subst this;rw [List.drop_length] at hp;by_cases hb2:a.length<b.length
  ·have hb':(a.length:Int)<b.length:=by omega
   rw [List.drop_eq_getElem_cons hb2] at hp;simp +decide [int,zab,hb',← hp,cmpA]
  ·have hb':¬(a.length:Int)<b.length:=by omega
   rw [show a.length=b.length by omega,List.drop_length] at hp
   simp +decide [int,zab,hb',← hp,cmpA]
 have hlt':(k:Int)<a.length:=by omega
 obtain ⟨x,ex⟩ : ∃ x,a[k]=x:=⟨_,rfl⟩
 have e1:a[k]?=some x:=by rw [List.getElem?_eq_getElem hlt,ex]
 by_cases hlb:k<b.length
 case neg=>
  have hlb':(b.length:Int)≤k:=by omega
  have:b.drop k=[]:=List.drop_eq_nil_of_le (by omega)
  rw [this,List.drop_eq_getElem_cons hlt] at hp;simp +decide [int,zab,Prt.row,hlt,hlt',e1,ex,hlb',← hp,cmpA,I64]
 have hlb':¬(b.length:Int)≤k:=by omega
 obtain ⟨y,ey⟩ : ∃ y,b[k]=y:=⟨_,rfl⟩
 have e2:b[k]?=some y:=by rw [List.getElem?_eq_getElem hlb,ey]
 rw [yah hlt hlb,ex,ey] at hp
 simp +decide [int,zab,Prt.row,hlt,hlt',hlb,e1,ex,e2,ey,hlb',I64]
 refine zaj.pure (by rfl) (z6y x y) (by simp [Prt.row,int]) ?_
 by_cases hx:cmpP x y=0
 ·rw [if_pos hx] at hp
  simp +decide [int,zab,Prt.row,hx,I64];exact ⟨⟨by omega,by omega⟩,k+1,⟨hlt,hlb,hp⟩,by omega,by omega⟩
 ·rw [if_neg hx] at hp
  simp +decide [int,zab,Prt.row,hx,I64,← hp]
theorem yeq (a b:List Prt) (ha:a.length<2^40) (hb:b.length<2^40):zam Tryz.prog 60 [anaD a,anaD b] (.bool (zbc a b)):=by
 refine zaa mixed Tryz.func60 rfl call_60 ?_
 simp +decide [Tryz.f60,anaD,zab]
 refine zaj.pure (by rfl) (z0y a b ha hb) (by simp [zab,int]) ?_
 simp +decide [int]
 exact z3x
theorem yer (inv:List Phon) (s:Int):zam Tryz.prog 156 [int s,.ptr [invD inv]] (.bool (!zdr inv s)):=by
 refine zaa mixed Tryz.func156 rfl call_156 ?_
 simp +decide [Tryz.f156,int]
 refine zaj.pure (by rfl) (zsx inv s) (by simp [invD,int]) ?_
 simp +decide [int]
def badW (inv:List Phon) (w:List Int):Int:=match w.findIdx? (fun s=>!zdr inv s) with
 | some k=>k
 | none=>-1
theorem yai (inv:List Phon) (w:List Int) (hl:w.length<2^40):zam Tryz.prog 181 [ints w,.fn 156 [.ptr [invD inv]]] (int (badW inv w)):=by
 refine zaa mixed Tryz.func181 rfl call_181 ?_
 simp +decide [Tryz.f181,ints]
 refine zaf mixed (fun k:Nat=>{n:=19,next:=0,slots:=[(0,.d (ints w)),(1,.d (.fn 156 [.ptr [invD inv]])),(6,.d (ints w)),(7,.d (.int .i64 w.length)),(8,.d (.int .i64 k))],own:=[]})
  (fun k=>k≤w.length∧∀ e∈w.take k,zdr inv e=true) (fun k=>w.length-k) 0 (by simp) (by simp [ints]) ?_
 intro k ⟨hk,hp⟩
 by_cases hlt:k<w.length
 ·have hlt':(k:Int)<w.length:=by omega
  obtain ⟨e,ee⟩ : ∃ e,w[k]=e:=⟨_,rfl⟩;have e1:w[k]?=some e:=by rw [List.getElem?_eq_getElem hlt,ee]
  simp +decide [ints,int,e1,ee,hlt,hlt',I64];refine zaj.pure (by rfl) (yer inv e) (by simp [int,invD]) ?_
  cases he:zdr inv e with
  | false=>
   have:w.findIdx? (fun s=>!zdr inv s)=some k:=by
    rw [List.findIdx?_eq_some_iff_getElem];refine ⟨hlt,by rw [ee,he];rfl,fun j hj=>?_⟩
    have:=hp w[j] (by rw [List.mem_take_iff_getElem];exact ⟨j,by omega,rfl⟩)
    rw [this];decide
   simp +decide [ints,int,he,I64,badW,this]
  | true=>
   simp +decide [ints,int,he,I64];refine ⟨⟨by omega,by omega⟩,k+1,⟨hlt,?_⟩,by omega,by omega⟩
   intro x hx;rw [List.take_succ_eq_append_getElem hlt] at hx;rcases List.mem_append.1 hx with h | h
   ·exact hp x h
   ·rw [List.mem_singleton] at h;rw [h,ee];exact he
 ·have:k=w.length:=by omega
  subst this;have:w.findIdx? (fun s=>!zdr inv s)=none:=by
   rw [List.findIdx?_eq_none_iff];intro x hx;rw [hp x (by simpa using hx)];rfl
  simp +decide [ints,int,badW,this]
theorem yg7 (inv:List Phon) (w:List Int) (hw:w.length<2^40):zam Tryz.prog 126 [.agg [invD inv],ints w] (int (zij inv w)):=by
 have hI:=yai inv w hw
 refine zaa mixed Tryz.func126 rfl call_126 ?_
 obtain ⟨R,hR⟩ : ∃ R,zij inv w=R:=⟨_,rfl⟩
 rw [hR]
 unfold zij at hR
 have hC:zam Tryz.prog 155 [ints w,.fn 156 [.ptr [invD inv]]] (.bool (decide (0≤badW inv w))):=by
  refine zaa mixed Tryz.func155 rfl call_155 ?_
  simp +decide [Tryz.f155,ints];refine zaj.pure (by rfl) hI (by simp [int,invD]) ?_
  simp +decide [int]
 by_cases h0:w.length=0
 ·rw [if_pos h0] at hR
  subst hR;have h0':(w.length:Int)=0:=by omega
  simp +decide [Tryz.f126,int,ints,h0,h0'];done
 rw [if_neg h0] at hR
 have h0':¬(w.length:Int)=0:=by omega
 by_cases h1:24<w.length
 ·rw [if_pos h1] at hR
  subst hR;have h1':(24:Int)<w.length:=by omega
  simp +decide [Tryz.f126,int,ints,h0,h0',h1,h1'];done
 rw [if_neg h1] at hR
 have h1':¬(24:Int)<w.length:=by omega
 simp +decide [Tryz.f126,int,ints,h0,h0',h1,h1']
 refine zaj.pure (by rfl) hC (by simp [D.scalar]) ?_
 by_cases hall:(w.all fun x=>zdr inv x)=true
 ·rw [if_pos hall] at hR
  have hb:badW inv w = -1:=by
   unfold badW;have:w.findIdx? (fun s=>!zdr inv s)=none:=by
    rw [List.findIdx?_eq_none_iff];intro x hx;rw [List.all_eq_true.1 hall x hx];rfl
   rw [this]
  simp +decide [int,hb,← hR]
 ·rw [if_neg hall] at hR
  have hb:0≤badW inv w:=by
   unfold badW;cases h:w.findIdx? (fun s=>!zdr inv s) with
   | none=>
    rw [List.findIdx?_eq_none_iff] at h;exact absurd (List.all_eq_true.2 fun x hx=>by simpa using h x hx) hall
   | some k=>simp
  simp +decide [int,hb,← hR]
end Go.V

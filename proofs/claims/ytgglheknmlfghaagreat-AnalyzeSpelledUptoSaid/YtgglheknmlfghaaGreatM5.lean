/- Contracts and plain laws of this seat: part M5. It needs no conditions. -/
import Derived.Test.YtgglheknmlfghaaGreatM4
set_option linter.unusedVariables false
set_option linter.unusedSimpArgs false
set_option linter.unusedSectionVars false
set_option maxRecDepth 100000
namespace Go.V
open Go Go.Proofs
def zhv (n:Int):Bool:=decide (1≤n∧n≤1099511627776)
theorem zgj (n:Int):zay Tryz.prog 173 [int n] (.bool (zhv n)):=by
 refine zaa mixed Tryz.func173 rfl call_173 ?_
 by_cases h0:1≤n
 ·simp +decide [Tryz.f173,int,zhv,h0]
 ·simp +decide [Tryz.f173,int,zhv,h0]
def zg6 (inv:List Phon) (w:List Int):Int:=if w.length=0 then 4 else if 24<w.length then 5 else if (w.all fun x=>zcn inv x)=true then 0 else 19
set_option maxHeartbeats 4000000 in
theorem zvh (inv:List Phon) (w:List Int) (hw:w.length≤1048576):zay Tryz.prog 52 [.agg [invD inv],ints w] (int (zg6 inv w)):=by
 refine zaa mixed Tryz.func52 rfl call_52 ?_
 obtain ⟨R,hR⟩ : ∃ R,zg6 inv w=R:=⟨_,rfl⟩
 rw [hR]
 unfold zg6 at hR
 by_cases h0:w.length=0
 ·rw [if_pos h0] at hR
  subst hR;have h0':(w.length:Int)=0:=by omega
  simp +decide [Tryz.f52,int,ints,h0,h0'];done
 rw [if_neg h0] at hR
 have h0':¬(w.length:Int)=0:=by omega
 by_cases h1:24<w.length
 ·rw [if_pos h1] at hR
  subst hR;have h1':(24:Int)<w.length:=by omega
  simp +decide [Tryz.f52,int,ints,h0,h0',h1,h1'];done
 rw [if_neg h1] at hR
 have h1':¬(24:Int)<w.length:=by omega
 simp +decide [Tryz.f52,int,ints,h0,h0',h1,h1']
 refine zaf mixed (fun k:Nat=>{n:=25,next:=1,slots:=[(1,.d (ints w)),(2,.bp 0 0),(13,.d (int w.length)),(14,.d (int k))],own:=[(0,.box 24 [.d (invD inv)])]})
  (fun k=>k≤w.length∧∀ x∈w.take k,zcn inv x=true) (fun k=>w.length-k) 0 (by simp) (by simp +decide [int,ints]) ?_
 intro k ⟨hk,hp⟩
 by_cases hlt:k<w.length
 ·have hlt':(k:Int)<w.length:=by omega
  have hmem:=List.getElem_mem hlt;obtain ⟨x,ex⟩ : ∃ x,w[k]=x:=⟨_,rfl⟩;have ex1:w[k]?=some x:=by rw [List.getElem?_eq_getElem hlt,ex]
  have hsn:=zam hlt;rw [ex] at hsn hmem;simp +decide [int,ints,hlt,hlt',ex,ex1];refine zah (by rfl) (by rfl) (zta inv x) (by simp [int]) ?_
  cases hs:zcn inv x with
  | false=>
   have:¬(w.all fun x=>zcn inv x)=true:=by
    rw [List.all_eq_true];intro h;rw [h x hmem] at hs;cases hs
   rw [if_neg this] at hR;subst hR;simp +decide [int]
  | true=>
   simp +decide [int];refine ⟨⟨by omega,by omega⟩,k+1,⟨hlt,fun y hy=>?_⟩,by omega,by omega⟩
   rw [hsn] at hy;rcases List.mem_append.1 hy with h | h
   ·exact hp y h
   ·rw [List.mem_singleton] at h;rw [h];exact hs
 ·have:k=w.length:=by omega
  subst this;rw [List.take_length] at hp;rw [if_pos (List.all_eq_true.2 hp)] at hR;subst hR;simp +decide [int,ints]
structure WordF (inv:List Phon) (w:List Int):Prop where
 pos:1≤w.length
 len:w.length≤24
 segs : ∀ x∈w,zcn inv x=true
theorem zry {inv:List Phon} {w:List Int} (h:zg6 inv w=0):WordF inv w:=by
 unfold zg6 at h
 split at h
 ·cases h
 split at h
 ·cases h
 split at h
 ·rename_i h3;exact ⟨by omega,by omega,List.all_eq_true.1 h3⟩
 ·cases h
structure EntC (e:Ent):Prop where
 form:e.form.length≤1048576
 alts:e.alts.length≤1048576∧∀ w∈e.alts,w.length≤1048576
 senses:e.senses.length≤1048576∧∀ s∈e.senses,s.gloss.size≤1048576∧s.defn.size≤1048576
 links:e.links.length≤1048576
 refs:e.refs.length≤1048576
structure WordsF (inv:List Phon) (e:Ent):Prop where
 id:zhv e.id=true
 form:WordF inv e.form
 cls:1≤e.cls∧e.cls≤20
 alts : ∀ w∈e.alts,WordF inv w
set_option maxHeartbeats 8000000 in
theorem z2q (inv:List Phon) (e:Ent) (he:EntC e):zef Tryz.prog 153 [.agg [invD inv],.agg e.row] (fun x=>∃ n,x=int n∧(n=0→WordsF inv e)):=by
 have hfl:=he.form
 have hal:=he.alts.1
 refine za3 mixed Tryz.func153 rfl call_153 ?_
 simp +decide [Tryz.f153,int,Ent.row]
 refine zal.pure (by rfl) (zgj e.id) (by simp [int]) ?_
 cases hid:zhv e.id with
 | false=>simp +decide [int]
 | true=>
  simp +decide [int];refine zal.pure (by rfl) (zvh inv e.form hfl) (by simp [int]) ?_
  by_cases hw:zg6 inv e.form=0
  case neg=>simp +decide [int,hw]
  by_cases c1:e.cls<1
  ·simp +decide [int,hw,c1]
  by_cases c2:20<e.cls
  ·simp +decide [int,hw,c1,c2]
  by_cases c3:(3:Int)<e.alts.length
  ·simp +decide [int,hw,zbh,c1,c2,c3]
  simp +decide [int,hw,zbh,c1,c2,c3];refine zaf mixed (fun k:Nat=>{n:=73,next:=2,slots:=[(2,.bp 0 0),(3,.bp 1 0),(6,.d (int k))],own:=[(0,.box 24 [.d (invD inv)]),(1,.box 59 (e.row.map .d))]})
   (fun k=>k≤e.alts.length∧∀ w∈e.alts.take k,WordF inv w) (fun k=>e.alts.length-k) 0 (by simp) (by simp +decide [int,ints,Ent.row,zbh]) ?_
  intro k ⟨hk,hp⟩;by_cases hlt:k<e.alts.length
  ·have hlt':(k:Int)<e.alts.length:=by omega
   have hkl:=he.alts.2 e.alts[k] (List.getElem_mem hlt);obtain ⟨w,ew⟩ : ∃ w,e.alts[k]=w:=⟨_,rfl⟩;have ew1:e.alts[k]?=some w:=by rw [List.getElem?_eq_getElem hlt,ew]
   have hsn:=zam hlt;rw [ew] at hsn hkl;simp +decide [int,ints,zbh,Ent.row,hlt,hlt',ew,ew1];refine zah (by rfl) (by rfl) (zvh inv w hkl) (by simp [int,ints]) ?_
   by_cases hz:zg6 inv w=0
   case neg=>simp +decide [int,hz]
   simp +decide [int,ints,zbh,Ent.row,hz,hlt,hlt',ew,ew1];refine zah (by rfl) (by rfl) (znd w e.form (by omega) (by omega)) (by simp [int,ints]) ?_
   by_cases hs:w=e.form
   ·simp +decide [int,hs]
   simp +decide [int,ints,zbh,Ent.row,hs];refine zaf mixed (fun m:Nat=>{n:=73,next:=2,slots:=[(2,.bp 0 0),(3,.bp 1 0),(6,.d (int k)),(8,.d (int m))],own:=[(0,.box 24 [.d (invD inv)]),(1,.box 59 (e.row.map .d))]})
    (fun m=>m≤k) (fun m=>k-m) 0 (by simp) (by simp +decide [int,ints,Ent.row,zbh]) ?_
   intro m hm;by_cases hlm:m<k
   ·have hlm':(m:Int)<k:=by omega
    have hml:m<e.alts.length:=by omega
    have hml':(m:Int)<e.alts.length:=by omega
    have hyl:=he.alts.2 e.alts[m] (List.getElem_mem hml);obtain ⟨y,ey⟩ : ∃ y,e.alts[m]=y:=⟨_,rfl⟩;have ey1:e.alts[m]?=some y:=by rw [List.getElem?_eq_getElem hml,ey]
    rw [ey] at hyl;simp +decide [int,ints,zbh,Ent.row,hlm,hlm',hml,hml',hlt,hlt',ew,ew1,ey,ey1];refine zah (by rfl) (by rfl) (znd w y (by omega) (by omega)) (by simp [int,ints]) ?_
    by_cases hs2:w=y
    ·simp +decide [int,hs2]
    ·simp +decide [int,hs2,I64,ints,zbh,Ent.row]
     exact ⟨⟨by omega,by omega⟩,m+1,hlm,by omega,by omega⟩
   ·have hlm':¬(m:Int)<k:=by omega
    simp +decide [int,ints,zbh,Ent.row,hlm',I64];refine ⟨⟨by omega,by omega⟩,k+1,⟨hlt,fun y hy=>?_⟩,by omega,by omega⟩
    rw [hsn] at hy;rcases List.mem_append.1 hy with h | h
    ·exact hp y h
    ·rw [List.mem_singleton] at h;rw [h];exact zry hz
  ·have:k=e.alts.length:=by omega
   subst this;rw [List.take_length] at hp;simp +decide [int,ints,zbh,Ent.row];exact ⟨hid,zry hw,⟨by omega,by omega⟩,hp⟩
end Go.V
namespace Go.V
open Go Go.Proofs
def zfs (f:Nat→Bool) (s:ByteArray):Bool:=(List.range s.size).all fun k=>f (zao s k)
theorem zg7 {f:Nat→Bool} {s:ByteArray} {k:Nat} (hk:k<s.size) (h:f (zao s k)=false):zfs f s=false:=by
 unfold zfs;rw [List.all_eq_false];exact ⟨k,List.mem_range.2 hk,by rw [h];decide⟩
theorem zne {f:Nat→Bool} {s:ByteArray} (h : ∀ j,j<s.size→f (zao s j)=true):zfs f s=true:=by
 unfold zfs;rw [List.all_eq_true];intro j hj;exact h j (List.mem_range.1 hj)
theorem zvi {p:Nat→Prop} {k:Nat} (h : ∀ j,j<k→p j) (hk:p k) : ∀ j,j<k+1→p j:=by
 intro j hj
 rcases Nat.lt_succ_iff_lt_or_eq.mp hj with h' | h'
 ·exact h j h'
 ·rw [h'];exact hk
def labB (b:Nat):Bool:=decide (¬ b<32)&&decide (¬ b=127)
def zjw (s:ByteArray):Bool:=zfs labB s&&((zjr s s.size 0).isSome&&decide (1≤s.size)&&decide (s.size≤32))
theorem zo2 (s:ByteArray) (hs:s.size≤1048576):zay Tryz.prog 111 [.str s] (.bool (zjw s)):=by
 refine zaa mixed Tryz.func111 rfl call_111 ?_
 simp +decide [Tryz.f111,int]
 refine zaf mixed (fun k:Nat=>{n:=38,next:=0,slots:=[(0,.d (.str s)),(3,.d (int k))],own:=[]})
  (fun k=>k≤s.size∧∀ j,j<k→labB (zao s j)=true) (fun k=>s.size-k) 0 (by simp) (by simp +decide [int]) ?_
 intro k ⟨hk,hp⟩
 by_cases hlt:k<s.size
 ·have hlt':(k:Int)<s.size:=by omega
  have e1:byteAt s (k:Int)=(zao s k:Int):=zcy s k
  by_cases b1:(zao s k:Int)<32
  ·have:zjw s=false:=by unfold zjw;rw [zg7 hlt (by simp [labB];omega)];rfl
   rw [this];simp +decide [int,hlt,hlt',e1,b1]
  ·by_cases b2:(zao s k:Int)=127
   ·have:zjw s=false:=by unfold zjw;rw [zg7 hlt (by simp [labB];omega)];rfl
    rw [this];simp +decide [int,hlt,hlt',e1,b1,b2]
   ·have hg:=zvi hp (show labB (zao s k)=true by simp [labB];omega)
    simp +decide [int,hlt,hlt',e1,b1,b2,I64];exact ⟨⟨by omega,by omega⟩,k+1,⟨hlt,hg⟩,by omega,by omega⟩
 ·have hlt':¬(k:Int)<s.size:=by omega
  have hall:zfs labB s=true:=zne fun j hj=>hp j (by omega)
  simp +decide [int,hlt'];refine zal.pure (by rfl) (zh5 s hs) (by simp) ?_
  unfold zjw;rw [hall];cases hp:zjr s s.size 0 with
  | none=>simp +decide [ptsD,int]
  | some l=>
   by_cases c1:1≤s.size
   ·have c1':(1:Int)≤s.size:=by omega
    simp +decide [ptsD,int,ints,c1,c1'];try omega
   ·have c1':¬(1:Int)≤s.size:=by omega
    simp +decide [ptsD,int,ints,c1,c1']
def gloB (b:Nat):Bool:=decide (¬ b=32)&&decide (¬ b=45)
def znf (s:ByteArray):Bool:=zfs gloB s&&zjw s
theorem zyf (s:ByteArray) (hs:s.size≤1048576):zay Tryz.prog 184 [.str s] (.bool (znf s)):=by
 refine zaa mixed Tryz.func184 rfl call_184 ?_
 simp +decide [Tryz.f184,int]
 refine zaf mixed (fun k:Nat=>{n:=22,next:=0,slots:=[(0,.d (.str s)),(3,.d (int k))],own:=[]})
  (fun k=>k≤s.size∧∀ j,j<k→gloB (zao s j)=true) (fun k=>s.size-k) 0 (by simp) (by simp +decide [int]) ?_
 intro k ⟨hk,hp⟩
 by_cases hlt:k<s.size
 ·have hlt':(k:Int)<s.size:=by omega
  have e1:byteAt s (k:Int)=(zao s k:Int):=zcy s k
  by_cases b1:(zao s k:Int)=32
  ·have:znf s=false:=by unfold znf;rw [zg7 hlt (by simp [gloB];omega)];rfl
   rw [this];simp +decide [int,hlt,hlt',e1,b1]
  ·by_cases b2:(zao s k:Int)=45
   ·have:znf s=false:=by unfold znf;rw [zg7 hlt (by simp [gloB];omega)];rfl
    rw [this];simp +decide [int,hlt,hlt',e1,b1,b2]
   ·have hg:=zvi hp (show gloB (zao s k)=true by simp [gloB];omega)
    simp +decide [int,hlt,hlt',e1,b1,b2,I64];exact ⟨⟨by omega,by omega⟩,k+1,⟨hlt,hg⟩,by omega,by omega⟩
 ·have hlt':¬(k:Int)<s.size:=by omega
  have hall:zfs gloB s=true:=zne fun j hj=>hp j (by omega)
  simp +decide [int,hlt'];refine zal.pure (by rfl) (zo2 s hs) (by simp) ?_
  unfold znf;rw [hall];simp +decide [int]
def badI (p:Int):Bool:=decide (p<32) || decide (p=127)
def z5w (s:ByteArray):Int:=if 200<s.size then 5 else match zjr s s.size 0 with
 | none=>3
 | some l=>if l.any badI=true then 3 else 0
theorem z2r (s:ByteArray):zay Tryz.prog 185 [.str s] (int (z5w s)):=by
 refine zaa mixed Tryz.func185 rfl call_185 ?_
 unfold z5w
 by_cases h0:200<s.size
 ·have h0':(200:Int)<s.size:=by omega
  simp +decide [Tryz.f185,h0',h0,int]
 have h0':¬(200:Int)<s.size:=by omega
 simp +decide [Tryz.f185,h0',h0,int]
 refine zal.pure (by rfl) (zh5 s (by omega)) (by simp) ?_
 cases hp:zjr s s.size 0 with
 | none=>simp +decide [ptsD,int]
 | some l=>
  have hll:l.length≤s.size:=z5s s _ _ _ hp
  simp +decide [ptsD,ints,int];refine zaf mixed (fun k:Nat=>{n:=34,next:=0,slots:=[(3,.d (ints l)),(5,.d (int k))],own:=[]})
   (fun k=>k≤l.length∧∀ x∈l.take k,badI x=false) (fun k=>l.length-k) 0 (by simp) (by simp +decide [int,ints]) ?_
  intro k ⟨hk,hq⟩;by_cases hlt:k<l.length
  ·have e1:l[k]?=some l[k]:=List.getElem?_eq_getElem hlt
   have hbad:badI l[k]=true→l.any badI=true:=fun hb=>List.any_eq_true.2 ⟨l[k],List.getElem_mem hlt,hb⟩
   by_cases b1:l[k]<32
   ·have hb:=hbad (by simp [badI,b1])
    simp +decide [ints,int,e1,hlt,b1];exact List.any_eq_true.1 hb
   ·by_cases b2:l[k]=127
    ·have hb:=hbad (by simp [badI,b2])
     simp +decide [ints,int,e1,hlt,b1,b2];exact List.any_eq_true.1 hb
    ·simp +decide [ints,int,e1,hlt,b1,b2,I64]
     refine ⟨by omega,k+1,⟨hlt,?_⟩,by omega,by omega⟩
     rw [List.take_succ_eq_append_getElem hlt];intro x hx;rcases List.mem_append.1 hx with hx | hx
     ·exact hq x hx
     ·simp at hx;rw [hx];simp [badI,b1,b2]
  ·have:k=l.length:=by omega
   subst this;rw [List.take_length] at hq;have hb:l.any badI=false:=by rw [List.any_eq_false];intro x hx;simp [hq x hx]
   simp +decide [ints,int];exact hq
def zmf (l:List Sens) (s:ByteArray):Bool:=l.any fun x=>decide (x.gloss=s)
theorem z5x (l:List Sens) (s:ByteArray) (hl:l.length<2^40):zay Tryz.prog 186 [zbq l,.str s] (.bool (zmf l s)):=by
 refine zaa mixed Tryz.func186 rfl call_186 ?_
 simp +decide [Tryz.f186,int,zbq]
 refine zaf mixed (fun k:Nat=>{n:=19,next:=0,slots:=[(0,.d (zbq l)),(1,.d (.str s)),(5,.d (int k))],own:=[]})
  (fun k=>k≤l.length∧∀ x∈l.take k,¬ x.gloss=s) (fun k=>l.length-k) 0 (by simp) (by simp +decide [int,zbq]) ?_
 intro k ⟨hk,hp⟩
 by_cases hlt:k<l.length
 ·have hlt':(k:Int)<l.length:=by omega
  have hmem:=List.getElem_mem hlt;have hsn:=zam hlt;obtain ⟨x,ex⟩ : ∃ x,l[k]=x:=⟨_,rfl⟩;have e1:l[k]?=some x:=by rw [List.getElem?_eq_getElem hlt,ex]
  rw [ex] at hmem hsn;by_cases b1:x.gloss=s
  ·have:zmf l s=true:=List.any_eq_true.2 ⟨x,hmem,by simpa using b1⟩
   rw [this];simp +decide [int,zbq,Sens.row,hlt,hlt',e1,ex,b1]
  ·simp +decide [int,zbq,Sens.row,hlt,hlt',e1,ex,b1,I64]
   refine ⟨fun h=>absurd (bytes_inj h) b1,fun _=>⟨⟨by omega,by omega⟩,k+1,⟨hlt,fun y hy=>?_⟩,by omega,by omega⟩⟩
   rw [hsn] at hy;rcases List.mem_append.1 hy with h | h
   ·exact hp y h
   ·rw [List.mem_singleton] at h;rw [h];exact b1
 ·have:k=l.length:=by omega
  subst this;rw [List.take_length] at hp;have:zmf l s=false:=by unfold zmf;rw [List.any_eq_false];intro x hx;simpa using hp x hx
  rw [this];simp +decide [int,zbq]
def zvj (l:List Sens) (s:Sens):Int:=if znf s.gloss=false then 7 else if z5w s.defn≠0 then z5w s.defn else if zmf l s.gloss=true then 8 else 0
theorem zj9 (l:List Sens) (s:Sens) (hl:l.length<2^40) (hs:s.gloss.size≤1048576):zay Tryz.prog 174 [zbq l,.agg s.row] (int (zvj l s)):=by
 refine zaa mixed Tryz.func174 rfl call_174 ?_
 have hH:=z5x l s.gloss hl
 unfold zvj
 simp +decide [Tryz.f174,int,Sens.row]
 refine zal.pure (by rfl) (zyf s.gloss hs) (by simp) ?_
 cases hg:znf s.gloss with
 | false=>simp +decide [int]
 | true=>
  simp +decide [int];refine zal.pure (by rfl) (z2r s.defn) (by simp) ?_
  by_cases he:z5w s.defn=0
  case neg=>simp +decide [int,he]
  simp +decide [int,he];generalize zmf l s.gloss=b at hH ⊢;refine zal.pure (by rfl) hH (by simp [int]) ?_
  cases b <;> simp +decide [int]
set_option maxHeartbeats 8000000 in
theorem zyg (e:Ent) (he:EntC e):zef Tryz.prog 154 [.agg e.row] (fun x=>∃ n,x=int n∧(n=0→(e.senses≠[]∨e.main≠0)∧e.senses.length≤5)):=by
 have hsl:=he.senses.1
 refine za3 mixed Tryz.func154 rfl call_154 ?_
 by_cases hm:e.main=0
 ·by_cases h2:e.main=e.id
  ·have h2':e.id=0:=by omega
   simp +decide [Tryz.f154,int,Ent.row,hm,h2']
  have h2':¬ 0=e.id:=by omega
  by_cases h3:(5:Int)<e.senses.length
  ·simp +decide [Tryz.f154,int,Ent.row,zbq,hm,h2',h3]
  by_cases h4:(e.senses.length:Int)=0
  ·simp +decide [Tryz.f154,int,Ent.row,zbq,hm,h2',h3,h4]
  simp +decide [Tryz.f154,int,Ent.row,zbq,hm,h2',h3,h4];intro hne;refine zaf mixed (fun k:Nat=>{n:=52,next:=1,slots:=[(1,.bp 0 0),(3,.d (int k))],own:=[(0,.box 59 (e.row.map .d))]})
   (fun k=>k≤e.senses.length) (fun k=>e.senses.length-k) 0 (by simp) (by simp +decide [int,ints,Ent.row,zbq,hm]) ?_
  intro k hk;by_cases hlt:k<e.senses.length
  ·have hlt':(k:Int)<e.senses.length:=by omega
   have hkl:=he.senses.2 e.senses[k] (List.getElem_mem hlt);obtain ⟨s,es⟩ : ∃ s,e.senses[k]=s:=⟨_,rfl⟩;have es1:e.senses[k]?=some s:=by rw [List.getElem?_eq_getElem hlt,es]
   rw [es] at hkl;have hS:=zj9 (e.senses.take k) s (by rw [List.length_take];omega) hkl.1
   have eS:zbq (e.senses.take k) = .sl ((e.senses.map Sens.row).take k):=by simp [zbq,List.map_take]
   rw [eS] at hS;have hrl : ∀ a∈e.senses,a.row.length=2:=fun a _=>rfl
   simp +decide [int,ints,zbq,Ent.row,hlt,hlt',es,es1];refine ⟨by omega,hrl,by rfl,by simp [Sens.row],?_⟩
   refine zah (by rfl) (by rfl) hS (by simp [Sens.row,int]) ?_
   by_cases hz:zvj (e.senses.take k) s=0
   case neg=>simp +decide [int,hz]
   rw [hz];simp +decide [int,ints,zbq,Ent.row,I64];exact ⟨⟨by omega,by omega⟩,k+1,hlt,by omega,by omega⟩
  ·have hlt':¬(k:Int)<e.senses.length:=by omega
   simp +decide [int,ints,zbq,Ent.row,hlt'];exact ⟨hne,by omega⟩
 ·simp +decide [Tryz.f154,int,Ent.row,zbq,hm]
  refine zal.pure (by rfl) (zgj e.main) (by simp [int]) ?_
  cases hid:zhv e.main with
  | false=>simp +decide [int]
  | true=>
   by_cases h2:e.main=e.id
   ·simp +decide [int,h2]
   by_cases h3:(5:Int)<e.senses.length
   ·simp +decide [int,zbq,h2,h3]
   by_cases h4:(e.senses.length:Int)=0
   ·simp +decide [int,zbq,hm,h2,h3,h4]
    refine zaf mixed (fun k:Nat=>{n:=52,next:=1,slots:=[(1,.bp 0 0),(3,.d (int k))],own:=[(0,.box 59 (e.row.map .d))]})
     (fun k=>k≤e.senses.length) (fun k=>e.senses.length-k) 0 (by simp) (by simp +decide [int,ints,Ent.row,zbq,hm]) ?_
    intro k hk;by_cases hlt:k<e.senses.length
    ·have hlt':(k:Int)<e.senses.length:=by omega
     have hkl:=he.senses.2 e.senses[k] (List.getElem_mem hlt);obtain ⟨s,es⟩ : ∃ s,e.senses[k]=s:=⟨_,rfl⟩;have es1:e.senses[k]?=some s:=by rw [List.getElem?_eq_getElem hlt,es]
     rw [es] at hkl;have hS:=zj9 (e.senses.take k) s (by rw [List.length_take];omega) hkl.1
     have eS:zbq (e.senses.take k) = .sl ((e.senses.map Sens.row).take k):=by simp [zbq,List.map_take]
     rw [eS] at hS;have hrl : ∀ a∈e.senses,a.row.length=2:=fun a _=>rfl
     simp +decide [int,ints,zbq,Ent.row,hlt,hlt',es,es1];refine ⟨by omega,hrl,by rfl,by simp [Sens.row],?_⟩
     refine zah (by rfl) (by rfl) hS (by simp [Sens.row,int]) ?_
     by_cases hz:zvj (e.senses.take k) s=0
     case neg=>simp +decide [int,hz]
     rw [hz];simp +decide [int,ints,zbq,Ent.row,I64];exact ⟨⟨by omega,by omega⟩,k+1,hlt,by omega,by omega⟩
    ·have hlt':¬(k:Int)<e.senses.length:=by omega
     simp +decide [int,ints,zbq,Ent.row,hlt'];omega
   ·have hne:¬ e.senses=[]:=by intro h;rw [h] at h4;simp at h4
    simp +decide [int,zbq,hm,h2,h3,h4,hne];refine zaf mixed (fun k:Nat=>{n:=52,next:=1,slots:=[(1,.bp 0 0),(3,.d (int k))],own:=[(0,.box 59 (e.row.map .d))]})
     (fun k=>k≤e.senses.length) (fun k=>e.senses.length-k) 0 (by simp) (by simp +decide [int,ints,Ent.row,zbq,hm]) ?_
    intro k hk;by_cases hlt:k<e.senses.length
    ·have hlt':(k:Int)<e.senses.length:=by omega
     have hkl:=he.senses.2 e.senses[k] (List.getElem_mem hlt);obtain ⟨s,es⟩ : ∃ s,e.senses[k]=s:=⟨_,rfl⟩;have es1:e.senses[k]?=some s:=by rw [List.getElem?_eq_getElem hlt,es]
     rw [es] at hkl;have hS:=zj9 (e.senses.take k) s (by rw [List.length_take];omega) hkl.1
     have eS:zbq (e.senses.take k) = .sl ((e.senses.map Sens.row).take k):=by simp [zbq,List.map_take]
     rw [eS] at hS;have hrl : ∀ a∈e.senses,a.row.length=2:=fun a _=>rfl
     simp +decide [int,ints,zbq,Ent.row,hlt,hlt',es,es1];refine ⟨by omega,hrl,by rfl,by simp [Sens.row],?_⟩
     refine zah (by rfl) (by rfl) hS (by simp [Sens.row,int]) ?_
     by_cases hz:zvj (e.senses.take k) s=0
     case neg=>simp +decide [int,hz]
     rw [hz];simp +decide [int,ints,zbq,Ent.row,I64];exact ⟨⟨by omega,by omega⟩,k+1,hlt,by omega,by omega⟩
    ·have hlt':¬(k:Int)<e.senses.length:=by omega
     simp +decide [int,ints,zbq,Ent.row,hlt'];omega
end Go.V
namespace Go.V
open Go Go.Proofs
def z5y (a b:Rf):Bool:=decide (a.rcd<b.rcd) || (decide (a.rcd=b.rcd)&&decide (a.note<b.note))
theorem z5z (a b:Rf):zay Tryz.prog 176 [.agg a.row,.agg b.row] (.bool (z5y a b)):=by
 refine zaa mixed Tryz.func176 rfl call_176 ?_
 by_cases h1:a.rcd<b.rcd
 ·simp +decide [Tryz.f176,int,Rf.row,z5y,h1]
 ·by_cases h2:a.rcd=b.rcd
  ·simp +decide [Tryz.f176,int,Rf.row,z5y,h1,h2]
  ·simp +decide [Tryz.f176,int,Rf.row,z5y,h1,h2]
theorem ya3 (a:Rf):zay Tryz.prog 175 [.agg a.row] (.bool (zhv a.rcd&&zhv a.note)):=by
 refine zaa mixed Tryz.func175 rfl call_175 ?_
 simp +decide [Tryz.f175,int,Rf.row]
 refine zal.pure (by rfl) (zgj a.rcd) (by simp [int]) ?_
 cases h:zhv a.rcd with
 | false=>simp +decide [int]
 | true=>
  simp +decide [int];refine zal.pure (by rfl) (zgj a.note) (by simp [int]) ?_
  simp +decide [int]
set_option maxHeartbeats 8000000 in
theorem z6a (l:List Rf) (n:Int) (hl:l.length≤1048576):zef Tryz.prog 156 [rfD l,int n] IsI:=by
 refine za3 mixed Tryz.func156 rfl call_156 ?_
 by_cases h0:n<l.length
 ·simp +decide [Tryz.f156,int,rfD,h0]
 simp +decide [Tryz.f156,int,rfD,h0]
 refine zaf mixed (fun k:Nat=>{n:=37,next:=0,slots:=[(0,.d (rfD l)),(5,.d (int k))],own:=[]})
  (fun k=>k≤l.length) (fun k=>l.length-k) 0 (by simp) (by simp +decide [int,rfD]) ?_
 intro k hk
 by_cases hlt:k<l.length
 ·have hlt':(k:Int)<l.length:=by omega
  obtain ⟨x,ex⟩ : ∃ x,l[k]=x:=⟨_,rfl⟩;have e1:l[k]?=some x:=by rw [List.getElem?_eq_getElem hlt,ex]
  simp +decide [int,rfD,Rf.row,hlt,hlt',e1,ex];refine zal.pure (by rfl) (ya3 x) (by simp [int,Rf.row]) ?_
  cases hr:zhv x.rcd&&zhv x.note with
  | false=>simp +decide [int]
  | true=>
   by_cases hk0:k=0
   ·subst hk0
    simp +decide [int,I64,rfD];exact ⟨1,hlt,by omega,by omega⟩
   ·have hk0':(0:Int)<k:=by omega
    have hlm:k-1<l.length:=by omega
    obtain ⟨y,ey⟩ : ∃ y,l[k-1]=y:=⟨_,rfl⟩;have ey1:l[k-1]?=some y:=by rw [List.getElem?_eq_getElem hlm,ey]
    have t1:((k:Int)-1).toNat=k-1:=by omega
    have t2:0≤(k:Int)-1:=by omega
    have t3:(k:Int)-1<l.length:=by omega
    simp +decide [int,I64,rfD,Rf.row,hk0,hk0',hlt,hlt',e1,ex,ey,ey1,t1,t2,t3,hlm];intro _;refine ⟨⟨by omega,by omega⟩,by omega,?_⟩
    refine zah (by rfl) (by rfl) (z5z y x) (by simp [int,Rf.row]) ?_
    cases hpx:z5y y x with
    | false=>simp +decide [int]
    | true=>
     simp +decide [int,I64,rfD,hk0'];exact ⟨⟨by omega,by omega⟩,k+1,hlt,by omega,by omega⟩
 ·have hlt':¬(k:Int)<l.length:=by omega
  simp +decide [int,rfD,hlt']
set_option maxHeartbeats 8000000 in
theorem z2s (e:Ent) (hl:e.links.length≤1048576):zef Tryz.prog 155 [.agg e.row] (fun x=>∃ n,x=int n∧(n=0→e.links.length≤12∧∀ l∈e.links,0≤l.kind∧l.kind≤5)):=by
 refine za3 mixed Tryz.func155 rfl call_155 ?_
 by_cases h0:(12:Int)<e.links.length
 ·simp +decide [Tryz.f155,int,Ent.row,lnkD,h0]
 simp +decide [Tryz.f155,int,Ent.row,lnkD,h0]
 refine zaf mixed (fun k:Nat=>{n:=76,next:=1,slots:=[(1,.bp 0 0),(3,.d (int k))],own:=[(0,.box 59 (e.row.map .d))]})
  (fun k=>k≤e.links.length∧∀ l∈e.links.take k,0≤l.kind∧l.kind≤5) (fun k=>e.links.length-k) 0 (by simp) (by simp +decide [int,ints,Ent.row,lnkD]) ?_
 intro k ⟨hk,hp⟩
 by_cases hlt:k<e.links.length
 ·have hlt':(k:Int)<e.links.length:=by omega
  obtain ⟨x,ex⟩ : ∃ x,e.links[k]=x:=⟨_,rfl⟩;have e1:e.links[k]?=some x:=by rw [List.getElem?_eq_getElem hlt,ex]
  have hsn:=zam hlt;rw [ex] at hsn;by_cases b1:x.kind<0
  ·simp +decide [int,ints,Ent.row,lnkD,Lnk.row,hlt,hlt',e1,ex,b1]
  by_cases b2:5<x.kind
  ·simp +decide [int,ints,Ent.row,lnkD,Lnk.row,hlt,hlt',e1,ex,b1,b2]
  have hgo : ∀ z∈e.links.take (k+1),0≤z.kind∧z.kind≤5:=by
   intro z hz;rw [hsn] at hz;rcases List.mem_append.1 hz with h | h
   ·exact hp z h
   ·rw [List.mem_singleton] at h;rw [h];omega
  simp +decide [int,ints,Ent.row,lnkD,Lnk.row,hlt,hlt',e1,ex,b1,b2];refine zal.pure (by rfl) (zgj x.dst) (by simp [int]) ?_
  cases hr:zhv x.dst with
  | false=>simp +decide [int]
  | true=>
   by_cases b3:x.dst=e.id
   ·simp +decide [int,b3]
   by_cases hk0:k=0
   ·subst hk0
    simp +decide [int,ints,Ent.row,lnkD,Lnk.row,I64,b3];exact ⟨1,⟨hlt,hgo⟩,by omega,by omega⟩
   ·have hk0':(0:Int)<k:=by omega
    have hlm:k-1<e.links.length:=by omega
    obtain ⟨y,ey⟩ : ∃ y,e.links[k-1]=y:=⟨_,rfl⟩;have ey1:e.links[k-1]?=some y:=by rw [List.getElem?_eq_getElem hlm,ey]
    have t1:((k:Int)-1).toNat=k-1:=by omega
    have t2:0≤(k:Int)-1:=by omega
    have t3:(k:Int)-1<e.links.length:=by omega
    by_cases c1:x.kind<y.kind
    ·simp +decide [int,ints,Ent.row,lnkD,Lnk.row,I64,b3,hk0,hk0',hlt,hlt',e1,ex,ey,ey1,t1,t2,t3,hlm,c1]
     exact fun _=>⟨⟨by omega,by omega⟩,by omega⟩
    ·by_cases c2:x.kind=y.kind
     ·by_cases c3:x.dst≤y.dst
      ·simp +decide [int,ints,Ent.row,lnkD,Lnk.row,I64,b3,hk0,hk0',hlt,hlt',e1,ex,ey,ey1,t1,t2,t3,hlm,c1,c2,c3]
       exact fun _=>⟨⟨by omega,by omega⟩,by omega,⟨by omega,by omega⟩,by omega,⟨by omega,by omega⟩,by omega⟩
      ·simp +decide [int,ints,Ent.row,lnkD,Lnk.row,I64,b3,hk0,hk0',hlt,hlt',e1,ex,ey,ey1,t1,t2,t3,hlm,c1,c2,c3]
       exact fun _=>⟨⟨by omega,by omega⟩,by omega,⟨by omega,by omega⟩,by omega,⟨by omega,by omega⟩,by omega,⟨by omega,by omega⟩,k+1,⟨hlt,hgo⟩,by omega,by omega⟩
     ·simp +decide [int,ints,Ent.row,lnkD,Lnk.row,I64,b3,hk0,hk0',hlt,hlt',e1,ex,ey,ey1,t1,t2,t3,hlm,c1,c2]
      exact fun _=>⟨⟨by omega,by omega⟩,by omega,⟨by omega,by omega⟩,by omega,⟨by omega,by omega⟩,k+1,⟨hlt,hgo⟩,by omega,by omega⟩
 ·have:k=e.links.length:=by omega
  subst this;rw [List.take_length] at hp;simp +decide [int,ints,Ent.row,lnkD];exact ⟨by omega,hp⟩
structure EntF (inv:List Phon) (e:Ent):Prop extends WordsF inv e where
 senses:e.senses≠[]∨e.main≠0
 fewS:e.senses.length≤5
 links:e.links.length≤12
 kinds : ∀ l∈e.links,0≤l.kind∧l.kind≤5
set_option maxHeartbeats 4000000 in
theorem z2u (inv:List Phon) (e:Ent) (he:EntC e):zef Tryz.prog 118 [.agg [invD inv],.agg e.row] (fun x=>∃ n,x=int n∧(n=0→EntF inv e)):=by
 refine za3 mixed Tryz.func118 rfl call_118 ?_
 simp +decide [Tryz.f118,int,Ent.row]
 refine zal.some (by rfl) (z2q inv e he) ?_
 rintro r ⟨n,rfl,hW⟩
 by_cases h1:n=0
 case neg=>simp +decide [int,h1]
 have hW:=hW h1
 simp +decide [int,h1]
 refine zal.some (by rfl) (zyg e he) ?_
 rintro r ⟨m,rfl,hS⟩
 by_cases h2:m=0
 case neg=>simp +decide [int,h2]
 have hS:=hS h2
 simp +decide [int,h2]
 refine zal.some (by rfl) (z2s e he.links) ?_
 rintro r ⟨j,rfl,hL⟩
 by_cases h3:j=0
 case neg=>simp +decide [int,h3]
 have hL:=hL h3
 simp +decide [int,h3]
 refine zal.some (by rfl) (z6a e.refs 12 he.refs) ?_
 rintro r ⟨i,rfl⟩
 simp +decide [int]
 exact fun _=>⟨hW,hS.1,hS.2,hL.1,hL.2⟩
end Go.V
namespace Go.V
open Go Go.Proofs
theorem zti (l:List Ent) (id:Int) (hl:l.length<2^40):zay Tryz.prog 119 [lexD l,int id] (.bool (getE l id).2):=by
 refine zaa mixed Tryz.func119 rfl call_119 ?_
 have hG:=yai l id (by omega)
 generalize getE l id=r at hG ⊢
 obtain ⟨e,ok⟩:=r
 simp +decide [Tryz.f119,int,lexD]
 refine zal.pure (by rfl) hG (by simp [lexD,int]) ?_
 simp +decide [int,Ent.row]
structure LexC (l:List Ent):Prop where
 few:l.length≤1048576
 each : ∀ e∈l,EntC e
structure LexF (inv:List Phon) (l:List Ent):Prop where
 each : ∀ e∈l,EntF inv e
 up : ∀ k (h:k+1<l.length),l[k].id<l[k+1].id
set_option maxHeartbeats 16000000 in
theorem z2v (inv:List Phon) (l:List Ent) (hl:LexC l):zef Tryz.prog 78 [.agg [invD inv],lexD l] (fun x=>∃ n,x=int n∧(n=0→LexF inv l)):=by
 have hfew:=hl.few
 refine za3 mixed Tryz.func78 rfl call_78 ?_
 by_cases h0:(100:Int)<l.length
 ·simp +decide [Tryz.f78,int,lexD,h0]
 simp +decide [Tryz.f78,int,lexD,h0]
 refine zbc mixed (fun k:Nat=>{n:=87,next:=1,slots:=[(1,.d (lexD l)),(2,.bp 0 0),(13,.d (int l.length)),(14,.d (int k))],own:=[(0,.box 24 [.d (invD inv)])]})
  (fun k=>k≤l.length∧(∀ e∈l.take k,EntF inv e)∧∀ j (h:j+1<l.length),j+1<k→l[j].id<l[j+1].id) (fun k=>l.length-k) 0 ⟨by simp,by simp,fun j h h'=>absurd h' (by omega)⟩ (by simp +decide [int,ints,lexD]) ?_
 intro k ⟨hk,hp,hup⟩
 by_cases hlt:k<l.length
 ·have hlt':(k:Int)<l.length:=by omega
  have hC:=hl.each l[k] (List.getElem_mem hlt);obtain ⟨e,ee⟩ : ∃ e,l[k]=e:=⟨_,rfl⟩;have e1:l[k]?=some e:=by rw [List.getElem?_eq_getElem hlt,ee]
  have hsn:=zam hlt;rw [ee] at hsn hC;have hE:=z2u inv e hC;refine zhz mixed 2 {n:=87,next:=1,slots:=[(1,.d (lexD l)),(2,.bp 0 0),(13,.d (int l.length)),(14,.d (int k))],own:=[(0,.box 24 [.d (invD inv)])]} rfl (by simp +decide [ze4,cutK,int,lexD,hlt,hlt']) ?_
  simp only [zfr];refine zcu (zco (zhz mixed 1 {n:=87,next:=1,slots:=[(1,.d (lexD l)),(2,.bp 0 0),(5,.d (int k)),(13,.d (int l.length)),(14,.d (int k))],own:=[(0,.box 24 [.d (invD inv)])]} rfl (by simp +decide [ze4,cutK,int,lexD]) ?_)) mixed
  simp only [zfr];refine zcu ?_ mixed
  refine z9s mixed 5 (by rfl) (by rfl) (by rfl) (by rfl) (by simp) ?_
  simp +decide [int,lexD,Ent.row,hlt,hlt',ee,e1];refine zal.some (by rfl) hE ?_
  rintro r ⟨n,rfl,hF⟩
  by_cases hn:n=0
  case neg=>simp +decide [int,hn]
  have hF:=hF hn;have hgo : ∀ x∈l.take (k+1),EntF inv x:=by
   intro x hx;rw [hsn] at hx;rcases List.mem_append.1 hx with h | h
   ·exact hp x h
   ·rw [List.mem_singleton] at h;rw [h];exact hF
  by_cases hk0:k=0
  ·subst hk0
   simp +decide [int,hn,lexD,I64];exact ⟨1,⟨hlt,hgo,fun j h h'=>absurd h' (by omega)⟩,by omega,by omega⟩
  ·have hk0':(0:Int)<k:=by omega
   have hlm:k-1<l.length:=by omega
   obtain ⟨y,ey⟩ : ∃ y,l[k-1]=y:=⟨_,rfl⟩;have ey1:l[k-1]?=some y:=by rw [List.getElem?_eq_getElem hlm,ey]
   have t1:((k:Int)-1).toNat=k-1:=by omega
   have t2:0≤(k:Int)-1:=by omega
   have t3:(k:Int)-1<l.length:=by omega
   by_cases c1:e.id≤y.id
   ·simp +decide [int,hn,lexD,Ent.row,I64,hk0,hk0',hlt,hlt',e1,ee,ey,ey1,t1,t2,t3,hlm,c1]
    exact fun _=>⟨⟨by omega,by omega⟩,by omega⟩
   ·simp +decide [int,hn,lexD,Ent.row,I64,hk0,hk0',hlt,hlt',e1,ee,ey,ey1,t1,t2,t3,hlm,c1]
    refine fun _=>⟨⟨by omega,by omega⟩,by omega,⟨by omega,by omega⟩,k+1,⟨hlt,hgo,fun j h h'=>?_⟩,by omega,by omega⟩
    by_cases hj:j+1<k
    ·exact hup j h hj
    ·have hj1:j=k-1:=by omega
     subst hj1;have hk1:k-1+1=k:=by omega
     have:l[k-1+1]=e:=by rw [← ee];congr 1
     rw [ey,this];omega
 ·have:k=l.length:=by omega
  subst this;rw [List.take_length] at hp;refine zaq mixed ?_
  simp +decide [int,lexD];have hsimp:LexF inv l:=⟨hp,fun j h=>hup j h h⟩
  refine zaf mixed (fun k:Nat=>{n:=87,next:=1,slots:=[(1,.d (lexD l)),(2,.bp 0 0),(44,.d (int l.length)),(45,.d (int k))],own:=[(0,.box 24 [.d (invD inv)])]})
   (fun k=>k≤l.length) (fun k=>l.length-k) 0 (by simp) (by simp +decide [int,ints,lexD]) ?_
  intro i hi;by_cases hli:i<l.length
  ·have hli':(i:Int)<l.length:=by omega
   have hlk:=(hp l[i] (List.getElem_mem hli)).links;obtain ⟨e,ee⟩ : ∃ e,l[i]=e:=⟨_,rfl⟩;have e1:l[i]?=some e:=by rw [List.getElem?_eq_getElem hli,ee]
   rw [ee] at hlk;by_cases hm:e.main=0
   ·simp +decide [int,lexD,Ent.row,lnkD,hli,hli',e1,ee,hm,I64]
    refine zaf mixed (fun m:Nat=>{n:=87,next:=1,slots:=[(1,.d (lexD l)),(2,.bp 0 0),(7,.d (int i)),(44,.d (int l.length)),(45,.d (int i)),(69,.d (int e.links.length)),(70,.d (int m))],own:=[(0,.box 24 [.d (invD inv)])]})
     (fun m=>m≤e.links.length) (fun m=>e.links.length-m) 0 (by simp) (by simp +decide [int,ints,lexD]) ?_
    intro m hm2;by_cases hlm:m<e.links.length
    ·have hlm':(m:Int)<e.links.length:=by omega
     obtain ⟨y,ey⟩ : ∃ y,e.links[m]=y:=⟨_,rfl⟩;have ey1:e.links[m]?=some y:=by rw [List.getElem?_eq_getElem hlm,ey]
     simp +decide [int,lexD,Ent.row,lnkD,Lnk.row,hli,hli',e1,ee,hlm,hlm',ey,ey1,I64];refine zal.pure (by rfl) (zti l y.dst (by omega)) (by simp [int,lexD]) ?_
     cases hg2:(getE l y.dst).2 with
     | false=>simp +decide [int]
     | true=>
      simp +decide [int,I64,lexD];exact ⟨⟨by omega,by omega⟩,m+1,hlm,by omega,by omega⟩
    ·have hlm':¬(m:Int)<e.links.length:=by omega
     simp +decide [int,lexD,hlm',I64];exact ⟨⟨by omega,by omega⟩,i+1,hli,by omega,by omega⟩
   ·simp +decide [int,lexD,Ent.row,lnkD,hli,hli',e1,ee,hm,I64]
    refine zal.pure (by rfl) (zti l e.main (by omega)) (by simp [int,lexD]) ?_
    cases hg:(getE l e.main).2 with
    | false=>simp +decide [int]
    | true=>
     simp +decide [int,lexD,Ent.row,lnkD,hli,hli',e1,ee,hm,I64];refine zaf mixed (fun m:Nat=>{n:=87,next:=1,slots:=[(1,.d (lexD l)),(2,.bp 0 0),(7,.d (int i)),(44,.d (int l.length)),(45,.d (int i)),(69,.d (int e.links.length)),(70,.d (int m))],own:=[(0,.box 24 [.d (invD inv)])]})
      (fun m=>m≤e.links.length) (fun m=>e.links.length-m) 0 (by simp) (by simp +decide [int,ints,lexD]) ?_
     intro m hm2;by_cases hlm:m<e.links.length
     ·have hlm':(m:Int)<e.links.length:=by omega
      obtain ⟨y,ey⟩ : ∃ y,e.links[m]=y:=⟨_,rfl⟩;have ey1:e.links[m]?=some y:=by rw [List.getElem?_eq_getElem hlm,ey]
      simp +decide [int,lexD,Ent.row,lnkD,Lnk.row,hli,hli',e1,ee,hlm,hlm',ey,ey1,I64];refine zal.pure (by rfl) (zti l y.dst (by omega)) (by simp [int,lexD]) ?_
      cases hg2:(getE l y.dst).2 with
      | false=>simp +decide [int]
      | true=>
       simp +decide [int,I64,lexD];exact ⟨⟨by omega,by omega⟩,m+1,hlm,by omega,by omega⟩
     ·have hlm':¬(m:Int)<e.links.length:=by omega
      simp +decide [int,lexD,hlm',I64];exact ⟨⟨by omega,by omega⟩,i+1,hli,by omega,by omega⟩
  ·have hli':¬(i:Int)<l.length:=by omega
   simp +decide [int,lexD,hli'];exact hsimp
end Go.V
namespace Go.V
open Go Go.Proofs
def invC (k:Int):Int:=if k=0 then k else if k=1 then k else if k=2 then 3 else if k=3 then 2 else if k=4 then 5 else if k=5 then 4 else -1
theorem zng (k:Int):zay Tryz.prog 120 [int k] (int (invC k)):=by
 refine zaa mixed Tryz.func120 rfl call_120 ?_
 unfold invC
 by_cases h0:k=0
 ·simp +decide [Tryz.f120,int,h0]
 by_cases h1:k=1
 ·simp +decide [Tryz.f120,int,h0,h1]
 by_cases h2:k=2
 ·simp +decide [Tryz.f120,int,h0,h1,h2]
 by_cases h3:k=3
 ·simp +decide [Tryz.f120,int,h0,h1,h2,h3]
 by_cases h4:k=4
 ·simp +decide [Tryz.f120,int,h0,h1,h2,h3,h4]
 by_cases h5:k=5
 ·simp +decide [Tryz.f120,int,h0,h1,h2,h3,h4,h5]
 simp +decide [Tryz.f120,int,h0,h1,h2,h3,h4,h5]
def zvk (e:Ent) (x:Lnk):Bool:=e.links.any fun y=>decide (y=x)
theorem ya4 (e:Ent) (x:Lnk) (hl:e.links.length≤1048576):zay Tryz.prog 122 [.agg e.row,.agg x.row] (.bool (zvk e x)):=by
 refine zaa mixed Tryz.func122 rfl call_122 ?_
 simp +decide [Tryz.f122,int,Ent.row,Lnk.row]
 refine zaf mixed (fun k:Nat=>{n:=20,next:=2,slots:=[(2,.bp 0 0),(3,.bp 1 0),(5,.d (int k))],own:=[(0,.box 59 (e.row.map .d)),(1,.box 105 (x.row.map .d))]})
  (fun k=>k≤e.links.length∧∀ y∈e.links.take k,¬ y=x) (fun k=>e.links.length-k) 0 (by simp) (by simp +decide [int,ints,Ent.row,Lnk.row,lnkD]) ?_
 intro k ⟨hk,hp⟩
 by_cases hlt:k<e.links.length
 ·have hlt':(k:Int)<e.links.length:=by omega
  have hmem:=List.getElem_mem hlt;have hsn:=zam hlt;obtain ⟨y,ey⟩ : ∃ y,e.links[k]=y:=⟨_,rfl⟩;have e1:e.links[k]?=some y:=by rw [List.getElem?_eq_getElem hlt,ey]
  rw [ey] at hmem hsn;by_cases b1:y=x
  ·have:zvk e x=true:=List.any_eq_true.2 ⟨y,hmem,by simpa using b1⟩
   rw [this];subst b1;simp +decide [int,ints,Ent.row,lnkD,Lnk.row,hlt,hlt',e1,ey]
  ·simp +decide [int,ints,Ent.row,lnkD,Lnk.row,hlt,hlt',e1,ey,I64]
   have hne:y.kind=x.kind→¬ y.dst=x.dst:=by
    intro h1 h2;obtain ⟨a,b⟩:=y;obtain ⟨c,d⟩:=x;simp only at h1 h2
    exact b1 (by rw [h1,h2])
   refine ⟨fun h1 h2=>absurd h2 (hne h1),fun _=>⟨⟨by omega,by omega⟩,k+1,⟨hlt,fun z hz=>?_⟩,by omega,by omega⟩⟩
   rw [hsn] at hz;rcases List.mem_append.1 hz with h | h
   ·exact hp z h
   ·rw [List.mem_singleton] at h;rw [h];exact b1
 ·have:k=e.links.length:=by omega
  subst this;rw [List.take_length] at hp;have:zvk e x=false:=by unfold zvk;rw [List.any_eq_false];intro y hy;simpa using hp y hy
  rw [this];simp +decide [int,ints,Ent.row,lnkD]
theorem z6b (l:List Int) (x:Int) (hl:l.length<2^40):zay Tryz.prog 123 [ints l,int x] (.bool (decide (x∈l))):=by
 refine zaa mixed Tryz.func123 rfl call_123 ?_
 simp +decide [Tryz.f123,int,ints]
 refine zaf mixed (fun k:Nat=>{n:=18,next:=0,slots:=[(0,.d (ints l)),(1,.d (int x)),(5,.d (int k))],own:=[]})
  (fun k=>k≤l.length∧∀ y∈l.take k,¬ y=x) (fun k=>l.length-k) 0 (by simp) (by simp +decide [int,ints]) ?_
 intro k ⟨hk,hp⟩
 by_cases hlt:k<l.length
 ·have hlt':(k:Int)<l.length:=by omega
  have hmem:=List.getElem_mem hlt;have hsn:=zam hlt;obtain ⟨y,ey⟩ : ∃ y,l[k]=y:=⟨_,rfl⟩;have e1:l[k]?=some y:=by rw [List.getElem?_eq_getElem hlt,ey]
  rw [ey] at hmem hsn;by_cases b1:y=x
  ·subst b1
   simp +decide [int,ints,hlt,hlt',e1,ey,hmem]
  ·simp +decide [int,ints,hlt,hlt',e1,ey,b1,I64]
   refine ⟨⟨by omega,by omega⟩,k+1,⟨hlt,fun z hz=>?_⟩,by omega,by omega⟩
   rw [hsn] at hz;rcases List.mem_append.1 hz with h | h
   ·exact hp z h
   ·rw [List.mem_singleton] at h;rw [h];exact b1
 ·have:k=l.length:=by omega
  subst this;rw [List.take_length] at hp;have hn:¬ x∈l:=fun h=>hp x h rfl
  simp +decide [int,ints,hn]
def zk8 (l:List Ent) (kind:Int) (s:List Bool×List Int) (x:Lnk):List Bool×List Int:=
 if x.kind=kind∧0≤zdj l x.dst∧s.1[(zdj l x.dst).toNat]?.getD true=false then (s.1.set (zdj l x.dst).toNat true,s.2++[x.dst]) else s
def rOne (l:List Ent) (kind:Int) (s:List Bool×List Int) (t:Int):List Bool×List Int:=(getE l t).1.links.foldl (zk8 l kind) s
def ycy (l:List Ent) (kind:Int) (s:List Bool×List Int):List Bool×List Int:=s.2.foldl (rOne l kind) (s.1,[])
def rN (l:List Ent) (id kind:Int):Nat→List Bool×List Int
 | 0=>(List.replicate l.length false,[id])
 | n+1=>ycy l kind (rN l id kind n)
def rOut (l:List Ent) (s:List Bool) (k:Nat):List Int:=((List.range k).filter fun j=>s[j]?.getD false).map fun j=>((l[j]?).map Ent.id).getD 0
def zo3 (l:List Ent) (id kind:Int):List Int:=rOut l (rN l id kind (l.length+1)).1 l.length
theorem z6c (l:List Ent) (kind:Int) (s:List Bool×List Int) (x:Lnk):(zk8 l kind s x).1.length=s.1.length∧(zk8 l kind s x).2.length≤s.2.length+1:=by
 unfold zk8;split <;> simp
theorem zo4 (l:List Ent) (kind:Int) : ∀ (xs:List Lnk) (s:List Bool×List Int),(xs.foldl (zk8 l kind) s).1.length=s.1.length∧(xs.foldl (zk8 l kind) s).2.length≤s.2.length+xs.length
 | [],s=>⟨rfl,Nat.le_refl _⟩
 | x::xs,s=>by
  have h1:=z6c l kind s x;have h2:=zo4 l kind xs (zk8 l kind s x);rw [List.foldl_cons,List.length_cons];exact ⟨h2.1.trans h1.1,by omega⟩
theorem zrz {l:List Ent} (hk : ∀ e∈l,e.links.length≤12) (t:Int):(getE l t).1.links.length≤12:=by
 rcases zc7 l t with ⟨_,h2⟩ | ⟨j,hj,_,h2⟩
 ·rw [h2];simp [Ent.zero]
 ·rw [h2];exact hk _ (List.getElem_mem hj)
theorem zo5 {l:List Ent} (hk : ∀ e∈l,e.links.length≤12) (kind:Int) : ∀ (ts:List Int) (s:List Bool×List Int),(ts.foldl (rOne l kind) s).1.length=s.1.length∧(ts.foldl (rOne l kind) s).2.length≤s.2.length+12*ts.length
 | [],s=>⟨rfl,by simp⟩
 | t::ts,s=>by
  have h1:=zo4 l kind (getE l t).1.links s;have h0:=zrz hk t;have h2:=zo5 hk kind ts (rOne l kind s t);rw [List.foldl_cons,List.length_cons];unfold rOne at h2 ⊢;exact ⟨h2.1.trans h1.1,by omega⟩
theorem ycz {l:List Ent} (hk : ∀ e∈l,e.links.length≤12) (id kind:Int) : ∀ n,(rN l id kind n).1.length=l.length∧(rN l id kind n).2.length≤12^n
 | 0=>by simp [rN]
 | n+1=>by
  have h:=ycz hk id kind n;have h2:=zo5 hk kind (rN l id kind n).2 ((rN l id kind n).1,[]);unfold rN ycy;simp only [List.length_nil,Nat.zero_add] at h2;refine ⟨h2.1.trans h.1,Nat.le_trans h2.2 ?_⟩
  rw [Nat.pow_succ];omega
theorem z6d (l:List Ent) (s:List Bool) (k:Nat):rOut l s (k+1)=rOut l s k++(if s[k]?.getD false=true then [((l[k]?).map Ent.id).getD 0] else []):=by
 unfold rOut
 rw [List.range_succ,List.filter_append,List.map_append]
 congr 1
 by_cases h:s[k]?.getD false=true
 ·simp [h]
 ·simp [h]
theorem z0o (l:List Ent) (s:List Bool) (k:Nat):(rOut l s k).length≤k:=by
 unfold rOut
 rw [List.length_map]
 have:=List.length_filter_le (fun j=>s[j]?.getD false) (List.range k)
 simpa using this
def rB (l:List Bool):List (List D):=l.map fun b=>[.bool b]
def rI (l:List Int):List (List D):=l.map fun n=>[int n]
def rH (l:List Ent) (id kind:Int) (i:Nat):St:=
 {n:=110,next:=3,slots:=[(0,.d (lexD l)),(1,.d (int id)),(2,.d (int kind)),(7,.ar 1),(8,.d (ints (rN l id kind i).2)),(9,.d (int i))],own:=[(1,.arr 4 1 (rB (rN l id kind i).1))],moved:=[3]}
def rM (l:List Ent) (id kind:Int) (i:Nat) (todo:List Int) (s:List Bool×List Int):St:=
 {n:=110,next:=4,slots:=[(0,.d (lexD l)),(1,.d (int id)),(2,.d (int kind)),(7,.ar 1),(8,.d (ints todo)),(9,.d (int i)),(10,.ar 3)],own:=[(1,.arr 4 1 (rB s.1)),(3,.arr 3 1 (rI s.2))],moved:=[3]}
def rMj (l:List Ent) (id kind:Int) (i:Nat) (todo:List Int) (j:Nat) (s:List Bool×List Int):St:=
 {n:=110,next:=4,slots:=[(0,.d (lexD l)),(1,.d (int id)),(2,.d (int kind)),(7,.ar 1),(8,.d (ints todo)),(9,.d (int i)),(10,.ar 3),(11,.d (int j))],own:=[(1,.arr 4 1 (rB s.1)),(3,.arr 3 1 (rI s.2))],moved:=[3]}
def rL (l:List Ent) (id kind:Int) (i:Nat) (todo:List Int) (j:Nat) (f:Int) (m:Nat) (s:List Bool×List Int):St:=
 {n:=110,next:=4,slots:=[(0,.d (lexD l)),(1,.d (int id)),(2,.d (int kind)),(7,.ar 1),(8,.d (ints todo)),(9,.d (int i)),(10,.ar 3),(11,.d (int j)),(12,.d (int f)),(13,.d (int m))],own:=[(1,.arr 4 1 (rB s.1)),(3,.arr 3 1 (rI s.2))],moved:=[3]}
set_option maxHeartbeats 16000000 in
theorem zr0 (l:List Ent) (id kind:Int) (hl:l.length≤5) (hk : ∀ e∈l,e.links.length≤12):zay Tryz.prog 124 [lexD l,int id,int kind] (ints (zo3 l id kind)):=by
 refine zaa mixed Tryz.func124 rfl call_124 ?_
 simp +decide [Tryz.f124,int,lexD]
 refine ⟨by omega,by unfold maxLen;omega,?_⟩
 refine zjq [2] ?_
 refine zbc mixed (rH l id kind) (fun i=>i≤l.length+1) (fun i=>l.length+1-i) 0 (by simp) (by simp +decide [rH,rN,int,ints,lexD,rB]) ?_
 intro i hi
 obtain ⟨n1,n2⟩:=ycz hk id kind i
 have hpw:12^i≤12^6:=Nat.pow_le_pow_right (by omega) (by omega)
 by_cases hlt:i<l.length+1
 ·have hlt':(i:Int)≤l.length:=by omega
  refine zhz mixed 1 (rH l id kind i) rfl (by simp +decide [rH,ze4,cutK,int,lexD,hlt']) ?_
  simp only [zfr];refine zcu (zco (zhz mixed 2 (rM l id kind i (rN l id kind i).2 (rN l id kind (i+1))) rfl ?_ ?_)) mixed
  ·unfold rH
   have n3:(rN l id kind i).2.length≤2985984:=Nat.le_trans n2 (Nat.le_trans hpw (by decide))
   have hsucc:rN l id kind (i+1)=(rN l id kind i).2.foldl (rOne l kind) ((rN l id kind i).1,[]):=rfl
   generalize rN l id kind (i+1)=nx at hsucc;generalize rN l id kind i=cur at hsucc n1 n2 n3 ⊢;obtain ⟨seen,todo⟩:=cur;simp only at hsucc n1 n2 n3
   simp +decide [rH,ze4,int,lexD];have hbase:(seen,[])=(([]:List Int).foldl (rOne l kind) (seen,[])):=rfl
   refine zaf mixed (fun j:Nat=>rMj l id kind i todo j ((todo.take j).foldl (rOne l kind) (seen,[]))) (fun j=>j≤todo.length) (fun j=>todo.length-j) 0 (by simp) (by simp +decide [rMj,int,ints,lexD,rB,rI]) ?_
   intro j hj;obtain ⟨m1,m2⟩:=zo5 hk kind (todo.take j) (seen,[]);rw [List.length_take] at m2;simp only [List.length_nil,Nat.zero_add] at m1 m2;by_cases hlj:j<todo.length
   case neg=>
    have:j=todo.length:=by omega
    subst this;rw [List.take_length,← hsucc];simp +decide [rMj,rM,int,ints,lexD,cutK];done
   have hlj':(j:Int)<todo.length:=by omega
   have hsn:(todo.take (j+1)).foldl (rOne l kind) (seen,[])=rOne l kind ((todo.take j).foldl (rOne l kind) (seen,[])) todo[j]:=by rw [zam hlj,List.foldl_append];rfl
   obtain ⟨t,et⟩ : ∃ t,todo[j]=t:=⟨_,rfl⟩;have et1:todo[j]?=some t:=by rw [List.getElem?_eq_getElem hlj,et]
   rw [et] at hsn;generalize (todo.take j).foldl (rOne l kind) (seen,[])=s0 at hsn m1 m2;have hF:=zow l t (by omega)
   have hlk:=zrz hk t;have hone:rOne l kind s0 t=(getE l t).1.links.foldl (zk8 l kind) s0:=rfl
   rw [hone] at hsn;simp +decide [rMj,int,ints,lexD,hlj,hlj',et,et1];refine zal.pure (by rfl) hF (by simp [int,lexD]) ?_
   simp +decide [int,ints,lexD];refine zaf mixed (fun m:Nat=>rL l id kind i todo j (zdj l t) m (((getE l t).1.links.take m).foldl (zk8 l kind) s0)) (fun m=>m≤(getE l t).1.links.length) (fun m=>(getE l t).1.links.length-m) 0 (by simp) (by simp +decide [rL,int,ints,lexD,rB,rI]) ?_
   intro m hm;rcases zc7 l t with ⟨f1,f2⟩ | ⟨q,hq,f1,f2⟩
   ·have hz:(getE l t).1.links=[]:=by rw [f2];rfl
    rw [hz] at hm hsn ⊢;have hm0:m=0:=by simpa using hm
    subst hm0;have hf0:¬ 0≤zdj l t:=by omega
    simp only [List.take_zero,List.foldl_nil] at hsn ⊢;simp +decide [rL,int,ints,lexD,hf0,I64];exact ⟨⟨by omega,by omega⟩,j+1,hlj,by omega,by omega,by rw [hsn],by rw [hsn]⟩
   ·rw [f2] at hm hsn hlk ⊢
    simp only at hm hsn hlk ⊢
    rw [f1];obtain ⟨e,ee⟩ : ∃ e,l[q]=e:=⟨_,rfl⟩;have eq1:l[q]?=some e:=by rw [List.getElem?_eq_getElem hq,ee]
    have hq':(q:Int)<l.length:=by omega
    rw [ee] at hm hsn hlk ⊢;by_cases hlm:m<e.links.length
    case neg=>
     have:m=e.links.length:=by omega
     subst this;rw [List.take_length,← hsn];simp +decide [rL,int,ints,lexD,hq,hq',ee,eq1,Ent.row,lnkD,I64];exact ⟨⟨by omega,by omega⟩,j+1,hlj,by omega,by omega,rfl,rfl⟩
    have hlm':(m:Int)<e.links.length:=by omega
    obtain ⟨p1,p2⟩:=zo4 l kind (e.links.take m) s0;rw [List.length_take] at p2;have hsm:(e.links.take (m+1)).foldl (zk8 l kind) s0=zk8 l kind ((e.links.take m).foldl (zk8 l kind) s0) e.links[m]:=by rw [zam hlm,List.foldl_append];rfl
    obtain ⟨x,ex⟩ : ∃ x,e.links[m]=x:=⟨_,rfl⟩;have ex1:e.links[m]?=some x:=by rw [List.getElem?_eq_getElem hlm,ex]
    rw [ex] at hsm;generalize (e.links.take m).foldl (zk8 l kind) s0=s1 at hsm p1 p2;have hG:=zow l x.dst (by omega)
    have hstep:zk8 l kind s1 x=if x.kind=kind∧0≤zdj l x.dst∧s1.1[(zdj l x.dst).toNat]?.getD true=false then (s1.1.set (zdj l x.dst).toNat true,s1.2++[x.dst]) else s1:=rfl
    rw [hstep] at hsm;simp +decide [rL,int,ints,lexD,hq,hq',ee,eq1,Ent.row,lnkD,Lnk.row,I64,hlm,hlm',ex,ex1];refine zal.pure (by rfl) hG (by simp [int,lexD]) ?_
    by_cases k1:x.kind=kind
    case neg=>
     rw [if_neg (fun h=>k1 h.1)] at hsm
     simp +decide [int,k1,I64];exact ⟨⟨by omega,by omega⟩,m+1,hlm,by omega,by omega,by rw [hsm],by rw [hsm]⟩
    rcases zc7 l x.dst with ⟨g1,g2⟩ | ⟨u,hu,g1,g2⟩
    ·have hg0:¬ 0≤zdj l x.dst:=by omega
     rw [if_neg (fun h=>hg0 h.2.1)] at hsm
     simp +decide [int,k1,hg0,I64];exact ⟨⟨by omega,by omega⟩,m+1,hlm,by omega,by omega,by rw [hsm],by rw [hsm]⟩
    ·have hul:u<s1.1.length:=by omega
     obtain ⟨b,eb⟩ : ∃ b,s1.1[u]=b:=⟨_,rfl⟩;have eb1:s1.1[u]?=some b:=by rw [List.getElem?_eq_getElem hul,eb]
     rw [g1] at hsm;simp only [Int.toNat_natCast,eb1,Option.getD_some] at hsm;have hu':(u:Int)<s1.1.length:=by omega
     cases b with
     | true=>
      rw [if_neg (fun h=>by cases h.2.2)] at hsm
      simp +decide [int,k1,g1,rB,hul,hu',eb,eb1,I64];exact ⟨⟨by omega,by omega⟩,m+1,hlm,by omega,by omega,by rw [hsm],by rw [hsm]⟩
     | false=>
      rw [if_pos ⟨k1,by omega,rfl⟩] at hsm
      simp +decide [int,k1,g1,rB,rI,hul,hu',eb,eb1,I64];exact ⟨by omega,by unfold maxLen;omega,⟨by omega,by omega⟩,m+1,hlm,by omega,by omega,by rw [hsm];simp [List.map_set],by rw [hsm];simp⟩
  ·simp only [zfr]
   refine zjq [3] ?_
   refine zaq mixed ?_
   simp +decide [rM,int,lexD];exact ⟨⟨by omega,by omega⟩,i+1,by omega,by omega,by simp +decide [rH,int,ints,lexD,rB,rI]⟩
 ·have:i=l.length+1:=by omega
  subst this;refine zaq mixed ?_
  have hn:¬(l.length:Int)+1≤l.length:=by omega
  simp +decide [rH,int,lexD,hn];have hfin:zo3 l id kind=rOut l (rN l id kind (l.length+1)).1 l.length:=rfl
  generalize (rN l id kind (l.length+1)).1=seen at hfin n1 ⊢;refine zaf mixed (fun k:Nat=>{n:=110,next:=4,slots:=[(0,.d (lexD l)),(7,.ar 1),(16,.ar 3),(17,.d (int k))],own:=[(1,.arr 4 1 (rB seen)),(3,.arr 3 1 (rI (rOut l seen k)))],moved:=[3]}) (fun k=>k≤l.length) (fun k=>l.length-k) 0 (by simp) (by simp +decide [int,ints,lexD,rB,rI,rOut]) ?_
  intro k hkl;have hol:=z0o l seen k;by_cases hlk:k<l.length
  ·have hlk':(k:Int)<l.length:=by omega
   have hks:k<seen.length:=by omega
   have hks':(k:Int)<seen.length:=by omega
   have hsn:=z6d l seen k;obtain ⟨e,ee⟩ : ∃ e,l[k]=e:=⟨_,rfl⟩;have e1:l[k]?=some e:=by rw [List.getElem?_eq_getElem hlk,ee]
   obtain ⟨b,eb⟩ : ∃ b,seen[k]=b:=⟨_,rfl⟩;have eb1:seen[k]?=some b:=by rw [List.getElem?_eq_getElem hks,eb]
   rw [e1,eb1] at hsn;cases b with
   | false=>
    simp only [Option.getD_some,Bool.false_eq_true,if_false,List.append_nil] at hsn;simp +decide [int,ints,lexD,rB,hlk,hlk',hks,hks',ee,e1,eb,eb1,I64];exact ⟨⟨by omega,by omega⟩,k+1,hlk,by omega,by omega,by rw [hsn]⟩
   | true=>
    simp only [Option.getD_some,if_true,Option.map_some] at hsn;simp +decide [int,ints,lexD,rB,rI,Ent.row,hlk,hlk',hks,hks',ee,e1,eb,eb1,I64];exact ⟨by omega,by unfold maxLen;omega,⟨by omega,by omega⟩,k+1,hlk,by omega,by omega,by rw [hsn];simp⟩
  ·have:k=l.length:=by omega
   subst this;rw [hfin];simp +decide [int,ints,lexD,rI]
end Go.V
namespace Go.V
open Go Go.Proofs
theorem zr1 (l:List Ent) (id kind:Int):(zo3 l id kind).length≤l.length:=z0o _ _ _
set_option maxHeartbeats 16000000 in
theorem z2w (l:List Ent) (hl:l.length≤5) (hk : ∀ e∈l,e.links.length≤12):zef Tryz.prog 79 [lexD l] IsI:=by
 refine za3 mixed Tryz.func79 rfl call_79 ?_
 simp +decide [Tryz.f79,int,lexD]
 refine zaf mixed (fun i:Nat=>{n:=91,next:=0,slots:=[(0,.d (lexD l)),(3,.d (int i))],own:=[]}) (fun i=>i≤l.length) (fun i=>l.length-i) 0 (by simp) (by simp +decide [int,lexD]) ?_
 intro i hi
 by_cases hli:i<l.length
 ·have hli':(i:Int)<l.length:=by omega
  have hlk:=hk l[i] (List.getElem_mem hli);obtain ⟨e,ee⟩ : ∃ e,l[i]=e:=⟨_,rfl⟩;have e1:l[i]?=some e:=by rw [List.getElem?_eq_getElem hli,ee]
  rw [ee] at hlk;simp +decide [int,lexD,hli'];refine zaf mixed (fun k:Nat=>{n:=91,next:=0,slots:=[(0,.d (lexD l)),(3,.d (int i)),(4,.d (int k))],own:=[]}) (fun k=>k≤e.links.length) (fun k=>e.links.length-k) 0 (by simp) (by simp +decide [int,lexD]) ?_
  intro k hkl;by_cases hlm:k<e.links.length
  ·have hlm':(k:Int)<e.links.length:=by omega
   obtain ⟨x,ex⟩ : ∃ x,e.links[k]=x:=⟨_,rfl⟩;have ex1:e.links[k]?=some x:=by rw [List.getElem?_eq_getElem hlm,ex]
   simp +decide [int,lexD,Ent.row,lnkD,Lnk.row,hli,hli',ee,e1,hlm,hlm',ex,ex1];refine zal.pure (by rfl) (zng x.kind) (by simp [int]) ?_
   by_cases c1:invC x.kind<0
   ·simp +decide [int,c1]
   simp +decide [int,lexD,c1];refine zal.pure (by rfl) (zow l x.dst (by omega)) (by simp [int,lexD]) ?_
   rcases zc7 l x.dst with ⟨g1,g2⟩ | ⟨u,hu,g1,g2⟩
   ·simp +decide [int,g1]
   ·have hu':(u:Int)<l.length:=by omega
    have hul:=hk l[u] (List.getElem_mem hu);obtain ⟨y,ey⟩ : ∃ y,l[u]=y:=⟨_,rfl⟩;have ey1:l[u]?=some y:=by rw [List.getElem?_eq_getElem hu,ey]
    rw [ey] at hul;have hH:=ya4 y ⟨invC x.kind,e.id⟩ (by omega)
    rw [g1];simp +decide [int,lexD,Ent.row,lnkD,Lnk.row,hli,hli',ee,e1,hu,hu',ey,ey1];refine zah (by rfl) (by rfl) (zng x.kind) (by simp [int]) ?_
    simp +decide [int,lexD,Ent.row,lnkD,Lnk.row,hli,hli',ee,e1,hu,hu',ey,ey1];refine zah (by rfl) (by rfl) hH (by simp [int,Ent.row,Lnk.row]) ?_
    cases hb:zvk y ⟨invC x.kind,e.id⟩ with
    | false=>simp +decide [int]
    | true=>
     simp +decide [int,I64,lexD];exact ⟨⟨by omega,by omega⟩,k+1,hlm,by omega,by omega⟩
  ·have hlm':¬(k:Int)<e.links.length:=by omega
   simp +decide [int,lexD,Ent.row,lnkD,hli,hli',ee,e1,hlm',I64];exact ⟨⟨by omega,by omega⟩,i+1,hli,by omega,by omega⟩
 ·have hli':¬(i:Int)<l.length:=by omega
  simp +decide [int,lexD,hli'];refine zaf mixed (fun i:Nat=>{n:=91,next:=0,slots:=[(0,.d (lexD l)),(7,.d (int i))],own:=[]}) (fun i=>i≤l.length) (fun i=>l.length-i) 0 (by simp) (by simp +decide [int,lexD]) ?_
  intro j hj;by_cases hlj:j<l.length
  ·have hlj':(j:Int)<l.length:=by omega
   obtain ⟨e,ee⟩ : ∃ e,l[j]=e:=⟨_,rfl⟩;have e1:l[j]?=some e:=by rw [List.getElem?_eq_getElem hlj,ee]
   have r2:=zr1 l e.id 2;have r4:=zr1 l e.id 4;simp +decide [int,lexD,Ent.row,hlj,hlj',ee,e1];refine zah (by rfl) (by rfl) (zr0 l e.id 2 hl hk) (by simp [int,lexD]) ?_
   simp +decide [int,ints,lexD,Ent.row,hlj,hlj',ee,e1];refine zah (by rfl) (by rfl) (z6b (zo3 l e.id 2) e.id (by omega)) (by simp [int,ints]) ?_
   by_cases m2:e.id∈zo3 l e.id 2
   ·simp +decide [int,m2]
   simp +decide [int,lexD,Ent.row,hlj,hlj',ee,e1,m2];refine zah (by rfl) (by rfl) (zr0 l e.id 4 hl hk) (by simp [int,lexD]) ?_
   simp +decide [int,ints,lexD,Ent.row,hlj,hlj',ee,e1,m2];refine zah (by rfl) (by rfl) (z6b (zo3 l e.id 4) e.id (by omega)) (by simp [int,ints]) ?_
   by_cases m4:e.id∈zo3 l e.id 4
   ·simp +decide [int,m2,m4]
   ·simp +decide [int,m2,m4,I64,lexD]
    exact ⟨⟨by omega,by omega⟩,j+1,hlj,by omega,by omega⟩
  ·have hlj':¬(j:Int)<l.length:=by omega
   simp +decide [int,lexD,hlj']
structure MainF (l:List Ent):Prop where
 main : ∀ e∈l,e.main≠0→0≤zdj l e.main
 ends : ∀ e∈l,(wayG l (l.length+1) e.id).length≤l.length
set_option maxHeartbeats 8000000 in
theorem z2y (l:List Ent) (hl:l.length≤1048576):zef Tryz.prog 80 [lexD l] (fun x=>∃ n,x=int n∧(n=0→MainF l)):=by
 refine za3 mixed Tryz.func80 rfl call_80 ?_
 simp +decide [Tryz.f80,int,lexD]
 refine zaf mixed (fun i:Nat=>{n:=44,next:=0,slots:=[(0,.d (lexD l)),(3,.d (int i))],own:=[]}) (fun i=>i≤l.length∧∀ e∈l.take i,e.main≠0→0≤zdj l e.main) (fun i=>l.length-i) 0 (by simp) (by simp +decide [int,lexD]) ?_
 intro i ⟨hi,hp⟩
 by_cases hli:i<l.length
 ·have hli':(i:Int)<l.length:=by omega
  obtain ⟨e,ee⟩ : ∃ e,l[i]=e:=⟨_,rfl⟩;have e1:l[i]?=some e:=by rw [List.getElem?_eq_getElem hli,ee]
  have hsn:=zam hli;rw [ee] at hsn;have hgo:(e.main≠0→0≤zdj l e.main)→∀ x∈l.take (i+1),x.main≠0→0≤zdj l x.main:=by
   intro h x hx;rw [hsn] at hx;rcases List.mem_append.1 hx with h' | h'
   ·exact hp x h'
   ·rw [List.mem_singleton] at h';rw [h'];exact h
  by_cases hm:e.main=0
  ·have hg:=hgo (fun h=>absurd hm h)
   simp +decide [int,lexD,Ent.row,hli,hli',ee,e1,hm,I64];exact ⟨⟨by omega,by omega⟩,i+1,⟨hli,hg⟩,by omega,by omega⟩
  ·simp +decide [int,lexD,Ent.row,hli,hli',ee,e1,hm,I64]
   refine zal.pure (by rfl) (zov l e.main (by omega)) (by simp [int,lexD]) ?_
   by_cases c1:zdj l e.main<0
   ·simp +decide [int,c1]
   ·have hg:=hgo (fun _=>by omega)
    simp +decide [int,c1,I64,lexD];exact ⟨⟨by omega,by omega⟩,i+1,⟨hli,hg⟩,by omega,by omega⟩
 ·have:i=l.length:=by omega
  subst this;rw [List.take_length] at hp;simp +decide [int,lexD];refine zaf mixed (fun i:Nat=>{n:=44,next:=0,slots:=[(0,.d (lexD l)),(4,.d (int i))],own:=[]}) (fun i=>i≤l.length∧∀ e∈l.take i,(wayG l (l.length+1) e.id).length≤l.length) (fun i=>l.length-i) 0 (by simp) (by simp +decide [int,lexD]) ?_
  intro j ⟨hj,hq⟩;by_cases hlj:j<l.length
  ·have hlj':(j:Int)<l.length:=by omega
   obtain ⟨e,ee⟩ : ∃ e,l[j]=e:=⟨_,rfl⟩;have e1:l[j]?=some e:=by rw [List.getElem?_eq_getElem hlj,ee]
   have hsn:=zam hlj;rw [ee] at hsn;simp +decide [int,lexD,Ent.row,hlj,hlj',ee,e1,I64];refine zal.pure (by rfl) (yaw l e.id (by omega)) (by simp [int,lexD]) ?_
   by_cases c1:l.length<(wayG l (l.length+1) e.id).length
   ·have c1':(l.length:Int)<(wayG l (l.length+1) e.id).length:=by omega
    simp +decide [int,ints,lexD,c1,c1']
   ·have c1':¬(l.length:Int)<(wayG l (l.length+1) e.id).length:=by omega
    simp +decide [int,ints,lexD,c1,c1',I64];refine ⟨⟨by omega,by omega⟩,j+1,⟨hlj,fun x hx=>?_⟩,by omega,by omega⟩
    rw [hsn] at hx;rcases List.mem_append.1 hx with h' | h'
    ·exact hq x h'
    ·rw [List.mem_singleton] at h';rw [h'];omega
  ·have:j=l.length:=by omega
   subst this;rw [List.take_length] at hq;simp +decide [int,lexD];exact ⟨hp,hq⟩
end Go.V
namespace Go.V
open Go Go.Proofs
theorem z2z {s:ByteArray} (h:zjw s=true):0<s.size∧s.size≤32:=by
 unfold zjw at h
 simp only [Bool.and_eq_true,decide_eq_true_eq] at h
 omega
structure UnitF (u:Grap):Prop where
 pos:0<u.graph.size
 size:u.graph.size≤32
 segs:1≤u.segs.length
 few:u.segs.length≤3
theorem zyh (s:ByteArray) (hs:s.size≤1048576):zef Tryz.prog 114 [.str s] (fun x=>∃ b,x = .bool b∧(b=true→0<s.size∧s.size≤32)):=by
 refine za3 mixed Tryz.func114 rfl call_114 ?_
 simp +decide [Tryz.f114,int]
 refine zaf mixed (fun k:Nat=>{n:=16,next:=0,slots:=[(0,.d (.str s)),(3,.d (int k))],own:=[]})
  (fun k=>k≤s.size) (fun k=>s.size-k) 0 (by simp) (by simp +decide [int]) ?_
 intro k hk
 by_cases hlt:k<s.size
 ·have hlt':(k:Int)<s.size:=by omega
  have e1:byteAt s (k:Int)=(zao s k:Int):=zcy s k
  by_cases b1:(zao s k:Int)=32
  ·simp +decide [int,hlt,hlt',e1,b1]
  ·simp +decide [int,hlt,hlt',e1,b1,I64]
   exact ⟨⟨by omega,by omega⟩,k+1,hlt,by omega,by omega⟩
 ·have hlt':¬(k:Int)<s.size:=by omega
  simp +decide [int,hlt'];refine zal.pure (by rfl) (zo2 s hs) (by simp) ?_
  simp +decide [int];cases h:zjw s with
  | false=>exact .inl rfl
  | true=>exact .inr ⟨rfl,z2z h⟩
set_option maxHeartbeats 4000000 in
theorem z3a (inv:List Phon) (o:Orth) (ho:OrthC o) (i:Nat) (hi:i<o.units.length) (hl:inv.length<2^40):zef Tryz.prog 113 [.agg [invD inv],.agg o.cells,int i] (fun x=>∃ n,x=int n∧(n=0→∀ u,o.units[i]?=some u→UnitF u)):=by
 refine za3 mixed Tryz.func113 rfl call_113 ?_
 have hi':(i:Int)<o.units.length:=by omega
 have hu:=ho.units o.units[i] (List.getElem_mem hi)
 have hfew:=ho.few.1
 obtain ⟨u,eu⟩ : ∃ u,o.units[i]=u:=⟨_,rfl⟩
 have eu1:o.units[i]?=some u:=by rw [List.getElem?_eq_getElem hi,eu]
 rw [eu] at hu
 rw [eu1]
 simp +decide [Tryz.f113,int,Orth.cells,za4,hi,hi',eu,eu1,Grap.row]
 refine zal.some (by rfl) (zyh u.graph hu.1) ?_
 rintro r ⟨b,rfl,hpos⟩
 cases b with
 | false=>simp +decide [int]
 | true=>
  have hpos:=hpos rfl;simp +decide [int];refine zaf mixed (fun k:Nat=>{n:=67,next:=3,slots:=[(2,.d (int i)),(3,.bp 0 0),(4,.bp 1 0),(7,.bp 2 0),(8,.d (int k))],own:=[(0,.box 24 [.d (invD inv)]),(1,.box 28 (o.cells.map .d)),(2,.box 119 [.d (.str u.graph),.d (ints u.segs)])]})
   (fun k=>k≤i) (fun k=>i-k) 0 (by simp) (by simp +decide [int,ints,Orth.cells,za4,Grap.row]) ?_
  intro k hk;by_cases hlt:k<i
  ·have hlt':(k:Int)<i:=by omega
   have hku:k<o.units.length:=by omega
   have hku':(k:Int)<o.units.length:=by omega
   obtain ⟨x,ex⟩ : ∃ x,o.units[k]=x:=⟨_,rfl⟩;have ex1:o.units[k]?=some x:=by rw [List.getElem?_eq_getElem hku,ex]
   by_cases b1:x.graph=u.graph
   ·simp +decide [int,ints,Orth.cells,za4,Grap.row,hlt,hlt',hku,hku',ex,ex1,b1]
   ·simp +decide [int,ints,Orth.cells,za4,Grap.row,hlt,hlt',hku,hku',ex,ex1,b1,I64]
    exact fun _=>⟨⟨by omega,by omega⟩,k+1,hlt,by omega,by omega⟩
  ·have hlt':¬(k:Int)<i:=by omega
   by_cases c1:(u.segs.length:Int)<1
   ·simp +decide [int,ints,Orth.cells,za4,Grap.row,hlt,hlt',c1]
   ·by_cases c2:(3:Int)<u.segs.length
    ·simp +decide [int,ints,Orth.cells,za4,Grap.row,hlt,hlt',c1,c2]
    ·simp +decide [int,ints,Orth.cells,za4,Grap.row,hlt,hlt',c1,c2]
     refine zaf mixed (fun m:Nat=>{n:=67,next:=3,slots:=[(2,.d (int i)),(3,.bp 0 0),(4,.bp 1 0),(7,.bp 2 0),(9,.d (int m))],own:=[(0,.box 24 [.d (invD inv)]),(1,.box 28 (o.cells.map .d)),(2,.box 119 [.d (.str u.graph),.d (ints u.segs)])]})
      (fun m=>m≤u.segs.length) (fun m=>u.segs.length-m) 0 (by simp) (by simp +decide [int,ints,Orth.cells,za4,Grap.row]) ?_
     intro m hm;by_cases hlm:m<u.segs.length
     ·have hlm':(m:Int)<u.segs.length:=by omega
      obtain ⟨y,ey⟩ : ∃ y,u.segs[m]=y:=⟨_,rfl⟩;have ey1:u.segs[m]?=some y:=by rw [List.getElem?_eq_getElem hlm,ey]
      by_cases b1:y<1
      ·simp +decide [int,ints,hlm,hlm',ey,ey1,b1]
      ·by_cases b2:(inv.length:Int)<y
       ·simp +decide [int,ints,invD,hlm,hlm',ey,ey1,b1,b2]
       ·simp +decide [int,ints,invD,hlm,hlm',ey,ey1,b1,b2,I64]
        exact ⟨⟨by omega,by omega⟩,m+1,hlm,by omega,by omega,by simp [Orth.cells,Sym.los,Sym.lo]⟩
     ·have hlm':¬(m:Int)<u.segs.length:=by omega
      simp +decide [int,ints,hlm'];exact ⟨hpos.1,hpos.2,by omega,by omega⟩
set_option maxHeartbeats 8000000 in
theorem zyi (inv:List Phon) (o:Orth) (ho:OrthC o) (hl:inv.length<2^40):zef Tryz.prog 75 [.agg [invD inv],.agg o.cells] (fun x=>∃ n,x=int n∧(n=0→∀ u∈o.units,UnitF u)):=by
 have hfew:=ho.few
 refine za3 mixed Tryz.func75 rfl call_75 ?_
 simp +decide [Tryz.f75,int,Orth.cells]
 refine zal.pure (by rfl) (z2j o.name (by have:=ho.name;omega)) (by simp) ?_
 cases hnm:nameP o.name with
 | false=>simp +decide [int]
 | true=>
  by_cases h0:(100:Int)<o.units.length
  ·simp +decide [int,za4,h0]
  simp +decide [int,za4,h0];refine zaf mixed (fun k:Nat=>{n:=79,next:=2,slots:=[(2,.bp 0 0),(3,.bp 1 0),(5,.d (int k))],own:=[(0,.box 24 [.d (invD inv)]),(1,.box 28 (o.cells.map .d))]})
   (fun k=>k≤o.units.length∧∀ u∈o.units.take k,UnitF u) (fun k=>o.units.length-k) 0 (by simp) (by simp +decide [int,za4,Orth.cells]) ?_
  intro k ⟨hk,hgp⟩;by_cases hlt:k<o.units.length
  ·have hlt':(k:Int)<o.units.length:=by omega
   simp +decide [int,za4,hlt,hlt',Orth.cells];refine zal.some (by rfl) (z3a inv o ho k hlt hl) ?_
   rintro r ⟨e,rfl,hpos⟩
   by_cases he:e=0
   ·subst he
    simp +decide [int,I64];exact ⟨⟨by omega,by omega⟩,k+1,⟨hlt,fun u hu=>by
     rw [zam hlt] at hu;rcases List.mem_append.1 hu with h | h
     ·exact hgp u h
     ·rw [List.mem_singleton] at h
      exact hpos rfl u (by rw [List.getElem?_eq_getElem hlt,h])⟩,by omega,by simp [Orth.cells,Sym.los,Sym.lo,za4]⟩
   ·simp +decide [int,he]
  ·have hlt':¬(k:Int)<o.units.length:=by omega
   have:k=o.units.length:=by omega
   subst this;rw [List.take_length] at hgp;by_cases h1:(100:Int)<o.letters.length
   ·simp +decide [int,za4,zdn,hlt',h1,Orth.cells]
   simp +decide [int,za4,zdn,hlt',h1,Orth.cells];refine zaf mixed (fun x:Nat×List ByteArray=>{n:=79,next:=3,slots:=[(2,.bp 0 0),(3,.bp 1 0),(7,.ar 2),(8,.d (int x.1))],own:=[(0,.box 24 [.d (invD inv)]),(1,.box 28 (o.cells.map .d)),(2,.arr 9 1 (x.2.map fun s=>[.str s]))],moved:=[2]})
    (fun x=>x.1≤o.letters.length∧x.2.length≤x.1*1048576) (fun x=>o.letters.length-x.1) (0,[]) (by simp) (by simp +decide [int,za4,zdn,Orth.cells]) ?_
   rintro ⟨i,seen⟩ ⟨hi,hs⟩
   simp only at hi hs
   by_cases hli:i<o.letters.length
   ·have hli':(i:Int)<o.letters.length:=by omega
    have hL:=ho.letters o.letters[i] (List.getElem_mem hli);obtain ⟨L,eL⟩ : ∃ L,o.letters[i]=L:=⟨_,rfl⟩;have eL1:o.letters[i]?=some L:=by rw [List.getElem?_eq_getElem hli,eL]
    rw [eL] at hL;by_cases hz:L.length=0
    ·simp +decide [int,za4,zdn,Orth.cells,hli,hli',eL,eL1,hz]
    have hz':¬(L.length:Int)=0:=by omega
    simp +decide [int,za4,zdn,Orth.cells,hli,hli',eL,eL1,hz,hz'];refine zaf mixed (fun x:Nat×List ByteArray=>{n:=79,next:=3,slots:=[(2,.bp 0 0),(3,.bp 1 0),(7,.ar 2),(8,.d (int i)),(9,.d (int x.1))],own:=[(0,.box 24 [.d (invD inv)]),(1,.box 28 (o.cells.map .d)),(2,.arr 9 1 (x.2.map fun s=>[.str s]))],moved:=[2]})
     (fun x=>x.1≤L.length∧x.2.length≤i*1048576+x.1) (fun x=>L.length-x.1) (0,seen) (by simpa using hs) (by simp +decide [int,za4,zdn,Orth.cells]) ?_
    rintro ⟨m,sn⟩ ⟨hm,hs2⟩
    simp only at hm hs2
    by_cases hlm:m<L.length
    ·have hlm':(m:Int)<L.length:=by omega
     have hS:=hL.2 L[m] (List.getElem_mem hlm);obtain ⟨y,ey⟩ : ∃ y,L[m]=y:=⟨_,rfl⟩;have ey1:L[m]?=some y:=by rw [List.getElem?_eq_getElem hlm,ey]
     rw [ey] at hS;simp +decide [int,za4,zdn,Orth.cells,hli,hli',eL,eL1,hlm,hlm',ey,ey1];refine zal.some (by rfl) (z2i y hS) ?_
     rintro r ⟨b,rfl⟩
     cases b with
     | false=>simp +decide [int]
     | true=>
      simp +decide [int];refine zal.some (by rfl) (yaz sn y (by omega)) ?_
      rintro r ⟨b,rfl⟩
      cases b with
      | true=>simp +decide [int]
      | false=>
       simp +decide [int,I64];exact ⟨by omega,by unfold maxLen;omega,⟨by omega,by omega⟩,m+1,sn++[y],⟨hlm,by rw [List.length_append];simp;omega⟩,by omega,by omega,by simp⟩
    ·have hlm':¬(m:Int)<L.length:=by omega
     simp +decide [int,za4,zdn,Orth.cells,hli,hli',eL,eL1,hlm',I64];exact ⟨⟨by omega,by omega⟩,i+1,sn,⟨hli,by omega⟩,by omega,by omega,rfl⟩
   ·have hli':¬(i:Int)<o.letters.length:=by omega
    simp +decide [int,za4,zdn,hli',Orth.cells];exact hgp
end Go.V
namespace Go.V
open Go Go.Proofs
structure SmallL (l:List Ent):Prop where
 few:l.length≤5
 forms : ∀ e∈l,e.form.length≤3∧e.alts.length≤1∧∀ w∈e.alts,w.length≤3
set_option maxHeartbeats 8000000 in
theorem z3b (l:List Ent) (hl:l.length≤1048576):zef Tryz.prog 35 [lexD l] (fun x=>∃ b,x = .bool b∧(b=true→SmallL l)):=by
 refine za3 mixed Tryz.func35 rfl call_35 ?_
 by_cases h0:(5:Int)<l.length
 ·simp +decide [Tryz.f35,int,lexD,h0]
 simp +decide [Tryz.f35,int,lexD,h0]
 refine zaf mixed (fun i:Nat=>{n:=50,next:=0,slots:=[(0,.d (lexD l)),(3,.d (int i))],own:=[]}) (fun i=>i≤l.length∧∀ e∈l.take i,e.form.length≤3∧e.alts.length≤1∧∀ w∈e.alts,w.length≤3) (fun i=>l.length-i) 0 (by simp) (by simp +decide [int,lexD]) ?_
 intro i ⟨hi,hp⟩
 by_cases hli:i<l.length
 ·have hli':(i:Int)<l.length:=by omega
  obtain ⟨e,ee⟩ : ∃ e,l[i]=e:=⟨_,rfl⟩;have e1:l[i]?=some e:=by rw [List.getElem?_eq_getElem hli,ee]
  have hsn:=zam hli;rw [ee] at hsn;by_cases c1:(3:Int)<e.form.length
  ·simp +decide [int,ints,lexD,Ent.row,hli,hli',ee,e1,c1]
  by_cases c2:(1:Int)<e.alts.length
  ·simp +decide [int,ints,lexD,zbh,Ent.row,hli,hli',ee,e1,c1,c2]
  simp +decide [int,ints,lexD,zbh,Ent.row,hli,hli',ee,e1,c1,c2];refine zaf mixed (fun k:Nat=>{n:=50,next:=0,slots:=[(0,.d (lexD l)),(3,.d (int i)),(4,.d (int k))],own:=[]}) (fun k=>k≤e.alts.length∧∀ w∈e.alts.take k,w.length≤3) (fun k=>e.alts.length-k) 0 (by simp) (by simp +decide [int,lexD]) ?_
  intro k ⟨hk,hq⟩;by_cases hlk:k<e.alts.length
  ·have hlk':(k:Int)<e.alts.length:=by omega
   obtain ⟨w,ew⟩ : ∃ w,e.alts[k]=w:=⟨_,rfl⟩;have ew1:e.alts[k]?=some w:=by rw [List.getElem?_eq_getElem hlk,ew]
   have hsk:=zam hlk;rw [ew] at hsk;by_cases c3:(3:Int)<w.length
   ·simp +decide [int,ints,lexD,zbh,Ent.row,hli,hli',ee,e1,hlk,hlk',ew,ew1,c3]
   ·simp +decide [int,ints,lexD,zbh,Ent.row,hli,hli',ee,e1,hlk,hlk',ew,ew1,c3,I64]
    refine ⟨⟨by omega,by omega⟩,k+1,⟨hlk,fun x hx=>?_⟩,by omega,by omega⟩
    rw [hsk] at hx;rcases List.mem_append.1 hx with h' | h'
    ·exact hq x h'
    ·rw [List.mem_singleton] at h';rw [h'];omega
  ·have:k=e.alts.length:=by omega
   subst this;rw [List.take_length] at hq;simp +decide [int,ints,lexD,zbh,Ent.row,hli,hli',ee,e1,I64];refine ⟨⟨by omega,by omega⟩,i+1,⟨hli,fun x hx=>?_⟩,by omega,by omega⟩
   rw [hsn] at hx;rcases List.mem_append.1 hx with h' | h'
   ·exact hp x h'
   ·rw [List.mem_singleton] at h';rw [h'];exact ⟨by omega,by omega,hq⟩
 ·have:i=l.length:=by omega
  subst this;rw [List.take_length] at hp;simp +decide [int,lexD];exact ⟨by omega,hp⟩
structure LangC (g:Lang):Prop where
 inv:InvC g.inv
 orth:OrthC g.orth
 rules:RulesC g.rules
 steps:g.net.steps.length≤1048576
 final:g.net.final.length≤1048576
 lex:LexC g.lex
structure RightF (g:Lang):Prop where
 rules : ∀ r∈g.rules,RuleL r
 dsts : ∀ r∈g.rules,DstF g.inv r
 net:NetF g.net
 lex:LexF g.inv g.lex
 main:MainF g.lex
 units1 : ∀ u∈g.orth.units,UnitF u
theorem RightF.graphs {g:Lang} (h:RightF g) : ∀ u∈g.orth.units,0<u.graph.size:=fun u hu=>(h.units1 u hu).pos
set_option maxHeartbeats 8000000 in
theorem z3c (g:Lang) (hg:LangC g) (h5:g.lex.length≤5):zef Tryz.prog 36 [g.d] (fun x=>∃ n,x=int n∧(n=0→RightF g)):=by
 have hil:=hg.inv.1
 refine za3 mixed Tryz.func36 rfl call_36 ?_
 simp +decide [Tryz.f36,int,Lang.d]
 refine zal.some (by rfl) (z2k g.inv hg.inv) ?_
 rintro r ⟨n,rfl⟩
 by_cases z1:n=0
 case neg=>simp +decide [int,z1]
 simp +decide [int,z1]
 refine zal.some (by rfl) (zyi g.inv g.orth hg.orth (by omega)) ?_
 rintro r ⟨n,rfl,hG⟩
 by_cases z2:n=0
 case neg=>simp +decide [int,z2]
 have hG:=hG z2
 simp +decide [int,z2]
 refine zal.some (by rfl) (z2o g hg.rules) ?_
 rintro r ⟨n,rfl,hR⟩
 by_cases z3:n=0
 case neg=>simp +decide [int,z3]
 have hR:=hR z3
 simp +decide [int,z3]
 refine zal.some (by rfl) (z2p g.net hg.steps hg.final) ?_
 rintro r ⟨n,rfl,hN⟩
 by_cases z4:n=0
 case neg=>simp +decide [int,z4]
 have hN:=hN z4
 simp +decide [int,z4]
 refine zal.some (by rfl) (z2v g.inv g.lex hg.lex) ?_
 rintro r ⟨n,rfl,hL⟩
 by_cases z5:n=0
 case neg=>simp +decide [int,z5]
 have hL:=hL z5
 simp +decide [int,z5]
 refine zal.some (by rfl) (z2w g.lex h5 fun e he=>(hL.each e he).links) ?_
 rintro r ⟨n,rfl⟩
 by_cases z6:n=0
 case neg=>simp +decide [int,z6]
 simp +decide [int,z6]
 refine zal.some (by rfl) (z2y g.lex (by omega)) ?_
 rintro r ⟨n,rfl,hM⟩
 simp +decide [int]
 exact fun h=>⟨fun r hr=>(hR r hr).1,fun r hr=>(hR r hr).2,hN,hL,hM h,hG⟩
structure LightF (g:Lang):Prop extends RightF g where
 small:SmallL g.lex
 segs:g.inv.length≤8
 units:g.orth.units.length≤10
 few:g.rules.length≤2
 states:g.net.states≤3
 steps:g.net.steps.length≤6
 final:g.net.final.length≤3
set_option maxHeartbeats 16000000 in
theorem z3d (g:Lang) (hg:LangC g):zef Tryz.prog 13 [g.d] (fun x=>∃ b,x = .bool b∧(b=true→LightF g)):=by
 have hlf:=hg.lex.few
 have hrf:=hg.rules.few
 refine za3 mixed Tryz.func13 rfl call_13 ?_
 by_cases c1:(8:Int)<g.inv.length
 ·simp +decide [Tryz.f13,int,Lang.d,invD,c1]
 by_cases c2:(10:Int)<g.orth.units.length
 ·simp +decide [Tryz.f13,int,Lang.d,invD,za4,c1,c2]
 by_cases c3:(2:Int)<g.rules.length
 ·simp +decide [Tryz.f13,int,Lang.d,invD,za4,zb5,c1,c2,c3]
 by_cases c4:3<g.net.states
 ·simp +decide [Tryz.f13,int,Lang.d,invD,za4,zb5,c1,c2,c3,c4]
 by_cases c5:(6:Int)<g.net.steps.length
 ·simp +decide [Tryz.f13,int,Lang.d,invD,za4,zb5,stepsD,c1,c2,c3,c4,c5]
 by_cases c6:(3:Int)<g.net.final.length
 ·simp +decide [Tryz.f13,int,ints,Lang.d,invD,za4,zb5,stepsD,c1,c2,c3,c4,c5,c6]
 simp +decide [Tryz.f13,int,ints,Lang.d,invD,za4,zb5,stepsD,c1,c2,c3,c4,c5,c6]
 refine zal.some (by rfl) (z3b g.lex hlf) ?_
 rintro r ⟨b,rfl,hS⟩
 cases b with
 | false=>simp +decide [int]
 | true=>
  have hS:=hS rfl;simp +decide [int];refine zaf mixed (fun k:Nat=>{n:=66,next:=1,slots:=[(1,.bp 0 0),(3,.d (int k))],own:=[(0,.box 36 (zak g.d))]})
   (fun k=>k≤g.rules.length) (fun k=>g.rules.length-k) 0 (by simp) (by simp +decide [int,ints,invD,za4,zb5,stepsD,zak,Lang.d]) ?_
  intro k hk;by_cases hlt:k<g.rules.length
  ·have hlt':(k:Int)<g.rules.length:=by omega
   obtain ⟨r,er⟩ : ∃ r,g.rules[k]=r:=⟨_,rfl⟩;have er1:g.rules[k]?=some r:=by rw [List.getElem?_eq_getElem hlt,er]
   by_cases d1:(8:Int)<r.src.length
   ·simp +decide [int,ints,zb5,zak,Lang.d,hlt,hlt',er,er1,Rule.row,d1]
   ·simp +decide [int,ints,zb5,zak,Lang.d,hlt,hlt',er,er1,Rule.row,d1,I64]
    exact ⟨⟨by omega,by omega⟩,k+1,hlt,by omega,by omega⟩
  ·have hlt':¬(k:Int)<g.rules.length:=by omega
   simp +decide [int,zb5,zak,Lang.d,hlt'];refine zal.some (by rfl) (z3c g hg hS.few) ?_
   rintro r ⟨n,rfl,hF⟩
   simp +decide [int];by_cases z:n=0
   ·exact .inr ⟨z,hF z,hS,by omega,by omega,by omega,by omega,by omega,by omega⟩
   ·exact .inl z
theorem LightF.net' {g:Lang} (h:LightF g):NetL g.net:=
 {lo:=h.net.lo,hi:=h.states,steps:=fun s hs=>⟨(h.net.steps s hs).1,(h.net.steps s hs).2.1,(h.net.steps s hs).2.2.1⟩,final:=h.net.final,few:=by have:=h.steps;omega,few2:=by have:=h.final;omega}
theorem LightF.z3e {g:Lang} (h:LightF g) (hc:LangC g):LangR g:=by
 have hs:=h.small
 have hform : ∀ e∈g.lex,∀ w∈e.forms,WordF g.inv w:=by
  intro e he w hw;have hE:=h.lex.each e he;rcases List.mem_cons.1 hw with e1 | e1
  ·rw [e1];exact hE.form
  ·exact hE.alts w e1
 refine {lex:=⟨by have:=hs.few;omega,fun e he=>by have:=(hs.forms e he).2.1;omega,fun e he w hw=>by have:=(hform e he w hw).len;omega,fun e he=>by have:=(hc.lex.each e he).senses.1;omega⟩,inv:=by have:=h.segs;omega,rules:=⟨fun r hr=>(h.rules r hr).toRuleOk,by have:=h.few;omega⟩,net:=h.net'.ok,light:=h.net',rulesL:=h.rules,nz:=fun e he w hw x hx=>?_}
 have:=(hform e he w hw).segs x hx
 simp only [zcn,Bool.and_eq_true,decide_eq_true_eq] at this
 omega
end Go.V

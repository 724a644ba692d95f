/- Contracts and plain laws of this seat: part M1. It needs no conditions. -/
import Derived.Test.YtgglheknmlfghaaGreatTab
import Derived.Test.YtgglheknmlfghaaGreatB1
set_option linter.unusedVariables false
set_option linter.unusedSimpArgs false
set_option linter.unusedSectionVars false
set_option maxRecDepth 100000
namespace Go.V
open Go Go.Proofs
instance:Dr:=⟨false⟩
instance:Ov:=⟨false⟩
@[simp] theorem ye7 (n:Int) (k:Sym→Prop):arith .i64 n k=(I64 n∧k (.d (.int .i64 n))):=rfl
@[simp] theorem ye8 (n:Int) (k:Sym→Prop):arith .i32 n k=k (.d (.int .i32 (IntKind.i32.wrap n))):=rfl
@[simp] theorem yge (n:Int) (k:Sym→Prop):arith .u8 n k=k (.d (.int .u8 (IntKind.u8.wrap n))):=rfl
@[simp] theorem ye9 (n:Int) (k:Sym→Prop):arith .u32 n k=k (.d (.int .u32 (IntKind.u32.wrap n))):=rfl
@[simp] theorem yfa (n:Int) (k:Sym→Prop):arith .u64 n k=k (.d (.int .u64 (IntKind.u64.wrap n))):=rfl
def int (n:Int):D:=.int .i64 n
def ints (l:List Int):D:=.sl (l.map fun n=>[.int .i64 n])
structure Phon where
 name:ByteArray
 feat:Int
 deriving DecidableEq
structure Grap where
 graph:ByteArray
 segs:List Int
 deriving DecidableEq
structure Orth where
 name:ByteArray
 units:List Grap
 letters:List (List ByteArray)
 deriving DecidableEq
structure Cls where
 mask:Int
 value:Int
 deriving DecidableEq
structure Rule where
 src:List Int
 dst:List Int
 left:List Cls
 right:List Cls
 beg:Bool
 fin:Bool
 deriving DecidableEq
structure Stp where
 src:Int
 cls:Int
 dst:Int
 deriving DecidableEq
structure Nett where
 states:Int
 steps:List Stp
 final:List Int
 deriving DecidableEq
structure Sens where
 gloss:ByteArray
 defn:ByteArray
 deriving DecidableEq
structure Lnk where
 kind:Int
 dst:Int
 deriving DecidableEq
structure Rf where
 rcd:Int
 note:Int
 deriving DecidableEq
structure Ent where
 id:Int
 form:List Int
 cls:Int
 alts:List (List Int)
 main:Int
 senses:List Sens
 links:List Lnk
 refs:List Rf
 deriving DecidableEq
structure Lang where
 inv:List Phon
 orth:Orth
 rules:List Rule
 net:Nett
 lex:List Ent
 deriving DecidableEq
structure Prt where
 entry:Int
 alt:Int
 sense:Int
 deriving DecidableEq
def Phon.row (p:Phon):List D:=[.str p.name,int p.feat]
def invD (l:List Phon):D:=.sl (l.map Phon.row)
def Grap.row (u:Grap):List D:=[.str u.graph,ints u.segs]
def za4 (l:List Grap):D:=.sl (l.map Grap.row)
def zdn (l:List (List ByteArray)):D:=.sl (l.map fun r=>[.sl (r.map fun s=>[.str s])])
def Orth.cells (o:Orth):List D:=[.str o.name,za4 o.units,zdn o.letters]
def Cls.row (c:Cls):List D:=[int c.mask,int c.value]
def clsD (l:List Cls):D:=.sl (l.map Cls.row)
def Rule.row (r:Rule):List D:=[ints r.src,ints r.dst,clsD r.left,clsD r.right,.bool r.beg,.bool r.fin]
def zb5 (l:List Rule):D:=.sl (l.map Rule.row)
def Stp.row (s:Stp):List D:=[int s.src,int s.cls,int s.dst]
def stepsD (l:List Stp):D:=.sl (l.map Stp.row)
def Nett.cells (n:Nett):List D:=[int n.states,stepsD n.steps,ints n.final]
def Sens.row (s:Sens):List D:=[.str s.gloss,.str s.defn]
def zbq (l:List Sens):D:=.sl (l.map Sens.row)
def Lnk.row (s:Lnk):List D:=[int s.kind,int s.dst]
def lnkD (l:List Lnk):D:=.sl (l.map Lnk.row)
def Rf.row (s:Rf):List D:=[int s.rcd,int s.note]
def rfD (l:List Rf):D:=.sl (l.map Rf.row)
def zbh (l:List (List Int)):D:=.sl (l.map fun a=>[ints a])
def Ent.row (e:Ent):List D:=[int e.id,ints e.form,int e.cls,zbh e.alts,int e.main,zbq e.senses,lnkD e.links,rfD e.refs]
def lexD (l:List Ent):D:=.sl (l.map Ent.row)
def Lang.d (g:Lang):D:=.agg [invD g.inv,.str g.orth.name,za4 g.orth.units,zdn g.orth.letters,zb5 g.rules,int g.net.states,stepsD g.net.steps,ints g.net.final,lexD g.lex]
def Prt.row (p:Prt):List D:=[int p.entry,int p.alt,int p.sense]
def zad (l:List Prt):D:=.sl (l.map Prt.row)
def anaD (a:List Prt):D:=.agg [zad a]
def zh0 (l:List (List Prt)):D:=.sl (l.map fun a=>[zad a])
@[simp ↓] theorem ygr (p:Prop):(true = !true→p)=True:=by simp
@[simp ↓] theorem ygs (p:Prop):(false = !false→p)=True:=by simp
@[simp ↓] theorem ygt (p:Prop):(true = !false→p)=p:=by simp
@[simp ↓] theorem ygu (p:Prop):(false = !true→p)=p:=by simp
@[simp ↓] theorem ygx (p:Prop):(true=false→p)=True:=by simp
@[simp ↓] theorem ygy (p:Prop):(false=true→p)=True:=by simp
@[simp ↓] theorem ygz (p:Prop):(true=true→p)=p:=by simp
@[simp ↓] theorem yg0 (p:Prop):(false=false→p)=p:=by simp
end Go.V
namespace Go.V
open Go Go.Proofs
theorem take_snoc {α:Type} {l:List α} {k:Nat} (h:k<l.length):l.take (k+1)=l.take k++[l[k]]:=by
 rw [List.take_add_one,List.getElem?_eq_getElem h];rfl
theorem yfb (l:List Int) (x:Int) (hl:l.length<2^62):zay Tryz.prog 131 [ints l,int x] (.bool (decide (x∈l))):=by
 refine zaa mixed Tryz.func131 rfl call_131 ?_
 simp [Tryz.f131,ints,int]
 refine zaf mixed (fun k:Nat=>{n:=17,next:=0,slots:=[(0,.d (ints l)),(1,.d (int x)),(7,.d (ints l)),(8,.d (.int .i64 l.length)),(9,.d (.int .i64 k))],own:=[]})
  (fun k=>k≤l.length∧x∉l.take k) (fun k=>l.length-k) 0 (by simp) (by simp [ints,int]) ?_
 intro k ⟨hk,hp⟩
 by_cases hlt:k<l.length
 ·have e1:l[k]?=some l[k]:=List.getElem?_eq_getElem hlt
  simp +decide [ints,int,e1,hlt,I64];refine ⟨fun h=>?_,fun h=>⟨by omega,k+1,⟨hlt,?_⟩,by omega,by omega⟩⟩
  ·rw [← h];exact List.getElem_mem hlt
  ·rw [take_snoc hlt,List.mem_append,not_or];exact ⟨hp,by simpa using fun e=>h e.symm⟩
 ·have:k=l.length:=by omega
  subst this;simp +decide [ints,int];simpa using hp
theorem yaf (a b:List Int) (hb:b.length<2^62):zay Tryz.prog 39 [ints a,ints b] (.bool (decide (a=b))):=by
 refine zaa mixed Tryz.func39 rfl call_39 ?_
 simp [Tryz.f39,ints]
 refine ⟨fun h e=>h (by rw [e]),fun h=>?_⟩
 refine zaf mixed (fun k:Nat=>{n:=26,next:=0,slots:=[(0,.d (ints a)),(1,.d (ints b)),(12,.d (.int .i64 a.length)),(13,.d (.int .i64 k))],own:=[]})
  (fun k=>k≤a.length∧a.take k=b.take k) (fun k=>a.length-k) 0 (by simp) (by simp [ints]) ?_
 intro k ⟨hk,hp⟩
 have h:a.length=b.length:=by omega
 by_cases hlt:k<a.length
 ·have e1:a[k]?=some a[k]:=List.getElem?_eq_getElem hlt
  have e2:b[k]?=some (b[k]'(by omega)):=List.getElem?_eq_getElem (by omega)
  have hlt':k<b.length:=by omega
  simp +decide [ints,e1,e2,hlt,hlt',I64];refine ⟨fun hne e=>hne (by subst e;rfl),fun he=>⟨by omega,k+1,⟨hlt,?_⟩,by omega,by omega⟩⟩
  rw [take_snoc hlt,take_snoc hlt',hp,he]
 ·have:k=a.length:=by omega
  subst this;simp +decide [ints];rw [List.take_length,h,List.take_length] at hp;exact hp
def yag:List Int→List Int→Bool
 | a::l,b::m=>if a=b then yag l m else decide (a<b)
 | [],_::_=>true
 | _,[]=>false
end Go.V
namespace Go.V
open Go Go.Proofs
def zcn (inv:List Phon) (n:Int):Bool:=decide (1≤n)&&decide (n≤inv.length)
theorem zta (inv:List Phon) (n:Int):zay Tryz.prog 94 [.agg [invD inv],int n] (.bool (zcn inv n)):=by
 refine zaa mixed Tryz.func94 rfl call_94 ?_
 simp [Tryz.f94,invD,int,zcn]
 omega
theorem zrm (inv:List Phon) (n:Int):zay Tryz.prog 92 [.agg [invD inv],int n] (.bool (zcn inv n)):=by
 refine zaa mixed Tryz.func92 rfl call_92 ?_
 simp [Tryz.f92,invD,int,zcn]
 omega
theorem z0f (n:Int):zay Tryz.prog 149 [int n] (.bool false):=by
 refine zaa mixed Tryz.func149 rfl call_149 ?_
 simp [Tryz.f149,int]
def cmpI (a b:Int):Int:=if a<b then -1 else if b<a then 1 else 0
theorem zl9 (a b:Int):zay Tryz.prog 106 [int a,int b] (int (cmpI a b)):=by
 refine zaa mixed Tryz.func106 rfl call_106 ?_
 simp [Tryz.f106,int]
 refine zal.pure (by rfl) (z0f a) (by simp) ?_
 simp
 refine zal.pure (by rfl) (z0f b) (by simp) ?_
 simp [cmpI]
 refine ⟨fun h h'=>by omega,fun h=>by omega⟩
def zdj (l:List Ent) (id:Int):Int:=match l.findIdx? (·.id=id) with
 | some k=>k
 | none=>-1
theorem zou {l:List Ent} {id:Int} {k:Nat} (h:k<l.length) (hp : ∀ e∈l.take k,e.id≠id) (he:l[k].id=id):l.findIdx? (·.id=id)=some k:=by
 rw [List.findIdx?_eq_some_iff_getElem]
 refine ⟨h,by simpa using he,fun j hj=>?_⟩
 have:=hp l[j] (by rw [List.mem_take_iff_getElem];exact ⟨j,by omega,rfl⟩)
 simpa using this
theorem zma {l:List Ent} {id:Int} (hp : ∀ e∈l,e.id≠id):l.findIdx? (·.id=id)=none:=by
 rw [List.findIdx?_eq_none_iff];intro e he;simpa using hp e he
theorem zi4 {α:Type} {p:α→Prop} {l:List α} {k:Nat} (h:k<l.length) (hp : ∀ e∈l.take k,p e) (he:p l[k]) : ∀ e∈l.take (k+1),p e:=by
 rw [take_snoc h]
 intro e hm
 rcases List.mem_append.1 hm with hm | hm
 ·exact hp e hm
 ·simp at hm;rw [hm];exact he
theorem zov (l:List Ent) (id:Int) (hl:l.length<2^62):zay Tryz.prog 125 [lexD l,int id] (int (zdj l id)):=by
 refine zaa mixed Tryz.func125 rfl call_125 ?_
 simp [Tryz.f125,lexD,int]
 refine zaf mixed (fun k:Nat=>{n:=20,next:=0,slots:=[(0,.d (lexD l)),(1,.d (int id)),(5,.d (.int .i64 k))],own:=[]})
  (fun k=>k≤l.length∧∀ e∈l.take k,e.id≠id) (fun k=>l.length-k) 0 (by simp) (by simp [lexD,int]) ?_
 intro k ⟨hk,hp⟩
 by_cases hlt:k<l.length
 ·have e1:l[k]?=some l[k]:=List.getElem?_eq_getElem hlt
  simp +decide [lexD,Ent.row,int,e1,hlt,I64];refine ⟨fun h=>?_,fun h=>⟨by omega,k+1,⟨hlt,zi4 hlt hp h⟩,by omega,by omega⟩⟩
  simp [zdj,zou hlt hp h]
 ·have:k=l.length:=by omega
  subst this;simp +decide [lexD,int];simp [zdj,zma (by simpa using hp)]
theorem zow (l:List Ent) (id:Int) (hl:l.length<2^62):zay Tryz.prog 121 [lexD l,int id] (int (zdj l id)):=by
 refine zaa mixed Tryz.func121 rfl call_121 ?_
 simp [Tryz.f121,lexD,int]
 refine zaf mixed (fun k:Nat=>{n:=20,next:=0,slots:=[(0,.d (lexD l)),(1,.d (int id)),(5,.d (.int .i64 k))],own:=[]})
  (fun k=>k≤l.length∧∀ e∈l.take k,e.id≠id) (fun k=>l.length-k) 0 (by simp) (by simp [lexD,int]) ?_
 intro k ⟨hk,hp⟩
 by_cases hlt:k<l.length
 ·have e1:l[k]?=some l[k]:=List.getElem?_eq_getElem hlt
  simp +decide [lexD,Ent.row,int,e1,hlt,I64];refine ⟨fun h=>?_,fun h=>⟨by omega,k+1,⟨hlt,zi4 hlt hp h⟩,by omega,by omega⟩⟩
  simp [zdj,zou hlt hp h]
 ·have:k=l.length:=by omega
  subst this;simp +decide [lexD,int];simp [zdj,zma (by simpa using hp)]
end Go.V
namespace Go.V
open Go Go.Proofs
theorem z1z (a b:List Prt) (hb:b.length<2^62):zay Tryz.prog 103 [zad a,zad b] (.bool (decide (a=b))):=by
 refine zaa mixed Tryz.func103 rfl call_103 ?_
 simp [Tryz.f103,zad]
 refine ⟨fun h e=>h (by rw [e]),fun h=>?_⟩
 refine zaf mixed (fun k:Nat=>{n:=26,next:=0,slots:=[(0,.d (zad a)),(1,.d (zad b)),(12,.d (.int .i64 a.length)),(13,.d (.int .i64 k))],own:=[]})
  (fun k=>k≤a.length∧a.take k=b.take k) (fun k=>a.length-k) 0 (by simp) (by simp [zad]) ?_
 intro k ⟨hk,hp⟩
 have h:a.length=b.length:=by omega
 by_cases hlt:k<a.length
 ·have e1:a[k]?=some a[k]:=List.getElem?_eq_getElem hlt
  have e2:b[k]?=some (b[k]'(by omega)):=List.getElem?_eq_getElem (by omega)
  have hlt':k<b.length:=by omega
  simp +decide [zad,Prt.row,int,e1,e2,hlt,hlt',I64];refine ⟨fun hne e=>by subst e;simp at hne,fun h1 h2 h3=>⟨by omega,k+1,⟨hlt,?_⟩,by omega,by omega⟩⟩
  have he:a[k]=b[k]:=by
   rcases hA:a[k] with ⟨x1,x2,x3⟩;rcases hB:b[k] with ⟨y1,y2,y3⟩;rw [hA,hB] at h1 h2 h3;simp only at h1 h2 h3
   rw [h1,h2,h3]
  rw [take_snoc hlt,take_snoc hlt',hp,he]
 ·have:k=a.length:=by omega
  subst this;simp +decide [zad];rw [List.take_length,h,List.take_length] at hp;exact hp
def zu6 (inv:List Phon) (n:Int) (c:Cls):Bool:=zcn inv n&&(match inv[n.toNat-1]? with
 | some p=>decide (c.value=zhb .and .i64 p.feat c.mask)
 | none=>false)
theorem ygh (inv:List Phon) (n:Int) (c:Cls) (hl:inv.length<2^62):zay Tryz.prog 181 [.agg [invD inv],int n,.agg c.row] (.bool (zu6 inv n c)):=by
 refine zaa mixed Tryz.func181 rfl call_181 ?_
 simp +decide [Tryz.f181,int,Cls.row]
 refine zah (by rfl) (by rfl) (zrm inv n) (by simp) ?_
 by_cases hs:zcn inv n=true
 ·have hs':=hs
  simp only [zcn,Bool.and_eq_true,decide_eq_true_eq] at hs';have hlt:n.toNat-1<inv.length:=by omega
  have e1:inv[n.toNat-1]?=some inv[n.toNat-1]:=List.getElem?_eq_getElem hlt
  have e2:¬ n<1:=by omega
  simp +decide [invD,hs,hlt,e1,Phon.row,int,I64,zu6];omega
 ·simp +decide [hs,zu6]
end Go.V
namespace Go.V
open Go Go.Proofs
def Ent.zero:Ent:=⟨0,[],0,[],0,[],[],[]⟩
def getE (l:List Ent) (id:Int):Ent×Bool:=match l.find? (·.id=id) with
 | some e=>(e,true)
 | none=>(Ent.zero,false)
theorem yah {l:List Ent} {id:Int} {k:Nat} (h:k<l.length) (hp : ∀ e∈l.take k,e.id≠id) (he:l[k].id=id):l.find? (·.id=id)=some l[k]:=by
 rw [List.find?_eq_some_iff_getElem]
 refine ⟨by simpa using he,k,h,rfl,fun j hj=>?_⟩
 have:=hp l[j] (by rw [List.mem_take_iff_getElem];exact ⟨j,by omega,rfl⟩)
 simpa using this
theorem z5b {l:List Ent} {id:Int} (hp : ∀ e∈l,e.id≠id):l.find? (·.id=id)=none:=by
 rw [List.find?_eq_none];intro e he;simpa using hp e he
theorem yai (l:List Ent) (id:Int) (hl:l.length<2^62):zay Tryz.prog 87 [lexD l,int id] (.tup [.agg (getE l id).1.row,.bool (getE l id).2]):=by
 refine zaa mixed Tryz.func87 rfl call_87 ?_
 simp [Tryz.f87,lexD,int,Value.oneCell']
 refine zaf mixed (fun k:Nat=>{n:=25,next:=1,slots:=[(0,.d (lexD l)),(1,.d (int id)),(4,.bp 0 0),(8,.d (.int .i64 l.length)),(9,.d (.int .i64 k))],own:=[(0,.box 59 [.d (int 0),.nils,.d (int 0),.nils,.d (int 0),.nils,.nils,.nils])]})
  (fun k=>k≤l.length∧∀ e∈l.take k,e.id≠id) (fun k=>l.length-k) 0 (by simp) (by simp [lexD,int]) ?_
 intro k ⟨hk,hp⟩
 by_cases hlt:k<l.length
 ·have e1:l[k]?=some l[k]:=List.getElem?_eq_getElem hlt
  simp +decide [lexD,Ent.row,int,e1,hlt,I64];refine ⟨fun h=>?_,fun h=>⟨by omega,k+1,⟨hlt,zi4 hlt hp h⟩,by omega,by omega⟩⟩
  simp [getE,yah hlt hp h,int]
 ·have:k=l.length:=by omega
  subst this;simp +decide [lexD,int];simp [getE,z5b (by simpa using hp),Ent.zero,Ent.row,int,ints,zbh,zbq,lnkD,rfD]
end Go.V
namespace Go.V
open Go Go.Proofs
theorem z14 (a b:List Prt) (hb:b.length<2^62):zay Tryz.prog 62 [anaD a,anaD b] (.bool (decide (a=b))):=by
 refine zaa mixed Tryz.func62 rfl call_62 ?_
 simp [Tryz.f62,anaD]
 refine zal.pure (by rfl) (z1z a b hb) (by simp) ?_
 simp
def zez (l:List Rule):Bool:=l.any fun r=>decide (0∈r.dst)
theorem ydg {α:Type} {p:α→Bool} {l:List α} {k:Nat} (h:k<l.length) (hp:p l[k]=true):l.any p=true:=List.any_eq_true.2 ⟨_,List.getElem_mem h,hp⟩
theorem z15 (l:List Rule) (hl:l.length<2^62) (hs : ∀ r∈l,r.dst.length<2^62):zay Tryz.prog 83 [zb5 l] (.bool (zez l)):=by
 refine zaa mixed Tryz.func83 rfl call_83 ?_
 simp [Tryz.f83,zb5]
 refine zaf mixed (fun k:Nat=>{n:=15,next:=0,slots:=[(5,.d (zb5 l)),(6,.d (.int .i64 l.length)),(7,.d (.int .i64 k))],own:=[]})
  (fun k=>k≤l.length∧∀ r∈l.take k,0∉r.dst) (fun k=>l.length-k) 0 (by simp) (by simp [zb5]) ?_
 intro k ⟨hk,hp⟩
 by_cases hlt:k<l.length
 ·have e1:l[k]?=some l[k]:=List.getElem?_eq_getElem hlt
  simp +decide [zb5,Rule.row,int,e1,hlt,I64,Value.oneCell'];refine zal.pure (by rfl) (yfb l[k].dst 0 (hs _ (List.getElem_mem hlt))) (by simp) ?_
  simp +decide [zb5,I64];refine ⟨fun h=>?_,fun h=>⟨by omega,k+1,⟨hlt,zi4 hlt hp h⟩,by omega,by omega⟩⟩
  exact (ydg hlt (by simpa using h))
 ·have:k=l.length:=by omega
  subst this;simp +decide [zb5];simp only [List.take_length] at hp;simp only [zez,List.any_eq_false];intro r hr;simpa using hp r hr
end Go.V
namespace Go.V
open Go Go.Proofs
def Ent.forms (e:Ent):List (List Int):=e.form::e.alts
end Go.V
namespace Go.V
open Go Go.Proofs
def zmb (a b:Prt):Bool:=if a.entry=b.entry then (if a.alt=b.alt then decide (a.sense<b.sense) else decide (a.alt<b.alt)) else decide (a.entry<b.entry)
def zdk:List Prt→List Prt→Bool
 | a::l,b::m=>if a=b then zdk l m else zmb a b
 | [],_::_=>true
 | _,[]=>false
end Go.V
namespace Go.V
open Go Go.Proofs
end Go.V
namespace Go.V
open Go Go.Proofs
end Go.V
namespace Go.V
open Go Go.Proofs
def z5c (n:Int):Prop:=(Lit.int .i64 n).wf=true
theorem z5c.I64 {n:Int} (h:z5c n):I64 n:=by
 have:=bounds_i64 h
 unfold Go.V.I64;omega
def Prt.ok (p:Prt):Prop:=z5c p.entry∧z5c p.alt∧z5c p.sense
abbrev yaj:List Sh:=[.int .i64,.int .i64,.int .i64]
def ycw (l:List Prt):Prop:=l.length≤maxLen∧∀ x∈l,x.ok
theorem zu7 {d:D} (h:FitD d (.sl yaj)) : ∃ l,d=zad l∧ycw l:=by
 obtain ⟨xs,rfl,h1,h2⟩:=FitD.zu5 (row:=Prt.row) (good:=Prt.ok) (fun r hr=>by
  obtain ⟨_,_,rfl,g1,r1⟩:=hr.zai;obtain ⟨_,_,rfl,g2,r2⟩:=r1.zai;obtain ⟨_,_,rfl,g3,r3⟩:=r2.zai;obtain rfl:=r3.zcd;obtain ⟨a,rfl,wa⟩:=g1.zcc;obtain ⟨b,rfl,wb⟩:=g2.zcc;obtain ⟨c,rfl,wc⟩:=g3.zcc;exact ⟨⟨a,b,c⟩,rfl,wa,wb,wc⟩) h
 exact ⟨xs,rfl,h1,h2⟩
theorem z16 {l:List D} (h:zbv l [.sl yaj]) : ∃ a,D.agg l=anaD a∧ycw a:=by
 obtain ⟨_,_,rfl,g1,r1⟩:=h.zai
 obtain rfl:=r1.zcd
 obtain ⟨a,rfl,ha⟩:=zu7 g1
 exact ⟨a,rfl,ha⟩
end Go.V

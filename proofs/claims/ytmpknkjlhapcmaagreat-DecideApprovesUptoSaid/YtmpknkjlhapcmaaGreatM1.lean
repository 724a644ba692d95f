/- Contracts and plain laws of this seat: part M1. It needs no conditions. -/
import Derived.Test.YtmpknkjlhapcmaaGreatTab
set_option linter.unusedVariables false
set_option linter.unusedSimpArgs false
set_option linter.unusedSectionVars false
set_option maxRecDepth 100000
namespace Go.V
open Go Go.Proofs
instance:Dr:=⟨false⟩
instance:Ov:=⟨false⟩
@[simp] theorem yig (n:Int) (k:Sym→Prop):arith .i64 n k=(I64 n∧k (.d (.int .i64 n))):=rfl
@[simp] theorem yih (n:Int) (k:Sym→Prop):arith .i32 n k=k (.d (.int .i32 (IntKind.i32.wrap n))):=rfl
@[simp] theorem yjo (n:Int) (k:Sym→Prop):arith .u8 n k=k (.d (.int .u8 (IntKind.u8.wrap n))):=rfl
@[simp] theorem yii (n:Int) (k:Sym→Prop):arith .u32 n k=k (.d (.int .u32 (IntKind.u32.wrap n))):=rfl
@[simp] theorem yij (n:Int) (k:Sym→Prop):arith .u64 n k=k (.d (.int .u64 (IntKind.u64.wrap n))):=rfl
def int (n:Int):D:=.int .i64 n
def ints (l:List Int):D:=.sl (l.map fun n=>[.int .i64 n])
structure Phon where
 name:ByteArray
 feat:Int
 deriving DecidableEq
structure Grap where
 graph:ByteArray
 segs:List Int
 deriving DecidableEq
structure Orth where
 name:ByteArray
 units:List Grap
 letters:List (List ByteArray)
 deriving DecidableEq
structure Cls where
 mask:Int
 value:Int
 deriving DecidableEq
structure Rule where
 src:List Int
 dst:List Int
 left:List Cls
 right:List Cls
 beg:Bool
 fin:Bool
 deriving DecidableEq
structure Stp where
 src:Int
 cls:Int
 dst:Int
 deriving DecidableEq
structure Nett where
 states:Int
 steps:List Stp
 final:List Int
 deriving DecidableEq
structure Sens where
 gloss:ByteArray
 defn:ByteArray
 deriving DecidableEq
structure Lnk where
 kind:Int
 dst:Int
 deriving DecidableEq
structure Rf where
 rcd:Int
 note:Int
 deriving DecidableEq
structure Ent where
 id:Int
 form:List Int
 cls:Int
 alts:List (List Int)
 main:Int
 senses:List Sens
 links:List Lnk
 refs:List Rf
 deriving DecidableEq
structure Lang where
 inv:List Phon
 orth:Orth
 rules:List Rule
 net:Nett
 lex:List Ent
 deriving DecidableEq
structure Prt where
 entry:Int
 alt:Int
 sense:Int
 deriving DecidableEq
def Phon.row (p:Phon):List D:=[.str p.name,int p.feat]
def invD (l:List Phon):D:=.sl (l.map Phon.row)
def Grap.row (u:Grap):List D:=[.str u.graph,ints u.segs]
def zbd (l:List Grap):D:=.sl (l.map Grap.row)
def zdy (l:List (List ByteArray)):D:=.sl (l.map fun r=>[.sl (r.map fun s=>[.str s])])
def Orth.cells (o:Orth):List D:=[.str o.name,zbd o.units,zdy o.letters]
def Cls.row (c:Cls):List D:=[int c.mask,int c.value]
def clsD (l:List Cls):D:=.sl (l.map Cls.row)
def Rule.row (r:Rule):List D:=[ints r.src,ints r.dst,clsD r.left,clsD r.right,.bool r.beg,.bool r.fin]
def zcb (l:List Rule):D:=.sl (l.map Rule.row)
def Stp.row (s:Stp):List D:=[int s.src,int s.cls,int s.dst]
def stepsD (l:List Stp):D:=.sl (l.map Stp.row)
def Nett.cells (n:Nett):List D:=[int n.states,stepsD n.steps,ints n.final]
def Sens.row (s:Sens):List D:=[.str s.gloss,.str s.defn]
def zbu (l:List Sens):D:=.sl (l.map Sens.row)
def Lnk.row (s:Lnk):List D:=[int s.kind,int s.dst]
def lnkD (l:List Lnk):D:=.sl (l.map Lnk.row)
def Rf.row (s:Rf):List D:=[int s.rcd,int s.note]
def rfD (l:List Rf):D:=.sl (l.map Rf.row)
def zbh (l:List (List Int)):D:=.sl (l.map fun a=>[ints a])
def Ent.row (e:Ent):List D:=[int e.id,ints e.form,int e.cls,zbh e.alts,int e.main,zbu e.senses,lnkD e.links,rfD e.refs]
def lexD (l:List Ent):D:=.sl (l.map Ent.row)
def Lang.d (g:Lang):D:=.agg [invD g.inv,.str g.orth.name,zbd g.orth.units,zdy g.orth.letters,zcb g.rules,int g.net.states,stepsD g.net.steps,ints g.net.final,lexD g.lex]
def Prt.row (p:Prt):List D:=[int p.entry,int p.alt,int p.sense]
def zab (l:List Prt):D:=.sl (l.map Prt.row)
def anaD (a:List Prt):D:=.agg [zab a]
def zb4 (l:List (List Prt)):D:=.sl (l.map fun a=>[zab a])
@[simp ↓] theorem yj1 (p:Prop):(true = !true→p)=True:=by simp
@[simp ↓] theorem yj2 (p:Prop):(false = !false→p)=True:=by simp
@[simp ↓] theorem yj3 (p:Prop):(true = !false→p)=p:=by simp
@[simp ↓] theorem yj4 (p:Prop):(false = !true→p)=p:=by simp
@[simp ↓] theorem yj7 (p:Prop):(true=false→p)=True:=by simp
@[simp ↓] theorem yj8 (p:Prop):(false=true→p)=True:=by simp
@[simp ↓] theorem yj9 (p:Prop):(true=true→p)=p:=by simp
@[simp ↓] theorem yka (p:Prop):(false=false→p)=p:=by simp
end Go.V
namespace Go.V
open Go Go.Proofs
theorem take_snoc {α:Type} {l:List α} {k:Nat} (h:k<l.length):l.take (k+1)=l.take k++[l[k]]:=by
 rw [List.take_add_one,List.getElem?_eq_getElem h];rfl
theorem yik (l:List Int) (x:Int) (hl:l.length<2^62):zam Tryz.prog 182 [ints l,int x] (.bool (decide (x∈l))):=by
 refine zaa mixed Tryz.func182 rfl call_182 ?_
 simp [Tryz.f182,ints,int]
 refine zaf mixed (fun k:Nat=>{n:=17,next:=0,slots:=[(0,.d (ints l)),(1,.d (int x)),(7,.d (ints l)),(8,.d (.int .i64 l.length)),(9,.d (.int .i64 k))],own:=[]})
  (fun k=>k≤l.length∧x∉l.take k) (fun k=>l.length-k) 0 (by simp) (by simp [ints,int]) ?_
 intro k ⟨hk,hp⟩
 by_cases hlt:k<l.length
 ·have e1:l[k]?=some l[k]:=List.getElem?_eq_getElem hlt
  simp +decide [ints,int,e1,hlt,I64];refine ⟨fun h=>?_,fun h=>⟨by omega,k+1,⟨hlt,?_⟩,by omega,by omega⟩⟩
  ·rw [← h];exact List.getElem_mem hlt
  ·rw [take_snoc hlt,List.mem_append,not_or];exact ⟨hp,by simpa using fun e=>h e.symm⟩
 ·have:k=l.length:=by omega
  subst this;simp +decide [ints,int];simpa using hp
theorem z3e (a b:List Int) (hb:b.length<2^62):zam Tryz.prog 78 [ints a,ints b] (.bool (decide (a=b))):=by
 refine zaa mixed Tryz.func78 rfl call_78 ?_
 simp [Tryz.f78,ints]
 refine ⟨fun h e=>h (by rw [e]),fun h=>?_⟩
 refine zaf mixed (fun k:Nat=>{n:=26,next:=0,slots:=[(0,.d (ints a)),(1,.d (ints b)),(12,.d (.int .i64 a.length)),(13,.d (.int .i64 k))],own:=[]})
  (fun k=>k≤a.length∧a.take k=b.take k) (fun k=>a.length-k) 0 (by simp) (by simp [ints]) ?_
 intro k ⟨hk,hp⟩
 have h:a.length=b.length:=by omega
 by_cases hlt:k<a.length
 ·have e1:a[k]?=some a[k]:=List.getElem?_eq_getElem hlt
  have e2:b[k]?=some (b[k]'(by omega)):=List.getElem?_eq_getElem (by omega)
  have hlt':k<b.length:=by omega
  simp +decide [ints,e1,e2,hlt,hlt',I64];refine ⟨fun hne e=>hne (by subst e;rfl),fun he=>⟨by omega,k+1,⟨hlt,?_⟩,by omega,by omega⟩⟩
  rw [take_snoc hlt,take_snoc hlt',hp,he]
 ·have:k=a.length:=by omega
  subst this;simp +decide [ints];rw [List.take_length,h,List.take_length] at hp;exact hp
def ydj:List Int→List Int→Bool
 | a::l,b::m=>if a=b then ydj l m else decide (a<b)
 | [],_::_=>true
 | _,[]=>false
end Go.V
namespace Go.V
open Go Go.Proofs
def zdr (inv:List Phon) (n:Int):Bool:=decide (1≤n)&&decide (n≤inv.length)
theorem zur (inv:List Phon) (n:Int):zam Tryz.prog 131 [.agg [invD inv],int n] (.bool (zdr inv n)):=by
 refine zaa mixed Tryz.func131 rfl call_131 ?_
 simp [Tryz.f131,invD,int,zdr]
 omega
theorem zsx (inv:List Phon) (n:Int):zam Tryz.prog 157 [.agg [invD inv],int n] (.bool (zdr inv n)):=by
 refine zaa mixed Tryz.func157 rfl call_157 ?_
 simp [Tryz.f157,invD,int,zdr]
 omega
theorem z3f (n:Int):zam Tryz.prog 108 [int n] (.bool false):=by
 refine zaa mixed Tryz.func108 rfl call_108 ?_
 simp [Tryz.f108,int]
def cmpI (a b:Int):Int:=if a<b then -1 else if b<a then 1 else 0
theorem zd2 (a b:Int):zam Tryz.prog 83 [int a,int b] (int (cmpI a b)):=by
 refine zaa mixed Tryz.func83 rfl call_83 ?_
 simp [Tryz.f83,int]
 refine zaj.pure (by rfl) (z3f a) (by simp) ?_
 simp
 refine zaj.pure (by rfl) (z3f b) (by simp) ?_
 simp [cmpI]
 refine ⟨fun h h'=>by omega,fun h=>by omega⟩
def zds (l:List Ent) (id:Int):Int:=match l.findIdx? (·.id=id) with
 | some k=>k
 | none=>-1
theorem zpn {l:List Ent} {id:Int} {k:Nat} (h:k<l.length) (hp : ∀ e∈l.take k,e.id≠id) (he:l[k].id=id):l.findIdx? (·.id=id)=some k:=by
 rw [List.findIdx?_eq_some_iff_getElem]
 refine ⟨h,by simpa using he,fun j hj=>?_⟩
 have:=hp l[j] (by rw [List.mem_take_iff_getElem];exact ⟨j,by omega,rfl⟩)
 simpa using this
theorem zm2 {l:List Ent} {id:Int} (hp : ∀ e∈l,e.id≠id):l.findIdx? (·.id=id)=none:=by
 rw [List.findIdx?_eq_none_iff];intro e he;simpa using hp e he
theorem zd7 {α:Type} {p:α→Prop} {l:List α} {k:Nat} (h:k<l.length) (hp : ∀ e∈l.take k,p e) (he:p l[k]) : ∀ e∈l.take (k+1),p e:=by
 rw [take_snoc h]
 intro e hm
 rcases List.mem_append.1 hm with hm | hm
 ·exact hp e hm
 ·simp at hm;rw [hm];exact he
theorem zpo (l:List Ent) (id:Int) (hl:l.length<2^62):zam Tryz.prog 124 [lexD l,int id] (int (zds l id)):=by
 refine zaa mixed Tryz.func124 rfl call_124 ?_
 simp [Tryz.f124,lexD,int]
 refine zaf mixed (fun k:Nat=>{n:=20,next:=0,slots:=[(0,.d (lexD l)),(1,.d (int id)),(5,.d (.int .i64 k))],own:=[]})
  (fun k=>k≤l.length∧∀ e∈l.take k,e.id≠id) (fun k=>l.length-k) 0 (by simp) (by simp [lexD,int]) ?_
 intro k ⟨hk,hp⟩
 by_cases hlt:k<l.length
 ·have e1:l[k]?=some l[k]:=List.getElem?_eq_getElem hlt
  simp +decide [lexD,Ent.row,int,e1,hlt,I64];refine ⟨fun h=>?_,fun h=>⟨by omega,k+1,⟨hlt,zd7 hlt hp h⟩,by omega,by omega⟩⟩
  simp [zds,zpn hlt hp h]
 ·have:k=l.length:=by omega
  subst this;simp +decide [lexD,int];simp [zds,zm2 (by simpa using hp)]
theorem zpp (l:List Ent) (id:Int) (hl:l.length<2^62):zam Tryz.prog 120 [lexD l,int id] (int (zds l id)):=by
 refine zaa mixed Tryz.func120 rfl call_120 ?_
 simp [Tryz.f120,lexD,int]
 refine zaf mixed (fun k:Nat=>{n:=20,next:=0,slots:=[(0,.d (lexD l)),(1,.d (int id)),(5,.d (.int .i64 k))],own:=[]})
  (fun k=>k≤l.length∧∀ e∈l.take k,e.id≠id) (fun k=>l.length-k) 0 (by simp) (by simp [lexD,int]) ?_
 intro k ⟨hk,hp⟩
 by_cases hlt:k<l.length
 ·have e1:l[k]?=some l[k]:=List.getElem?_eq_getElem hlt
  simp +decide [lexD,Ent.row,int,e1,hlt,I64];refine ⟨fun h=>?_,fun h=>⟨by omega,k+1,⟨hlt,zd7 hlt hp h⟩,by omega,by omega⟩⟩
  simp [zds,zpn hlt hp h]
 ·have:k=l.length:=by omega
  subst this;simp +decide [lexD,int];simp [zds,zm2 (by simpa using hp)]
end Go.V
namespace Go.V
open Go Go.Proofs
theorem z5l (a b:List Prt) (hb:b.length<2^62):zam Tryz.prog 58 [zab a,zab b] (.bool (decide (a=b))):=by
 refine zaa mixed Tryz.func58 rfl call_58 ?_
 simp [Tryz.f58,zab]
 refine ⟨fun h e=>h (by rw [e]),fun h=>?_⟩
 refine zaf mixed (fun k:Nat=>{n:=26,next:=0,slots:=[(0,.d (zab a)),(1,.d (zab b)),(12,.d (.int .i64 a.length)),(13,.d (.int .i64 k))],own:=[]})
  (fun k=>k≤a.length∧a.take k=b.take k) (fun k=>a.length-k) 0 (by simp) (by simp [zab]) ?_
 intro k ⟨hk,hp⟩
 have h:a.length=b.length:=by omega
 by_cases hlt:k<a.length
 ·have e1:a[k]?=some a[k]:=List.getElem?_eq_getElem hlt
  have e2:b[k]?=some (b[k]'(by omega)):=List.getElem?_eq_getElem (by omega)
  have hlt':k<b.length:=by omega
  simp +decide [zab,Prt.row,int,e1,e2,hlt,hlt',I64];refine ⟨fun hne e=>by subst e;simp at hne,fun h1 h2 h3=>⟨by omega,k+1,⟨hlt,?_⟩,by omega,by omega⟩⟩
  have he:a[k]=b[k]:=by
   rcases hA:a[k] with ⟨x1,x2,x3⟩;rcases hB:b[k] with ⟨y1,y2,y3⟩;rw [hA,hB] at h1 h2 h3;simp only at h1 h2 h3
   rw [h1,h2,h3]
  rw [take_snoc hlt,take_snoc hlt',hp,he]
 ·have:k=a.length:=by omega
  subst this;simp +decide [zab];rw [List.take_length,h,List.take_length] at hp;exact hp
def zwq (inv:List Phon) (n:Int) (c:Cls):Bool:=zdr inv n&&(match inv[n.toNat-1]? with
 | some p=>decide (c.value=zht .and .i64 p.feat c.mask)
 | none=>false)
theorem yjr (inv:List Phon) (n:Int) (c:Cls) (hl:inv.length<2^62):zam Tryz.prog 204 [.agg [invD inv],int n,.agg c.row] (.bool (zwq inv n c)):=by
 refine zaa mixed Tryz.func204 rfl call_204 ?_
 simp +decide [Tryz.f204,int,Cls.row]
 refine zae (by rfl) (by rfl) (zsx inv n) (by simp) ?_
 by_cases hs:zdr inv n=true
 ·have hs':=hs
  simp only [zdr,Bool.and_eq_true,decide_eq_true_eq] at hs';have hlt:n.toNat-1<inv.length:=by omega
  have e1:inv[n.toNat-1]?=some inv[n.toNat-1]:=List.getElem?_eq_getElem hlt
  have e2:¬ n<1:=by omega
  simp +decide [invD,hs,hlt,e1,Phon.row,int,I64,zwq];omega
 ·simp +decide [hs,zwq]
end Go.V
namespace Go.V
open Go Go.Proofs
def Ent.zero:Ent:=⟨0,[],0,[],0,[],[],[]⟩
def getE (l:List Ent) (id:Int):Ent×Bool:=match l.find? (·.id=id) with
 | some e=>(e,true)
 | none=>(Ent.zero,false)
theorem ydk {l:List Ent} {id:Int} {k:Nat} (h:k<l.length) (hp : ∀ e∈l.take k,e.id≠id) (he:l[k].id=id):l.find? (·.id=id)=some l[k]:=by
 rw [List.find?_eq_some_iff_getElem]
 refine ⟨by simpa using he,k,h,rfl,fun j hj=>?_⟩
 have:=hp l[j] (by rw [List.mem_take_iff_getElem];exact ⟨j,by omega,rfl⟩)
 simpa using this
theorem z8v {l:List Ent} {id:Int} (hp : ∀ e∈l,e.id≠id):l.find? (·.id=id)=none:=by
 rw [List.find?_eq_none];intro e he;simpa using hp e he
theorem ydl (l:List Ent) (id:Int) (hl:l.length<2^62):zam Tryz.prog 146 [lexD l,int id] (.tup [.agg (getE l id).1.row,.bool (getE l id).2]):=by
 refine zaa mixed Tryz.func146 rfl call_146 ?_
 simp [Tryz.f146,lexD,int,Value.oneCell']
 refine zaf mixed (fun k:Nat=>{n:=25,next:=1,slots:=[(0,.d (lexD l)),(1,.d (int id)),(4,.bp 0 0),(8,.d (.int .i64 l.length)),(9,.d (.int .i64 k))],own:=[(0,.box 108 [.d (int 0),.nils,.d (int 0),.nils,.d (int 0),.nils,.nils,.nils])]})
  (fun k=>k≤l.length∧∀ e∈l.take k,e.id≠id) (fun k=>l.length-k) 0 (by simp) (by simp [lexD,int]) ?_
 intro k ⟨hk,hp⟩
 by_cases hlt:k<l.length
 ·have e1:l[k]?=some l[k]:=List.getElem?_eq_getElem hlt
  simp +decide [lexD,Ent.row,int,e1,hlt,I64];refine ⟨fun h=>?_,fun h=>⟨by omega,k+1,⟨hlt,zd7 hlt hp h⟩,by omega,by omega⟩⟩
  simp [getE,ydk hlt hp h,int]
 ·have:k=l.length:=by omega
  subst this;simp +decide [lexD,int];simp [getE,z8v (by simpa using hp),Ent.zero,Ent.row,int,ints,zbh,zbu,lnkD,rfD]
end Go.V
namespace Go.V
open Go Go.Proofs
theorem z5m (a b:List Prt) (hb:b.length<2^62):zam Tryz.prog 74 [anaD a,anaD b] (.bool (decide (a=b))):=by
 refine zaa mixed Tryz.func74 rfl call_74 ?_
 simp [Tryz.f74,anaD]
 refine zaj.pure (by rfl) (z5l a b hb) (by simp) ?_
 simp
def zhi (l:List Rule):Bool:=l.any fun r=>decide (0∈r.dst)
theorem ygr {α:Type} {p:α→Bool} {l:List α} {k:Nat} (h:k<l.length) (hp:p l[k]=true):l.any p=true:=List.any_eq_true.2 ⟨_,List.getElem_mem h,hp⟩
theorem z5n (l:List Rule) (hl:l.length<2^62) (hs : ∀ r∈l,r.dst.length<2^62):zam Tryz.prog 158 [zcb l] (.bool (zhi l)):=by
 refine zaa mixed Tryz.func158 rfl call_158 ?_
 simp [Tryz.f158,zcb]
 refine zaf mixed (fun k:Nat=>{n:=15,next:=0,slots:=[(5,.d (zcb l)),(6,.d (.int .i64 l.length)),(7,.d (.int .i64 k))],own:=[]})
  (fun k=>k≤l.length∧∀ r∈l.take k,0∉r.dst) (fun k=>l.length-k) 0 (by simp) (by simp [zcb]) ?_
 intro k ⟨hk,hp⟩
 by_cases hlt:k<l.length
 ·have e1:l[k]?=some l[k]:=List.getElem?_eq_getElem hlt
  simp +decide [zcb,Rule.row,int,e1,hlt,I64,Value.oneCell'];refine zaj.pure (by rfl) (yik l[k].dst 0 (hs _ (List.getElem_mem hlt))) (by simp) ?_
  simp +decide [zcb,I64];refine ⟨fun h=>?_,fun h=>⟨by omega,k+1,⟨hlt,zd7 hlt hp h⟩,by omega,by omega⟩⟩
  exact (ygr hlt (by simpa using h))
 ·have:k=l.length:=by omega
  subst this;simp +decide [zcb];simp only [List.take_length] at hp;simp only [zhi,List.any_eq_false];intro r hr;simpa using hp r hr
end Go.V
namespace Go.V
open Go Go.Proofs
def Ent.forms (e:Ent):List (List Int):=e.form::e.alts
end Go.V
namespace Go.V
open Go Go.Proofs
def zel (a b:Prt):Bool:=if a.entry=b.entry then (if a.alt=b.alt then decide (a.sense<b.sense) else decide (a.alt<b.alt)) else decide (a.entry<b.entry)
theorem zz3 (a b:Prt):zam Tryz.prog 66 [.agg a.row,.agg b.row] (.bool (zel a b)):=by
 refine zaa mixed Tryz.func66 rfl call_66 ?_
 simp +decide [Tryz.f66,Prt.row,int,zel]
 exact ⟨fun h h'=>absurd h' h,fun h=>⟨fun h2=>by rw [if_pos h,if_neg h2],fun h2=>by rw [if_pos h,if_pos h2]⟩⟩
def zbc:List Prt→List Prt→Bool
 | a::l,b::m=>if a=b then zbc l m else zel a b
 | [],_::_=>true
 | _,[]=>false
theorem z5o {a b:List Prt} {k:Nat} (h:k<a.length) (h':k<b.length):zbc (a.drop k) (b.drop k)=if a[k]=b[k] then zbc (a.drop (k+1)) (b.drop (k+1)) else zel a[k] b[k]:=by
 rw [List.drop_eq_getElem_cons h,List.drop_eq_getElem_cons h'];rfl
theorem zwr {a b:List Prt} {k:Nat} (h:¬(k<a.length∧k<b.length)) (hk:k≤a.length∧k≤b.length):zbc (a.drop k) (b.drop k)=decide (a.length<b.length):=by
 by_cases h1:k<b.length
 ·have:k=a.length:=by omega
  subst this;rw [List.drop_length,List.drop_eq_getElem_cons h1];simp [zbc,h1]
 ·have:k=b.length:=by omega
  subst this;rw [List.drop_length];have:¬ a.length<b.length:=by omega
  cases a.drop b.length <;> simp [zbc,this]
theorem z3g {a b:Prt}:a=b↔a.entry=b.entry∧a.alt=b.alt∧a.sense=b.sense:=by
 cases a;cases b;simp
theorem zpq (a b:List Prt) (ha:a.length<2^62) (hb:b.length<2^62):zam Tryz.prog 47 [anaD a,anaD b] (.bool (zbc a b)):=by
 refine zaa mixed Tryz.func47 rfl call_47 ?_
 simp [Tryz.f47,anaD,zab]
 refine zaf mixed (fun k:Nat=>{n:=49,next:=2,slots:=[(2,.bp 0 0),(3,.bp 1 0),(5,.d (.int .i64 k))],own:=[(1,.box 31 [.d (zab b)]),(0,.box 31 [.d (zab a)])]})
  (fun k=>k≤a.length∧k≤b.length∧zbc a b=zbc (a.drop k) (b.drop k)) (fun k=>a.length-k) 0 (by simp) (by simp [zab]) ?_
 intro k ⟨hk,hk',hp⟩
 by_cases hlt:k<a.length
 ·by_cases hlt':k<b.length
  ·have e1:a[k]?=some a[k]:=List.getElem?_eq_getElem hlt
   have e2:b[k]?=some b[k]:=List.getElem?_eq_getElem hlt'
   rw [z5o hlt hlt'] at hp;simp +decide [zab,Prt.row,int,e1,e2,hlt,hlt',I64];refine ⟨fun h=>?_,fun h1 h2 h3=>⟨by omega,k+1,⟨hlt,hlt',?_⟩,by omega,by omega⟩⟩
   ·refine zae (by rfl) (by rfl) (zz3 a[k] b[k]) (by simp) ?_
    have hne:¬ a[k]=b[k]:=fun e=>by rw [z3g] at e;obtain ⟨q1,q2,q3⟩:=e;simp [q1,q2,q3] at h
    simp +decide [hp,if_neg hne]
   ·rw [hp,if_pos (z3g.2 ⟨h1,h2,h3⟩)]
  ·rw [zwr (fun h=>hlt' h.2) ⟨hk,hk'⟩] at hp
   simp +decide [zab,hlt,hlt',hp]
 ·rw [zwr (fun h=>hlt h.1) ⟨hk,hk'⟩] at hp
  simp +decide [zab,hlt,hp]
end Go.V
namespace Go.V
open Go Go.Proofs
theorem zz4 {a b:Prt} (h:zel a b=false) (h':zel b a=false):a=b:=by
 rw [z3g]
 unfold zel at h h'
 by_cases e1:a.entry=b.entry
 ·rw [if_pos e1] at h;rw [if_pos e1.symm] at h'
  by_cases e2:a.alt=b.alt
  ·rw [if_pos e2] at h;rw [if_pos e2.symm] at h'
   simp at h h'
   exact ⟨e1,e2,by omega⟩
  ·rw [if_neg e2] at h;rw [if_neg (fun e=>e2 e.symm)] at h'
   simp at h h';omega
 ·rw [if_neg e1] at h;rw [if_neg (fun e=>e1 e.symm)] at h'
  simp at h h';omega
theorem zf2 : ∀ (a:List Prt),zbc a a=false
 | []=>rfl
 | a::l=>by simp [zbc,zf2 l]
theorem zku : ∀ {a b:List Prt},zbc a b=false→zbc b a=false→a=b
 | [],[],_,_=>rfl
 | [],_::_,h,_=>by simp [zbc] at h
 | _::_,[],_,h=>by simp [zbc] at h
 | a::l,b::m,h,h'=>by
  simp only [zbc] at h h';by_cases e:a=b
  ·subst e
   simp at h h'
   rw [zku h h']
  ·rw [if_neg e] at h;rw [if_neg (fun q=>e q.symm)] at h'
   exact absurd (zz4 h h') e
theorem zsy (a b:List Prt):(!zbc a b && !zbc b a)=decide (a=b):=by
 by_cases e:a=b
 ·subst e;simp [zf2]
 ·rw [decide_eq_false e]
  cases h:zbc a b <;> cases h':zbc b a <;> simp
  exact e (zku h h')
theorem zwt (a b:List Prt) (ha:a.length<2^62) (hb:b.length<2^62):zam Tryz.prog 25 [anaD a,anaD b] (.bool (decide (a=b))):=by
 refine zaa mixed Tryz.func25 rfl call_25 ?_
 rw [← zsy]
 simp [Tryz.f25,anaD]
 refine zaj.pure (by rfl) (zpq a b ha hb) (by simp) ?_
 cases h:zbc a b
 ·simp
  refine zaj.pure (by rfl) (zpq b a hb ha) (by simp) ?_
  simp
 ·simp
end Go.V
namespace Go.V
open Go Go.Proofs
end Go.V
namespace Go.V
open Go Go.Proofs
structure Dec where
 ref:Rf
 yes:Bool
 pick:List Prt
 deriving DecidableEq
def Dec.row (d:Dec):List D:=[int d.ref.rcd,int d.ref.note,.bool d.yes,zab d.pick]
def za0 (l:List Dec):D:=.sl (l.map Dec.row)
def refD (r:Rf):D:=.agg r.row
theorem zus (look:Nat→Option Obj') : ∀ (l:List D),zhs look (l.map .d)=some (l,false)
 | []=>rfl
 | d::r=>by simp only [List.map_cons,zhs,lend,zus look r];rfl
def orI:List Int→Int
 | []=>0
 | x::l=>if x=0 then orI l else x
theorem ydm {l:List Int} {k:Nat} (h:k<l.length):orI (l.drop k)=if l[k]=0 then orI (l.drop (k+1)) else l[k]:=by
 rw [List.drop_eq_getElem_cons h];rfl
theorem yf8 (l:List Int) (hl:l.length<2^62):zam Tryz.prog 82 [ints l] (int (orI l)):=by
 refine zaa mixed Tryz.func82 rfl call_82 ?_
 simp [Tryz.f82,ints]
 refine zaf mixed (fun k:Nat=>{n:=18,next:=0,slots:=[(0,.d (ints l)),(3,.d (int 0)),(6,.d (ints l)),(7,.d (.int .i64 l.length)),(8,.d (.int .i64 k))],own:=[]})
  (fun k=>k≤l.length∧orI l=orI (l.drop k)) (fun k=>l.length-k) 0 (by simp) (by simp [ints,int]) ?_
 intro k ⟨hk,hp⟩
 by_cases hlt:k<l.length
 ·have e1:l[k]?=some l[k]:=List.getElem?_eq_getElem hlt
  rw [ydm hlt] at hp;simp +decide [ints,int,e1,hlt,I64];refine ⟨fun h=>?_,fun h=>⟨by omega,k+1,⟨hlt,?_⟩,by omega,by omega⟩⟩
  ·rw [hp,if_neg h]
  ·rw [hp,if_pos h]
 ·have:k=l.length:=by omega
  subst this;simp +decide [ints,int,hp,orI]
def zut (a b:Rf):Int:=orI [cmpI a.rcd b.rcd,cmpI a.note b.note]
theorem ydn (a b:Rf):zam Tryz.prog 59 [refD a,refD b] (int (zut a b)):=by
 refine zaa mixed Tryz.func59 rfl call_59 ?_
 simp +decide [Tryz.f59,refD,Rf.row,int]
 refine zae (by rfl) (by rfl) (zd2 a.rcd b.rcd) (by simp) ?_
 simp +decide [int]
 refine zae (by rfl) (by rfl) (zd2 a.note b.note) (by simp) ?_
 simp +decide [int,inOrder,rowsOf,rowOf,zbb]
 refine zae (by rfl) (by rfl) (yf8 [cmpI a.rcd b.rcd,cmpI a.note b.note] (by simp)) (by simp) ?_
 simp +decide [zut,int]
def zr8 (a b:Prt):Int:=orI [cmpI a.entry b.entry,cmpI a.alt b.alt,cmpI a.sense b.sense]
theorem zr9 (a b:Prt):zam Tryz.prog 85 [.agg a.row,.agg b.row] (int (zr8 a b)):=by
 refine zaa mixed Tryz.func85 rfl call_85 ?_
 simp +decide [Tryz.f85,Prt.row,int]
 refine zae (by rfl) (by rfl) (zd2 a.entry b.entry) (by simp) ?_
 simp +decide [int]
 refine zae (by rfl) (by rfl) (zd2 a.alt b.alt) (by simp) ?_
 simp +decide [int]
 refine zae (by rfl) (by rfl) (zd2 a.sense b.sense) (by simp) ?_
 simp +decide [int,inOrder,rowsOf,rowOf,zbb]
 refine zae (by rfl) (by rfl) (yf8 [cmpI a.entry b.entry,cmpI a.alt b.alt,cmpI a.sense b.sense] (by simp)) (by simp) ?_
 simp +decide [zr8,int]
def cmpL {α:Type} (c:α→α→Int):List α→List α→Int
 | [],[]=>0
 | [],_::_=>-1
 | _::_,[]=>1
 | a::l,b::m=>if c a b=0 then cmpL c l m else c a b
theorem z8w {α:Type} {c:α→α→Int} {a b:List α} {k:Nat} (h:k<a.length) (h':k<b.length):cmpL c (a.drop k) (b.drop k)=if c a[k] b[k]=0 then cmpL c (a.drop (k+1)) (b.drop (k+1)) else c a[k] b[k]:=by
 rw [List.drop_eq_getElem_cons h,List.drop_eq_getElem_cons h'];rfl
theorem z8x {α:Type} {c:α→α→Int} {a b:List α} {k:Nat} (h:k<a.length) (h':b.length≤k):cmpL c (a.drop k) (b.drop k)=1:=by
 rw [List.drop_eq_getElem_cons h,List.drop_of_length_le h'];rfl
theorem ydo {α:Type} {c:α→α→Int} {a b:List α} (h:a.length≤b.length):cmpL c (a.drop a.length) (b.drop a.length)=if a.length<b.length then -1 else 0:=by
 rw [List.drop_length]
 split
 ·rename_i h1;rw [List.drop_eq_getElem_cons h1];rfl
 ·rw [List.drop_of_length_le (by omega)];rfl
theorem zsa (a b:List Prt) (ha:a.length<2^62) (hb:b.length<2^62):zam Tryz.prog 84 [zab a,zab b,.fn 85 []] (int (cmpL zr8 a b)):=by
 refine zaa mixed Tryz.func84 rfl call_84 ?_
 simp [Tryz.f84,zab]
 refine zaf mixed (fun k:Nat=>{n:=39,next:=0,slots:=[(0,.d (zab a)),(1,.d (zab b)),(2,.d (.fn 85 [])),(11,.d (zab a)),(12,.d (.int .i64 a.length)),(13,.d (.int .i64 k))],own:=[]})
  (fun k=>k≤a.length∧k≤b.length∧cmpL zr8 a b=cmpL zr8 (a.drop k) (b.drop k)) (fun k=>a.length-k) 0 (by simp) (by simp [zab]) ?_
 intro k ⟨hk,hk',hp⟩
 by_cases hlt:k<a.length
 ·have e1:a[k]?=some a[k]:=List.getElem?_eq_getElem hlt
  by_cases hlt':k<b.length
  ·have e2:b[k]?=some b[k]:=List.getElem?_eq_getElem hlt'
   rw [z8w hlt hlt'] at hp;have hn:¬ b.length≤k:=by omega
   simp +decide [zab,Prt.row,int,e1,e2,hlt,hlt',hn,I64];refine zaj.pure (by rfl) (zr9 a[k] b[k]) (by simp) ?_
   simp +decide [int,I64,zab];refine ⟨fun h=>?_,fun h=>⟨by omega,k+1,⟨hlt,hlt',?_⟩,by omega,by omega⟩⟩
   ·rw [hp,if_neg h]
   ·rw [hp,if_pos h]
  ·rw [z8x hlt (by omega)] at hp
   have hn:b.length≤k:=by omega
   simp +decide [zab,Prt.row,int,e1,hlt,hn,I64,hp]
 ·have:k=a.length:=by omega
  subst this;rw [ydo hk'] at hp;simp +decide [zab,int,hp]
theorem zcr (a b:Int):cmpI a b=0↔a=b:=by
 unfold cmpI
 by_cases h1:a<b
 ·rw [if_pos h1];omega
 ·rw [if_neg h1]
  by_cases h2:b<a
  ·rw [if_pos h2];omega
  ·rw [if_neg h2];omega
theorem zim (a b:Int):cmpI a b<0↔a<b:=by
 unfold cmpI
 by_cases h1:a<b
 ·rw [if_pos h1];omega
 ·rw [if_neg h1]
  by_cases h2:b<a
  ·rw [if_pos h2];omega
  ·rw [if_neg h2];omega
theorem zsz (a b:Prt):zr8 a b=0↔a=b:=by
 simp only [zr8,orI]
 rw [z3g]
 by_cases h1:cmpI a.entry b.entry=0
 ·rw [if_pos h1]
  by_cases h2:cmpI a.alt b.alt=0
  ·rw [if_pos h2]
   by_cases h3:cmpI a.sense b.sense=0
   ·rw [if_pos h3];rw [zcr] at h1 h2 h3;simp [h1,h2,h3]
   ·rw [if_neg h3];exact ⟨fun h=>absurd h h3,fun ⟨_,_,h⟩=>absurd ((zcr _ _).2 h) h3⟩
  ·rw [if_neg h2];exact ⟨fun h=>absurd h h2,fun ⟨_,h,_⟩=>absurd ((zcr _ _).2 h) h2⟩
 ·rw [if_neg h1];exact ⟨fun h=>absurd h h1,fun ⟨h,_,_⟩=>absurd ((zcr _ _).2 h) h1⟩
theorem z8y (a b:Prt):zr8 a b<0↔zel a b=true:=by
 simp only [zr8,orI,zel,zcr]
 by_cases h1:a.entry=b.entry
 ·rw [if_pos h1,if_pos h1]
  by_cases h2:a.alt=b.alt
  ·rw [if_pos h2,if_pos h2]
   by_cases h3:a.sense=b.sense
   ·rw [if_pos h3];simp [h3]
   ·rw [if_neg h3,zim];simp
  ·rw [if_neg h2,if_neg h2,zim];simp
 ·rw [if_neg h1,if_neg h1,zim];simp
theorem z3h : ∀ (a b:List Prt),cmpL zr8 a b<0↔zbc a b=true
 | [],[]=>by simp [cmpL,zbc]
 | [],_::_=>by simp [cmpL,zbc]
 | _::_,[]=>by simp [cmpL,zbc]
 | a::l,b::m=>by
  simp only [cmpL,zbc];by_cases h:a=b
  ·rw [if_pos ((zsz a b).2 h),if_pos h];exact z3h l m
  ·rw [if_neg (fun e=>h ((zsz a b).1 e)),if_neg h]
   exact z8y a b
theorem zkf (a b:List Prt) (ha:a.length<2^62) (hb:b.length<2^62):zam Tryz.prog 60 [anaD a,anaD b] (.bool (zbc a b)):=by
 refine zaa mixed Tryz.func60 rfl call_60 ?_
 simp [Tryz.f60,anaD]
 refine zaj.pure (by rfl) (zsa a b ha hb) (by simp) ?_
 have h:=z3h a b
 cases hl:zbc a b <;> rw [hl] at h <;> simp [int] <;> simp at h <;> omega
end Go.V
namespace Go.V
open Go Go.Proofs
def za8 (d x:Dec):Bool:=d.yes&&(x.yes&&decide (d.ref=x.ref))
theorem zm3 {a b:Rf}:a=b↔a.rcd=b.rcd∧a.note=b.note:=by cases a;cases b;simp
theorem zwu (d x:Dec):zam Tryz.prog 40 [.agg d.row,.agg x.row] (.bool (za8 d x)):=by
 refine zaa mixed Tryz.func40 rfl call_40 ?_
 simp +decide [Tryz.f40,Dec.row,int,za8,zm3]
 cases d.yes <;> cases x.yes <;> simp
def zcw (a b:Dec):Bool:=if a.ref.rcd=b.ref.rcd then (if a.ref.note=b.ref.note then zbc a.pick b.pick else decide (a.ref.note<b.ref.note)) else decide (a.ref.rcd<b.ref.rcd)
def Dec.fit (d:Dec):Prop:=d.pick.length<2^62
theorem z8z (a b:Dec) (ha:a.fit) (hb:b.fit):zam Tryz.prog 42 [.agg a.row,.agg b.row] (.bool (zcw a b)):=by
 refine zaa mixed Tryz.func42 rfl call_42 ?_
 simp +decide [Tryz.f42,Dec.row,int,zcw]
 refine ⟨fun h h'=>absurd h' h,fun h=>⟨fun h2=>?_,fun h2=>?_⟩⟩
 ·rw [if_pos h,if_neg h2]
 ·refine zaj.pure (by rfl) (zpq a.pick b.pick ha hb) (by simp) ?_
  simp [if_pos h,if_pos h2]
def cmpD (a b:Dec):Int:=if zut a.ref b.ref=0 then (if zbc a.pick b.pick=true then -1 else if zbc b.pick a.pick=true then 1 else 0) else zut a.ref b.ref
theorem zpr (a b:Dec) (ha:a.fit) (hb:b.fit):zam Tryz.prog 37 [.agg a.row,.agg b.row] (int (cmpD a b)):=by
 refine zaa mixed Tryz.func37 rfl call_37 ?_
 simp +decide [Tryz.f37,Dec.row,int]
 refine zaj.pure (by rfl) (ydn a.ref b.ref) (by simp) ?_
 simp +decide [int]
 refine ⟨fun h=>?_,fun h=>?_⟩
 ·rw [cmpD,if_neg h]
 ·refine zaj.pure (by rfl) (zkf a.pick b.pick ha hb) (by simp) ?_
  simp +decide [int];refine ⟨fun h2=>?_,fun h2=>?_⟩
  ·rw [cmpD,if_pos h,if_pos h2]
  ·refine zaj.pure (by rfl) (zkf b.pick a.pick hb ha) (by simp) ?_
   simp +decide [int];refine ⟨fun h3=>?_,fun h3=>?_⟩
   ·rw [cmpD,if_pos h,if_neg (by simp [h2]),if_pos h3]
   ·rw [cmpD,if_pos h,if_neg (by simp [h2]),if_neg (by simp [h3])]
theorem zm4 (a b:Rf):zut a b=0↔a=b:=by
 simp only [zut,orI,zm3]
 by_cases h1:cmpI a.rcd b.rcd=0
 ·rw [if_pos h1]
  by_cases h2:cmpI a.note b.note=0
  ·rw [if_pos h2];rw [zcr] at h1 h2;simp [h1,h2]
  ·rw [if_neg h2];exact ⟨fun h=>absurd h h2,fun ⟨_,h⟩=>absurd ((zcr _ _).2 h) h2⟩
 ·rw [if_neg h1];exact ⟨fun h=>absurd h h1,fun ⟨h,_⟩=>absurd ((zcr _ _).2 h) h1⟩
theorem z3i (a b:Dec):cmpD a b<0↔zcw a b=true:=by
 unfold cmpD zcw
 by_cases h:zut a.ref b.ref=0
 ·rw [if_pos h]
  have h':=(zm4 _ _).1 h;rw [zm3] at h';rw [if_pos h'.1,if_pos h'.2];by_cases h2:zbc a.pick b.pick=true
  ·rw [if_pos h2];simp [h2]
  ·rw [if_neg h2]
   have : ∀ p:Prop,[Decidable p]→¬((if p then (1:Int) else 0)<0):=by intro p _;split <;> omega
   exact ⟨fun h3=>absurd h3 (this _),fun h3=>absurd h3 h2⟩
 ·rw [if_neg h]
  simp only [zut,orI] at h ⊢;by_cases h1:cmpI a.ref.rcd b.ref.rcd=0
  ·rw [if_pos h1] at h ⊢
   rw [if_pos ((zcr _ _).1 h1)];by_cases h2:cmpI a.ref.note b.ref.note=0
   ·rw [if_pos h2] at h;exact absurd rfl h
   ·rw [if_neg h2,if_neg (fun e=>h2 ((zcr _ _).2 e)),zim];simp
  ·rw [if_neg h1,if_neg (fun e=>h1 ((zcr _ _).2 e)),zim];simp
theorem zwv (a b:Dec):cmpD a b=0↔a.ref=b.ref∧a.pick=b.pick:=by
 unfold cmpD
 by_cases h:zut a.ref b.ref=0
 ·rw [if_pos h]
  have h':=(zm4 _ _).1 h;have hs:=zsy a.pick b.pick;cases h1:zbc a.pick b.pick <;> cases h2:zbc b.pick a.pick <;> rw [h1,h2] at hs <;> simp at hs <;> simp [h',hs]
 ·rw [if_neg h]
  exact ⟨fun e=>absurd e h,fun e=>absurd ((zm4 _ _).2 e.1) h⟩
def isId (n:Int):Bool:=decide (1≤n)&&decide (n≤1099511627776)
theorem zlo (n:Int):zam Tryz.prog 38 [int n] (.bool (isId n)):=by
 refine zaa mixed Tryz.func38 rfl call_38 ?_
 simp +decide [Tryz.f38,int,isId]
 omega
theorem zic (n:Int):zam Tryz.prog 41 [int n] (.bool (isId n)):=by
 refine zaa mixed Tryz.func41 rfl call_41 ?_
 simp +decide [Tryz.f41,int,isId]
 omega
def idxI {α:Type} (p:α→Bool) (l:List α):Int:=match l.findIdx? p with
 | some k=>k
 | none=>-1
theorem z3j {α:Type} {p:α→Bool} {l:List α} {k:Nat} (h:k<l.length) (hp : ∀ e∈l.take k,p e=false) (he:p l[k]=true):l.findIdx? p=some k:=by
 rw [List.findIdx?_eq_some_iff_getElem]
 refine ⟨h,he,fun j hj=>?_⟩
 have:=hp l[j] (by rw [List.mem_take_iff_getElem];exact ⟨j,by omega,rfl⟩)
 simpa using this
theorem zps {α:Type} {p:α→Bool} {l:List α} (hp : ∀ e∈l,p e=false):l.findIdx? p=none:=by
 rw [List.findIdx?_eq_none_iff];exact hp
theorem z81 (l:List Dec) (hl:l.length<2^62) (f:Nat) (caps:List D) (p:Dec→Bool) (hf : ∀ x∈l,zam Tryz.prog f (.agg x.row::caps) (.bool (p x))) :
  zam Tryz.prog 65 [za0 l,.fn f caps] (int (idxI p l)):=by
 refine zaa mixed Tryz.func65 rfl call_65 ?_
 simp [Tryz.f65,za0]
 refine zaf mixed (fun k:Nat=>{n:=19,next:=0,slots:=[(0,.d (za0 l)),(1,.d (.fn f caps)),(6,.d (za0 l)),(7,.d (.int .i64 l.length)),(8,.d (.int .i64 k))],own:=[]})
  (fun k=>k≤l.length∧∀ e∈l.take k,p e=false) (fun k=>l.length-k) 0 (by simp) (by simp [za0]) ?_
 intro k ⟨hk,hp⟩
 by_cases hlt:k<l.length
 ·have e1:l[k]?=some l[k]:=List.getElem?_eq_getElem hlt
  simp +decide [za0,Dec.row,int,e1,hlt,I64];refine zaj.pure (lent:=false) (by simp [zdx,zus];rfl) (hf l[k] (List.getElem_mem hlt)) (by simp) ?_
  simp +decide [za0,I64];refine ⟨fun h=>?_,fun h=>⟨by omega,k+1,⟨hlt,zd7 hlt hp h⟩,by omega,by omega⟩⟩
  simp [idxI,z3j hlt hp h,int]
 ·have:k=l.length:=by omega
  subst this;simp +decide [za0,int];simp [idxI,zps (by simpa using hp)]
theorem ydp {α:Type} (p:α→Bool) (l:List α):decide (0≤idxI p l)=l.any p:=by
 unfold idxI
 cases h:l.findIdx? p with
 | none=>
  rw [List.findIdx?_eq_none_iff] at h;have:l.any p=false:=by rw [List.any_eq_false];intro x hx;rw [h x hx];simp
  rw [this];rfl
 | some k=>
  rw [List.findIdx?_eq_some_iff_getElem] at h;obtain ⟨h1,h2,_⟩:=h;rw [List.any_eq_true.2 ⟨_,List.getElem_mem h1,h2⟩];simp
theorem zn4 (l:List Dec) (hl:l.length<2^62) (f:Nat) (caps:List D) (p:Dec→Bool) (hf : ∀ x∈l,zam Tryz.prog f (.agg x.row::caps) (.bool (p x))) :
  zam Tryz.prog 61 [za0 l,.fn f caps] (.bool (l.any p)):=by
 refine zaa mixed Tryz.func61 rfl call_61 ?_
 simp [Tryz.f61,za0]
 refine zaj.pure (by rfl) (z81 l hl f caps p hf) (by simp) ?_
 simp [int,← ydp]
theorem z88 (d x:Dec):zam Tryz.prog 62 [.agg x.row,.ptr [.fn 40 []],.ptr d.row] (.bool (za8 d x)):=by
 refine zaa mixed Tryz.func62 rfl call_62 ?_
 simp +decide [Tryz.f62,Dec.row,int]
 refine zaj.pure (by rfl) (zwu d x) (by simp) ?_
 simp
theorem z3k (l:List Dec) (hl:l.length<2^62) (d:Dec):zam Tryz.prog 39 [za0 l,.agg d.row,.fn 40 []] (.bool (l.any (za8 d))):=by
 refine zaa mixed Tryz.func39 rfl call_39 ?_
 simp +decide [Tryz.f39,Dec.row,int]
 refine zaj.pure (by rfl) (zn4 l hl _ _ (za8 d) (fun x _=>z88 d x)) (fun _=>rfl) ?_
 simp
end Go.V
namespace Go.V
open Go Go.Proofs
def zbn (l:List Dec) (k:Nat):Option Int:=match l[k]? with
 | none=>none
 | some d=>if isId d.ref.rcd=true then (if isId d.ref.note=true then (if d.pick.length=0 then some 4 else if d.pick.length>4 then some 11
   else if (decide (0<k)&&match l[k-1]? with | some c=>!zcw c d | none=>false)=true then some 10
   else if (l.take k).any (za8 d)=true then some 8 else none) else some 2) else some 2
def zcc (l:List Dec):Int:=((List.range l.length).findSome? (zbn l)).getD 0
theorem zjq {l:List Dec} {k:Nat} {e:Int} (h:k<l.length) (hp : ∀ j,j<k→zbn l j=none) (he:zbn l k=some e):zcc l=e:=by
 unfold zcc
 have:(List.range l.length).findSome? (zbn l)=some e:=by
  rw [List.findSome?_eq_some_iff];refine ⟨List.range k,k,(List.range' (k+1) (l.length-(k+1))),?_,he,fun a ha=>hp a (List.mem_range.1 ha)⟩
  obtain ⟨m,hm⟩ : ∃ m,l.length=k+(1+m):=⟨l.length-(k+1),by omega⟩
  have hm':l.length-(k+1)=m:=by omega
  rw [hm',hm,List.range_eq_range',List.range_eq_range',← List.range'_append,← List.range'_append];simp
 rw [this];rfl
theorem zkv {l:List Dec} (hp : ∀ j,j<l.length→zbn l j=none):zcc l=0:=by
 unfold zcc
 have:(List.range l.length).findSome? (zbn l)=none:=by
  rw [List.findSome?_eq_none_iff];intro a ha;exact hp a (List.mem_range.1 ha)
 rw [this];rfl
theorem zjr {p:Nat→Prop} {k:Nat} (h : ∀ j,j<k→p j) (hk:p k) : ∀ j,j<k+1→p j:=by
 intro j hj
 rcases Nat.lt_or_ge j k with h1 | h1
 ·exact h j h1
 ·have:j=k:=by omega
  subst this;exact hk
def zpt (l:List Dec):Prop:=∀ d∈l,d.fit
theorem ydq (l:List Dec) (hl:l.length<2^62) (hf:zpt l):zam Tryz.prog 15 [za0 l] (int (zcc l)):=by
 refine zaa mixed Tryz.func15 rfl call_15 ?_
 simp [Tryz.f15,za0]
 refine zaf mixed (fun k:Nat=>{n:=59,next:=0,slots:=[(0,.d (za0 l)),(3,.fn 37 []),(6,.d (za0 l)),(7,.d (.int .i64 l.length)),(8,.d (.int .i64 k))],own:=[]})
  (fun k=>k≤l.length∧∀ j,j<k→zbn l j=none) (fun k=>l.length-k) 0 (by simp) (by simp [za0]) ?_
 intro k ⟨hk,hp⟩
 by_cases hlt:k<l.length
 ·have e1:l[k]?=some l[k]:=List.getElem?_eq_getElem hlt
  have hit:=fun e=>zjq (e:=e) hlt hp
  simp only [zbn,e1] at hit;have hno : ∀ e,zbn l k=e→zbn l k=e:=fun _ h=>h
  have hfd:l[k].fit:=hf _ (List.getElem_mem hlt)
  have hll : ∀ e∈l,e.row.length=4:=fun e _=>rfl
  simp +decide [za0,Dec.row,int,e1,hlt,I64];refine zaj.pure (by rfl) (zlo l[k].ref.rcd) (by simp) ?_
  cases h1:isId l[k].ref.rcd
  ·simp +decide [int,hit 2 (by simp [h1])]
  simp +decide [int];refine zaj.pure (by rfl) (zlo l[k].ref.note) (by simp) ?_
  cases h2:isId l[k].ref.note
  ·simp +decide [int,hit 2 (by simp [h1,h2])]
  simp +decide [int,zab];by_cases h3:l[k].pick=[]
  ·simp +decide [h3,hit 4 (by simp [h1,h2,h3])]
  simp +decide [h3];by_cases h4:l[k].pick.length>4
  ·have h4i:(4:Int)<(l[k].pick.length:Int):=by omega
   have h4j:¬(l[k].pick.length:Int)≤4:=by omega
   simp +decide [h4i,h4j,hit 11 (by simp [h1,h2,h3,h4])]
  have h4i:¬(4:Int)<(l[k].pick.length:Int):=by omega
  have h4j:(l[k].pick.length:Int)≤4:=by omega
  simp +decide [h4i,h4j];rcases k with _ | j
  ·simp +decide []
   refine ⟨fun _ _=>rfl,zae (by rfl) (by rfl) (z3k [] (by simp) l[0]) (by simp) ?_⟩
   simp +decide [I64,za0,int];refine ⟨1,⟨hlt,zjr hp ?_⟩,by omega,by omega⟩
   simp [zbn,e1,h1,h2,h3,h4]
  ·have hj:j<l.length:=by omega
   have e0:l[j]?=some l[j]:=List.getElem?_eq_getElem hj
   have hjf:l[j].fit:=hf _ (List.getElem_mem hj)
   have q1:((j:Int)+1-1)=j:=by omega
   have q2:(j:Int)<l.length:=by omega
   simp +decide [e0,I64,q1,q2,Dec.row];refine ⟨by omega,by omega,zae (by rfl) (by rfl) (zpr l[j] l[j+1] hjf hfd) (by simp) ?_⟩
   have hneg:=z3i l[j] l[j+1];have q3:(l.map Dec.row).take (j+1)=(l.take (j+1)).map Dec.row:=by rw [List.map_take]
   cases h5:zcw l[j] l[j+1]
   ·rw [h5] at hneg
    have q4:(0:Int)≤cmpD l[j] l[j+1]:=by simp at hneg;omega
    simp +decide [int,q4,hit 10 (by simp [h1,h2,h3,h4,e0,h5])]
   ·rw [h5] at hneg
    have q4:¬(0:Int)≤cmpD l[j] l[j+1]:=by simp at hneg;omega
    simp +decide [int,q4];simp only [q3];refine ⟨⟨by omega,by omega⟩,fun _ _=>rfl,zae (by rfl) (by rfl) (z3k (l.take (j+1)) (by simp;omega) l[j+1]) (by simp) ?_⟩
    cases h6:(l.take (j+1)).any (za8 l[j+1])
    ·simp +decide [int,I64,za0]
     refine ⟨by omega,j+1+1,⟨hlt,zjr hp ?_⟩,by omega,by omega⟩
     simp [zbn,e1,e0,h1,h2,h3,h4,h5,h6]
    ·simp +decide [int,hit 8 (by simp [h1,h2,h3,h4,e0,h5,h6])]
 ·have:k=l.length:=by omega
  subst this;simp +decide [za0,int];rw [zkv (by simpa using hp)]
theorem zpu (l:List Dec) (hl:l.length<2^62) (hf:zpt l):zam Tryz.prog 16 [za0 l] (int (zcc l)):=by
 refine zaa mixed Tryz.func16 rfl call_16 ?_
 simp [Tryz.f16,za0]
 refine zaf mixed (fun k:Nat=>{n:=74,next:=0,slots:=[(0,.d (za0 l)),(6,.d (za0 l)),(7,.d (.int .i64 l.length)),(8,.d (.int .i64 k))],own:=[]})
  (fun k=>k≤l.length∧∀ j,j<k→zbn l j=none) (fun k=>l.length-k) 0 (by simp) (by simp [za0]) ?_
 intro k ⟨hk,hp⟩
 by_cases hlt:k<l.length
 ·have e1:l[k]?=some l[k]:=List.getElem?_eq_getElem hlt
  have hit:=fun e=>zjq (e:=e) hlt hp
  simp only [zbn,e1] at hit;have hfd:l[k].fit:=hf _ (List.getElem_mem hlt)
  have hll : ∀ e∈l,e.row.length=4:=fun e _=>rfl
  simp +decide [za0,Dec.row,int,e1,hlt,I64];refine zaj.pure (by rfl) (zic l[k].ref.rcd) (by simp) ?_
  cases h1:isId l[k].ref.rcd
  ·simp +decide [int,hit 2 (by simp [h1])]
  simp +decide [int];refine zaj.pure (by rfl) (zic l[k].ref.note) (by simp) ?_
  cases h2:isId l[k].ref.note
  ·simp +decide [int,hit 2 (by simp [h1,h2])]
  simp +decide [int,zab];by_cases h3:l[k].pick=[]
  ·simp +decide [h3,hit 4 (by simp [h1,h2,h3])]
  simp +decide [h3];by_cases h4:l[k].pick.length>4
  ·have h4i:(4:Int)<(l[k].pick.length:Int):=by omega
   have h4j:¬(l[k].pick.length:Int)≤4:=by omega
   simp +decide [h4i,h4j,hit 11 (by simp [h1,h2,h3,h4])]
  have h4i:¬(4:Int)<(l[k].pick.length:Int):=by omega
  have h4j:(l[k].pick.length:Int)≤4:=by omega
  simp +decide [h4i,h4j];by_cases hk0:0<k
  ·have hj:k-1<l.length:=by omega
   have e0:l[k-1]?=some l[k-1]:=List.getElem?_eq_getElem hj
   have hjf:l[k-1].fit:=hf _ (List.getElem_mem hj)
   have hk1:¬ k=0:=by omega
   simp +decide [e0,I64,Dec.row,hk0,hk1];refine ⟨by omega,by omega,zae (by rfl) (by rfl) (z8z l[k-1] l[k] hjf hfd) (by simp) ?_⟩
   cases h5:zcw l[k-1] l[k]
   ·simp +decide [int,hit 10 (by simp [h1,h2,h3,h4,e0,h5,hk0])]
   simp +decide [int];have hpre:(decide (0<k)&&match l[k-1]? with | some c=>!zcw c l[k] | none=>false)=false:=by simp [e0,h5]
   refine zaf mixed (fun m:Nat=>{n:=74,next:=1,slots:=[(0,.d (za0 l)),(3,.d (.int .i64 k)),(4,.bp 0 0),(5,.d (.int .i64 m)),(6,.d (za0 l)),(7,.d (.int .i64 l.length)),(8,.d (.int .i64 k))],own:=[(0,.box 33 [.d (int l[k].ref.rcd),.d (int l[k].ref.note),.d (.bool l[k].yes),.d (zab l[k].pick)])]})
    (fun m=>m≤k∧∀ e∈l.take m,za8 l[k] e=false) (fun m=>k-m) 0 (by simp) (by simp [za0,int,zab]) ?_
   intro m ⟨hm,hq⟩;by_cases hmk:m<k
   ·have hml:m<l.length:=by omega
    have e2:l[m]?=some l[m]:=List.getElem?_eq_getElem hml
    have hany:za8 l[k] l[m]=true→zbn l k=some 8:=by
     intro h;have:(l.take k).any (za8 l[k])=true:=List.any_eq_true.2 ⟨l[m],by rw [List.mem_take_iff_getElem];exact ⟨m,by omega,rfl⟩,h⟩
     simp [zbn,e1,h1,h2,h3,h4,hpre,this]
    have hgo:za8 l[k] l[m]=false→∀ e∈l.take (m+1),za8 l[k] e=false:=fun h=>zd7 hml hq h
    cases y1:l[k].yes
    ·simp +decide [e2,hmk,hml,Dec.row,int,I64,za0,zab,y1]
     exact ⟨by omega,m+1,⟨hmk,hgo (by simp [za8,y1])⟩,by omega,by omega⟩
    ·cases y2:l[m].yes
     ·simp +decide [e2,hmk,hml,Dec.row,int,I64,za0,zab,y1,y2]
      exact ⟨by omega,m+1,⟨hmk,hgo (by simp [za8,y2])⟩,by omega,by omega⟩
     ·simp +decide [e2,hmk,hml,Dec.row,int,I64,za0,zab,y1,y2]
      refine ⟨fun g1 g2=>(zjq hlt hp (hany (by simp [za8,y1,y2,zm3,g1,g2]))).symm,fun g=>⟨by omega,m+1,⟨hmk,hgo ?_⟩,by omega,by omega⟩⟩
      simp [za8,y1,y2,zm3];exact fun e3 e4=>g e3.symm e4.symm
   ·have:m=k:=by omega
    subst this;have hno:(l.take m).any (za8 l[m])=false:=by rw [List.any_eq_false];intro x hx;rw [hq x hx];simp
    simp +decide [int,I64,za0,zab];refine ⟨by omega,m+1,⟨hlt,zjr hp ?_⟩,by omega,by omega⟩
    simp [zbn,e1,h1,h2,h3,h4,hpre,hno]
  ·have hk1:k=0:=by omega
   simp +decide [hk0,hk1];have hpre:(decide (0<k)&&match l[k-1]? with | some c=>!zcw c l[k] | none=>false)=false:=by simp [hk0]
   refine zaf mixed (fun m:Nat=>{n:=74,next:=1,slots:=[(0,.d (za0 l)),(3,.d (.int .i64 k)),(4,.bp 0 0),(5,.d (.int .i64 m)),(6,.d (za0 l)),(7,.d (.int .i64 l.length)),(8,.d (.int .i64 k))],own:=[(0,.box 33 [.d (int l[k].ref.rcd),.d (int l[k].ref.note),.d (.bool l[k].yes),.d (zab l[k].pick)])]})
    (fun m=>m≤k∧∀ e∈l.take m,za8 l[k] e=false) (fun m=>k-m) 0 (by simp) (by simp [za0,int,zab,hk1]) ?_
   intro m ⟨hm,hq⟩;by_cases hmk:m<k
   ·have hml:m<l.length:=by omega
    have e2:l[m]?=some l[m]:=List.getElem?_eq_getElem hml
    have hany:za8 l[k] l[m]=true→zbn l k=some 8:=by
     intro h;have:(l.take k).any (za8 l[k])=true:=List.any_eq_true.2 ⟨l[m],by rw [List.mem_take_iff_getElem];exact ⟨m,by omega,rfl⟩,h⟩
     simp [zbn,e1,h1,h2,h3,h4,hpre,this]
    have hgo:za8 l[k] l[m]=false→∀ e∈l.take (m+1),za8 l[k] e=false:=fun h=>zd7 hml hq h
    cases y1:l[k].yes
    ·simp +decide [e2,hmk,hml,Dec.row,int,I64,za0,zab,y1]
     exact ⟨by omega,m+1,⟨hmk,hgo (by simp [za8,y1])⟩,by omega,by omega⟩
    ·cases y2:l[m].yes
     ·simp +decide [e2,hmk,hml,Dec.row,int,I64,za0,zab,y1,y2]
      exact ⟨by omega,m+1,⟨hmk,hgo (by simp [za8,y2])⟩,by omega,by omega⟩
     ·simp +decide [e2,hmk,hml,Dec.row,int,I64,za0,zab,y1,y2]
      refine ⟨fun g1 g2=>(zjq hlt hp (hany (by simp [za8,y1,y2,zm3,g1,g2]))).symm,fun g=>⟨by omega,m+1,⟨hmk,hgo ?_⟩,by omega,by omega⟩⟩
      simp [za8,y1,y2,zm3];exact fun e3 e4=>g e3.symm e4.symm
   ·have:m=k:=by omega
    subst this;have hno:(l.take m).any (za8 l[m])=false:=by rw [List.any_eq_false];intro x hx;rw [hq x hx];simp
    simp +decide [int,I64,za0,zab];refine ⟨by omega,m+1,⟨hlt,zjr hp ?_⟩,by omega,by omega⟩
    simp [zbn,e1,h1,h2,h3,h4,hpre,hno]
 ·have:k=l.length:=by omega
  subst this;simp +decide [za0,int];rw [zkv (by simpa using hp)]
end Go.V
namespace Go.V
open Go Go.Proofs
def fewL (l:List Dec):Bool:=decide (l.length≤40)&&l.all fun d=>decide (d.pick.length≤10)
theorem yil (l:List Dec):zam Tryz.prog 13 [za0 l] (.bool (fewL l)):=by
 refine zaa mixed Tryz.func13 rfl call_13 ?_
 simp [Tryz.f13,za0,int]
 refine zaf mixed (fun k:Nat=>{n:=25,next:=0,slots:=[(0,.d (za0 l)),(3,.d (.int .i64 k))],own:=[]})
  (fun k=>k≤l.length∧k≤41∧∀ d∈l.take k,d.pick.length≤10) (fun k=>l.length-k) 0 (by simp) (by simp [za0,int]) ?_
 intro k ⟨hk,hk2,hp⟩
 by_cases hlt:k<l.length
 ·have e1:l[k]?=some l[k]:=List.getElem?_eq_getElem hlt
  by_cases h41:k<41
  ·have h41':(k:Int)<41:=by omega
   have h41'':¬ 41≤(k:Int):=by omega
   by_cases h10:l[k].pick.length≤10
   ·have g1:¬(10:Int)<l[k].pick.length:=by omega
    have g2:(l[k].pick.length:Int)≤10:=by omega
    simp +decide [za0,zab,Dec.row,int,e1,hlt,I64,h41',h41'',g1,g2];exact ⟨by omega,k+1,⟨hlt,by omega,zd7 hlt hp h10⟩,by omega,by omega⟩
   ·have g1:(10:Int)<l[k].pick.length:=by omega
    have g2:¬(l[k].pick.length:Int)≤10:=by omega
    simp +decide [za0,zab,Dec.row,int,e1,hlt,I64,h41',h41'',g1,g2];simp only [fewL];rw [Bool.and_eq_false_iff];right
    rw [List.all_eq_false];exact ⟨l[k],List.getElem_mem hlt,by simpa using h10⟩
  ·have h41':¬(k:Int)<41:=by omega
   have h41'':41≤(k:Int):=by omega
   have g3:¬(l.length:Int)≤40:=by omega
   have g4:¬ l.length≤40:=by omega
   simp +decide [za0,zab,hlt,h41',h41'',g3,fewL,g4]
 ·have:k=l.length:=by omega
  subst this;rw [List.take_length] at hp;have ha:(l.all fun d=>decide (d.pick.length≤10))=true:=by rw [List.all_eq_true];intro d hd;simpa using hp d hd
  simp +decide [za0,int,fewL,ha];omega
def zkg (l:List Dec):Bool:=fewL l&&decide (zcc l=0)
theorem zww {l:List Dec} (h:fewL l=true):l.length<2^62∧zpt l:=by
 simp only [fewL,Bool.and_eq_true,decide_eq_true_eq,List.all_eq_true] at h
 exact ⟨by omega,fun d hd=>by have:=h.2 d hd;unfold Dec.fit;omega⟩
theorem ydr (l:List Dec):zam Tryz.prog 17 [za0 l] (.bool (zkg l)):=by
 refine zaa mixed Tryz.func17 rfl call_17 ?_
 simp [Tryz.f17,za0]
 refine zaj.pure (by rfl) (yil l) (by simp) ?_
 cases h:fewL l
 ·simp [zkg,h]
 ·obtain ⟨h1,h2⟩:=zww h
  simp
  refine zaj.pure (by rfl) (zpu l h1 h2) (by simp) ?_
  simp +decide [zkg,h,int]
end Go.V
namespace Go.V
open Go Go.Proofs
@[simp] theorem yif (d:Dec):d.row.length=4:=rfl
def zck (l:List Dec) (r:Rf):List Prt×Bool:=match l.find? (fun d=>decide (d.ref=r)&&d.yes) with
 | some d=>(d.pick,true)
 | none=>([],false)
theorem yds {α:Type} {p:α→Bool} {l:List α} {k:Nat} (h:k<l.length) (hp : ∀ e∈l.take k,p e=false) (he:p l[k]=true):l.find? p=some l[k]:=by
 rw [List.find?_eq_some_iff_getElem]
 refine ⟨he,k,h,rfl,fun j hj=>?_⟩
 have:=hp l[j] (by rw [List.mem_take_iff_getElem];exact ⟨j,by omega,rfl⟩)
 simpa using this
theorem z9a {α:Type} {p:α→Bool} {l:List α} (hp : ∀ e∈l,p e=false):l.find? p=none:=by
 rw [List.find?_eq_none];intro e he;simpa using hp e he
theorem z9b (l:List Dec) (r:Rf) (hl:l.length<2^62):zam Tryz.prog 21 [za0 l,refD r] (.tup [anaD (zck l r).1,.bool (zck l r).2]):=by
 refine zaa mixed Tryz.func21 rfl call_21 ?_
 simp [Tryz.f21,za0,refD,Rf.row,int,Value.oneCell']
 refine zaf mixed (fun k:Nat=>{n:=26,next:=2,slots:=[(3,.bp 0 0),(4,.bp 1 0),(8,.d (za0 l)),(9,.d (.int .i64 l.length)),(10,.d (.int .i64 k))],own:=[(0,.box 28 [.d (int r.rcd),.d (int r.note)]),(1,.box 31 [.nils])]})
  (fun k=>k≤l.length∧∀ e∈l.take k,(decide (e.ref=r)&&e.yes)=false) (fun k=>l.length-k) 0 (by simp) (by simp [za0,int]) ?_
 intro k ⟨hk,hp⟩
 by_cases hlt:k<l.length
 ·have e1:l[k]?=some l[k]:=List.getElem?_eq_getElem hlt
  have hgo:(decide (l[k].ref=r)&&l[k].yes)=false→∀ e∈l.take (k+1),(decide (e.ref=r)&&e.yes)=false:=fun h=>zd7 hlt hp h
  by_cases g:l[k].ref=r
  ·have g':=zm3.1 g
   cases y:l[k].yes
   ·simp +decide [za0,Dec.row,int,e1,hlt,I64,g'.1,g'.2,y]
    exact ⟨by omega,k+1,⟨hlt,by simpa using hgo (by simp [y])⟩,by omega,by omega⟩
   ·have hh:=yds hlt hp (by simp [g,y])
    simp +decide [za0,Dec.row,int,e1,hlt,I64,g'.1,g'.2,y,zck,hh,anaD]
  ·have g':l[k].ref.rcd=r.rcd→¬ l[k].ref.note=r.note:=fun a b=>g (zm3.2 ⟨a,b⟩)
   by_cases g1:l[k].ref.rcd=r.rcd
   ·have g2:=g' g1
    simp +decide [za0,Dec.row,int,e1,hlt,I64,g1,g2];exact ⟨by omega,k+1,⟨hlt,by simpa using hgo (by simp [g])⟩,by omega,by omega⟩
   ·simp +decide [za0,Dec.row,int,e1,hlt,I64,g1]
    exact ⟨by omega,k+1,⟨hlt,by simpa using hgo (by simp [g])⟩,by omega,by omega⟩
 ·have:k=l.length:=by omega
  subst this;rw [List.take_length] at hp;have hh:=z9a hp;simp +decide [za0,int,zck,hh,anaD,zab]
theorem zhj {α:Type} {p:α→Bool} {l:List α} {k:Nat} (h:k<l.length):(l.take (k+1)).filter p=(l.take k).filter p++(if p l[k]=true then [l[k]] else []):=by
 rw [take_snoc h,List.filter_append]
 congr 1
 simp [List.filter_cons]
theorem z5p {α:Type} (p:α→Bool) (l:List α) (k:Nat):((l.take k).filter p).length≤l.length:=by
 have h1:=List.length_filter_le p (l.take k)
 have h2:=List.length_take_le k l
 simp only [List.length_take] at h1
 omega
end Go.V
namespace Go.V
open Go Go.Proofs
theorem zuu {α:Type} {l:List α} {i:Nat} (v:α) (h:i<l.length):(l.set i v).take (i+1)=l.take i++[v]:=by
 have hl:i<(l.set i v).length:=by simpa using h
 rw [take_snoc hl,List.getElem_set_self]
 congr 1
 apply List.ext_getElem?
 intro j
 simp only [List.getElem?_take,List.getElem?_set]
 by_cases hj:j<i
 ·rw [if_pos hj,if_pos hj,if_neg (by omega)]
 ·rw [if_neg hj,if_neg hj]
theorem zz5 {α:Type} {l:List α} {i j:Nat} (v:α) (h:i<j):(l.set i v).drop j=l.drop j:=by
 apply List.ext_getElem?
 intro k
 simp only [List.getElem?_drop,List.getElem?_set]
 rw [if_neg (by omega)]
end Go.V

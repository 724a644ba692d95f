/- Contracts and plain laws of this seat: part M1. It needs no conditions. -/
import Derived.Test.YtgglheknmlfghaaGreatTab
import Derived.Test.YtgglheknmlfghaaGreatB1
set_option linter.unusedVariables false
set_option linter.unusedSimpArgs false
set_option linter.unusedSectionVars false
set_option maxRecDepth 100000
namespace Go.V
open Go Go.Proofs
instance:Dr:=⟨false⟩
instance:Ov:=⟨false⟩
@[simp] theorem yd0 (n:Int) (k:Sym→Prop):arith .i64 n k=(I64 n∧k (.d (.int .i64 n))):=rfl
@[simp] theorem yd1 (n:Int) (k:Sym→Prop):arith .i32 n k=k (.d (.int .i32 (IntKind.i32.wrap n))):=rfl
@[simp] theorem ye5 (n:Int) (k:Sym→Prop):arith .u8 n k=k (.d (.int .u8 (IntKind.u8.wrap n))):=rfl
@[simp] theorem yd2 (n:Int) (k:Sym→Prop):arith .u32 n k=k (.d (.int .u32 (IntKind.u32.wrap n))):=rfl
@[simp] theorem yd3 (n:Int) (k:Sym→Prop):arith .u64 n k=k (.d (.int .u64 (IntKind.u64.wrap n))):=rfl
def int (n:Int):D:=.int .i64 n
def ints (l:List Int):D:=.sl (l.map fun n=>[.int .i64 n])
structure Phon where
 name:ByteArray
 feat:Int
 deriving DecidableEq
structure Grap where
 graph:ByteArray
 segs:List Int
 deriving DecidableEq
structure Orth where
 name:ByteArray
 units:List Grap
 letters:List (List ByteArray)
 deriving DecidableEq
structure Cls where
 mask:Int
 value:Int
 deriving DecidableEq
structure Rule where
 src:List Int
 dst:List Int
 left:List Cls
 right:List Cls
 beg:Bool
 fin:Bool
 deriving DecidableEq
structure Stp where
 src:Int
 cls:Int
 dst:Int
 deriving DecidableEq
structure Nett where
 states:Int
 steps:List Stp
 final:List Int
 deriving DecidableEq
structure Sens where
 gloss:ByteArray
 defn:ByteArray
 deriving DecidableEq
structure Lnk where
 kind:Int
 dst:Int
 deriving DecidableEq
structure Rf where
 rcd:Int
 note:Int
 deriving DecidableEq
structure Ent where
 id:Int
 form:List Int
 cls:Int
 alts:List (List Int)
 main:Int
 senses:List Sens
 links:List Lnk
 refs:List Rf
 deriving DecidableEq
structure Lang where
 inv:List Phon
 orth:Orth
 rules:List Rule
 net:Nett
 lex:List Ent
 deriving DecidableEq
structure Prt where
 entry:Int
 alt:Int
 sense:Int
 deriving DecidableEq
def Phon.row (p:Phon):List D:=[.str p.name,int p.feat]
def invD (l:List Phon):D:=.sl (l.map Phon.row)
def Grap.row (u:Grap):List D:=[.str u.graph,ints u.segs]
def zbx (l:List Grap):D:=.sl (l.map Grap.row)
def zdd (l:List (List ByteArray)):D:=.sl (l.map fun r=>[.sl (r.map fun s=>[.str s])])
def Orth.cells (o:Orth):List D:=[.str o.name,zbx o.units,zdd o.letters]
def Cls.row (c:Cls):List D:=[int c.mask,int c.value]
def clsD (l:List Cls):D:=.sl (l.map Cls.row)
def Rule.row (r:Rule):List D:=[ints r.src,ints r.dst,clsD r.left,clsD r.right,.bool r.beg,.bool r.fin]
def zb0 (l:List Rule):D:=.sl (l.map Rule.row)
def Stp.row (s:Stp):List D:=[int s.src,int s.cls,int s.dst]
def stepsD (l:List Stp):D:=.sl (l.map Stp.row)
def Nett.cells (n:Nett):List D:=[int n.states,stepsD n.steps,ints n.final]
def Sens.row (s:Sens):List D:=[.str s.gloss,.str s.defn]
def zbt (l:List Sens):D:=.sl (l.map Sens.row)
def Lnk.row (s:Lnk):List D:=[int s.kind,int s.dst]
def lnkD (l:List Lnk):D:=.sl (l.map Lnk.row)
def Rf.row (s:Rf):List D:=[int s.rcd,int s.note]
def rfD (l:List Rf):D:=.sl (l.map Rf.row)
def zbe (l:List (List Int)):D:=.sl (l.map fun a=>[ints a])
def Ent.row (e:Ent):List D:=[int e.id,ints e.form,int e.cls,zbe e.alts,int e.main,zbt e.senses,lnkD e.links,rfD e.refs]
def lexD (l:List Ent):D:=.sl (l.map Ent.row)
def Lang.d (g:Lang):D:=.agg [invD g.inv,.str g.orth.name,zbx g.orth.units,zdd g.orth.letters,zb0 g.rules,int g.net.states,stepsD g.net.steps,ints g.net.final,lexD g.lex]
def Prt.row (p:Prt):List D:=[int p.entry,int p.alt,int p.sense]
def zae (l:List Prt):D:=.sl (l.map Prt.row)
def anaD (a:List Prt):D:=.agg [zae a]
def zja (l:List (List Prt)):D:=.sl (l.map fun a=>[zae a])
@[simp ↓] theorem yfi (p:Prop):(true = !true→p)=True:=by simp
@[simp ↓] theorem yfj (p:Prop):(false = !false→p)=True:=by simp
@[simp ↓] theorem yfk (p:Prop):(true = !false→p)=p:=by simp
@[simp ↓] theorem yfl (p:Prop):(false = !true→p)=p:=by simp
@[simp ↓] theorem yfo (p:Prop):(true=false→p)=True:=by simp
@[simp ↓] theorem yfp (p:Prop):(false=true→p)=True:=by simp
@[simp ↓] theorem yfq (p:Prop):(true=true→p)=p:=by simp
@[simp ↓] theorem yfr (p:Prop):(false=false→p)=p:=by simp
end Go.V
namespace Go.V
open Go Go.Proofs
theorem take_snoc {α:Type} {l:List α} {k:Nat} (h:k<l.length):l.take (k+1)=l.take k++[l[k]]:=by
 rw [List.take_add_one,List.getElem?_eq_getElem h];rfl
theorem yd4 (l:List Int) (x:Int) (hl:l.length<2^62):za2 Tryz.prog 131 [ints l,int x] (.bool (decide (x∈l))):=by
 refine zab mixed Tryz.func131 rfl call_131 ?_
 simp [Tryz.f131,ints,int]
 refine zaf mixed (fun k:Nat=>{n:=17,next:=0,slots:=[(0,.d (ints l)),(1,.d (int x)),(7,.d (ints l)),(8,.d (.int .i64 l.length)),(9,.d (.int .i64 k))],own:=[]})
  (fun k=>k≤l.length∧x∉l.take k) (fun k=>l.length-k) 0 (by simp) (by simp [ints,int]) ?_
 intro k ⟨hk,hp⟩
 by_cases hlt:k<l.length
 ·have e1:l[k]?=some l[k]:=List.getElem?_eq_getElem hlt
  simp +decide [ints,int,e1,hlt,I64];refine ⟨fun h=>?_,fun h=>⟨by omega,k+1,⟨hlt,?_⟩,by omega,by omega⟩⟩
  ·rw [← h];exact List.getElem_mem hlt
  ·rw [take_snoc hlt,List.mem_append,not_or];exact ⟨hp,by simpa using fun e=>h e.symm⟩
 ·have:k=l.length:=by omega
  subst this;simp +decide [ints,int];simpa using hp
theorem z9l (a b:List Int) (hb:b.length<2^62):za2 Tryz.prog 39 [ints a,ints b] (.bool (decide (a=b))):=by
 refine zab mixed Tryz.func39 rfl call_39 ?_
 simp [Tryz.f39,ints]
 refine ⟨fun h e=>h (by rw [e]),fun h=>?_⟩
 refine zaf mixed (fun k:Nat=>{n:=26,next:=0,slots:=[(0,.d (ints a)),(1,.d (ints b)),(12,.d (.int .i64 a.length)),(13,.d (.int .i64 k))],own:=[]})
  (fun k=>k≤a.length∧a.take k=b.take k) (fun k=>a.length-k) 0 (by simp) (by simp [ints]) ?_
 intro k ⟨hk,hp⟩
 have h:a.length=b.length:=by omega
 by_cases hlt:k<a.length
 ·have e1:a[k]?=some a[k]:=List.getElem?_eq_getElem hlt
  have e2:b[k]?=some (b[k]'(by omega)):=List.getElem?_eq_getElem (by omega)
  have hlt':k<b.length:=by omega
  simp +decide [ints,e1,e2,hlt,hlt',I64];refine ⟨fun hne e=>hne (by subst e;rfl),fun he=>⟨by omega,k+1,⟨hlt,?_⟩,by omega,by omega⟩⟩
  rw [take_snoc hlt,take_snoc hlt',hp,he]
 ·have:k=a.length:=by omega
  subst this;simp +decide [ints];rw [List.take_length,h,List.take_length] at hp;exact hp
def z9m:List Int→List Int→Bool
 | a::l,b::m=>if a=b then z9m l m else decide (a<b)
 | [],_::_=>true
 | _,[]=>false
end Go.V
namespace Go.V
open Go Go.Proofs
def zdj (inv:List Phon) (n:Int):Bool:=decide (1≤n)&&decide (n≤inv.length)
theorem zsm (inv:List Phon) (n:Int):za2 Tryz.prog 94 [.agg [invD inv],int n] (.bool (zdj inv n)):=by
 refine zab mixed Tryz.func94 rfl call_94 ?_
 simp [Tryz.f94,invD,int,zdj]
 omega
theorem zq2 (inv:List Phon) (n:Int):za2 Tryz.prog 92 [.agg [invD inv],int n] (.bool (zdj inv n)):=by
 refine zab mixed Tryz.func92 rfl call_92 ?_
 simp [Tryz.f92,invD,int,zdj]
 omega
theorem zzv (n:Int):za2 Tryz.prog 149 [int n] (.bool false):=by
 refine zab mixed Tryz.func149 rfl call_149 ?_
 simp [Tryz.f149,int]
def cmpI (a b:Int):Int:=if a<b then -1 else if b<a then 1 else 0
theorem zlq (a b:Int):za2 Tryz.prog 106 [int a,int b] (int (cmpI a b)):=by
 refine zab mixed Tryz.func106 rfl call_106 ?_
 simp [Tryz.f106,int]
 refine zam.pure (by rfl) (zzv a) (by simp) ?_
 simp
 refine zam.pure (by rfl) (zzv b) (by simp) ?_
 simp [cmpI]
 refine ⟨fun h h'=>by omega,fun h=>by omega⟩
def zdk (l:List Ent) (id:Int):Int:=match l.findIdx? (·.id=id) with
 | some k=>k
 | none=>-1
theorem zn5 {l:List Ent} {id:Int} {k:Nat} (h:k<l.length) (hp : ∀ e∈l.take k,e.id≠id) (he:l[k].id=id):l.findIdx? (·.id=id)=some k:=by
 rw [List.findIdx?_eq_some_iff_getElem]
 refine ⟨h,by simpa using he,fun j hj=>?_⟩
 have:=hp l[j] (by rw [List.mem_take_iff_getElem];exact ⟨j,by omega,rfl⟩)
 simpa using this
theorem zlr {l:List Ent} {id:Int} (hp : ∀ e∈l,e.id≠id):l.findIdx? (·.id=id)=none:=by
 rw [List.findIdx?_eq_none_iff];intro e he;simpa using hp e he
theorem zir {α:Type} {p:α→Prop} {l:List α} {k:Nat} (h:k<l.length) (hp : ∀ e∈l.take k,p e) (he:p l[k]) : ∀ e∈l.take (k+1),p e:=by
 rw [take_snoc h]
 intro e hm
 rcases List.mem_append.1 hm with hm | hm
 ·exact hp e hm
 ·simp at hm;rw [hm];exact he
theorem zn6 (l:List Ent) (id:Int) (hl:l.length<2^62):za2 Tryz.prog 125 [lexD l,int id] (int (zdk l id)):=by
 refine zab mixed Tryz.func125 rfl call_125 ?_
 simp [Tryz.f125,lexD,int]
 refine zaf mixed (fun k:Nat=>{n:=20,next:=0,slots:=[(0,.d (lexD l)),(1,.d (int id)),(5,.d (.int .i64 k))],own:=[]})
  (fun k=>k≤l.length∧∀ e∈l.take k,e.id≠id) (fun k=>l.length-k) 0 (by simp) (by simp [lexD,int]) ?_
 intro k ⟨hk,hp⟩
 by_cases hlt:k<l.length
 ·have e1:l[k]?=some l[k]:=List.getElem?_eq_getElem hlt
  simp +decide [lexD,Ent.row,int,e1,hlt,I64];refine ⟨fun h=>?_,fun h=>⟨by omega,k+1,⟨hlt,zir hlt hp h⟩,by omega,by omega⟩⟩
  simp [zdk,zn5 hlt hp h]
 ·have:k=l.length:=by omega
  subst this;simp +decide [lexD,int];simp [zdk,zlr (by simpa using hp)]
theorem zn7 (l:List Ent) (id:Int) (hl:l.length<2^62):za2 Tryz.prog 121 [lexD l,int id] (int (zdk l id)):=by
 refine zab mixed Tryz.func121 rfl call_121 ?_
 simp [Tryz.f121,lexD,int]
 refine zaf mixed (fun k:Nat=>{n:=20,next:=0,slots:=[(0,.d (lexD l)),(1,.d (int id)),(5,.d (.int .i64 k))],own:=[]})
  (fun k=>k≤l.length∧∀ e∈l.take k,e.id≠id) (fun k=>l.length-k) 0 (by simp) (by simp [lexD,int]) ?_
 intro k ⟨hk,hp⟩
 by_cases hlt:k<l.length
 ·have e1:l[k]?=some l[k]:=List.getElem?_eq_getElem hlt
  simp +decide [lexD,Ent.row,int,e1,hlt,I64];refine ⟨fun h=>?_,fun h=>⟨by omega,k+1,⟨hlt,zir hlt hp h⟩,by omega,by omega⟩⟩
  simp [zdk,zn5 hlt hp h]
 ·have:k=l.length:=by omega
  subst this;simp +decide [lexD,int];simp [zdk,zlr (by simpa using hp)]
end Go.V
namespace Go.V
open Go Go.Proofs
def zum (inv:List Phon) (n:Int) (c:Cls):Bool:=zdj inv n&&(match inv[n.toNat-1]? with
 | some p=>decide (c.value=zhp .and .i64 p.feat c.mask)
 | none=>false)
theorem ye8 (inv:List Phon) (n:Int) (c:Cls) (hl:inv.length<2^62):za2 Tryz.prog 181 [.agg [invD inv],int n,.agg c.row] (.bool (zum inv n c)):=by
 refine zab mixed Tryz.func181 rfl call_181 ?_
 simp +decide [Tryz.f181,int,Cls.row]
 refine zah (by rfl) (by rfl) (zq2 inv n) (by simp) ?_
 by_cases hs:zdj inv n=true
 ·have hs':=hs
  simp only [zdj,Bool.and_eq_true,decide_eq_true_eq] at hs';have hlt:n.toNat-1<inv.length:=by omega
  have e1:inv[n.toNat-1]?=some inv[n.toNat-1]:=List.getElem?_eq_getElem hlt
  have e2:¬ n<1:=by omega
  simp +decide [invD,hs,hlt,e1,Phon.row,int,I64,zum];omega
 ·simp +decide [hs,zum]
end Go.V
namespace Go.V
open Go Go.Proofs
def Ent.zero:Ent:=⟨0,[],0,[],0,[],[],[]⟩
def getE (l:List Ent) (id:Int):Ent×Bool:=match l.find? (·.id=id) with
 | some e=>(e,true)
 | none=>(Ent.zero,false)
theorem z9n {l:List Ent} {id:Int} {k:Nat} (h:k<l.length) (hp : ∀ e∈l.take k,e.id≠id) (he:l[k].id=id):l.find? (·.id=id)=some l[k]:=by
 rw [List.find?_eq_some_iff_getElem]
 refine ⟨by simpa using he,k,h,rfl,fun j hj=>?_⟩
 have:=hp l[j] (by rw [List.mem_take_iff_getElem];exact ⟨j,by omega,rfl⟩)
 simpa using this
theorem z3x {l:List Ent} {id:Int} (hp : ∀ e∈l,e.id≠id):l.find? (·.id=id)=none:=by
 rw [List.find?_eq_none];intro e he;simpa using hp e he
theorem z9o (l:List Ent) (id:Int) (hl:l.length<2^62):za2 Tryz.prog 87 [lexD l,int id] (.tup [.agg (getE l id).1.row,.bool (getE l id).2]):=by
 refine zab mixed Tryz.func87 rfl call_87 ?_
 simp [Tryz.f87,lexD,int,Value.oneCell']
 refine zaf mixed (fun k:Nat=>{n:=25,next:=1,slots:=[(0,.d (lexD l)),(1,.d (int id)),(4,.bp 0 0),(8,.d (.int .i64 l.length)),(9,.d (.int .i64 k))],own:=[(0,.box 59 [.d (int 0),.nils,.d (int 0),.nils,.d (int 0),.nils,.nils,.nils])]})
  (fun k=>k≤l.length∧∀ e∈l.take k,e.id≠id) (fun k=>l.length-k) 0 (by simp) (by simp [lexD,int]) ?_
 intro k ⟨hk,hp⟩
 by_cases hlt:k<l.length
 ·have e1:l[k]?=some l[k]:=List.getElem?_eq_getElem hlt
  simp +decide [lexD,Ent.row,int,e1,hlt,I64];refine ⟨fun h=>?_,fun h=>⟨by omega,k+1,⟨hlt,zir hlt hp h⟩,by omega,by omega⟩⟩
  simp [getE,z9n hlt hp h,int]
 ·have:k=l.length:=by omega
  subst this;simp +decide [lexD,int];simp [getE,z3x (by simpa using hp),Ent.zero,Ent.row,int,ints,zbe,zbt,lnkD,rfD]
end Go.V
namespace Go.V
open Go Go.Proofs
def zfj (l:List Rule):Bool:=l.any fun r=>decide (0∈r.dst)
theorem ycd {α:Type} {p:α→Bool} {l:List α} {k:Nat} (h:k<l.length) (hp:p l[k]=true):l.any p=true:=List.any_eq_true.2 ⟨_,List.getElem_mem h,hp⟩
theorem zq3 (l:List Rule) (hl:l.length<2^62) (hs : ∀ r∈l,r.dst.length<2^62):za2 Tryz.prog 83 [zb0 l] (.bool (zfj l)):=by
 refine zab mixed Tryz.func83 rfl call_83 ?_
 simp [Tryz.f83,zb0]
 refine zaf mixed (fun k:Nat=>{n:=15,next:=0,slots:=[(5,.d (zb0 l)),(6,.d (.int .i64 l.length)),(7,.d (.int .i64 k))],own:=[]})
  (fun k=>k≤l.length∧∀ r∈l.take k,0∉r.dst) (fun k=>l.length-k) 0 (by simp) (by simp [zb0]) ?_
 intro k ⟨hk,hp⟩
 by_cases hlt:k<l.length
 ·have e1:l[k]?=some l[k]:=List.getElem?_eq_getElem hlt
  simp +decide [zb0,Rule.row,int,e1,hlt,I64,Value.oneCell'];refine zam.pure (by rfl) (yd4 l[k].dst 0 (hs _ (List.getElem_mem hlt))) (by simp) ?_
  simp +decide [zb0,I64];refine ⟨fun h=>?_,fun h=>⟨by omega,k+1,⟨hlt,zir hlt hp h⟩,by omega,by omega⟩⟩
  exact (ycd hlt (by simpa using h))
 ·have:k=l.length:=by omega
  subst this;simp +decide [zb0];simp only [List.take_length] at hp;simp only [zfj,List.any_eq_false];intro r hr;simpa using hp r hr
end Go.V
namespace Go.V
open Go Go.Proofs
def Ent.forms (e:Ent):List (List Int):=e.form::e.alts
end Go.V
namespace Go.V
open Go Go.Proofs
def zgw (a b:Prt):Bool:=if a.entry=b.entry then (if a.alt=b.alt then decide (a.sense<b.sense) else decide (a.alt<b.alt)) else decide (a.entry<b.entry)
theorem zxm (a b:Prt):za2 Tryz.prog 141 [.agg a.row,.agg b.row] (.bool (zgw a b)):=by
 refine zab mixed Tryz.func141 rfl call_141 ?_
 simp +decide [Tryz.f141,Prt.row,int,zgw]
 exact ⟨fun h h'=>absurd h' h,fun h=>⟨fun h2=>by rw [if_pos h,if_neg h2],fun h2=>by rw [if_pos h,if_pos h2]⟩⟩
def zbu:List Prt→List Prt→Bool
 | a::l,b::m=>if a=b then zbu l m else zgw a b
 | [],_::_=>true
 | _,[]=>false
theorem z1e {a b:List Prt} {k:Nat} (h:k<a.length) (h':k<b.length):zbu (a.drop k) (b.drop k)=if a[k]=b[k] then zbu (a.drop (k+1)) (b.drop (k+1)) else zgw a[k] b[k]:=by
 rw [List.drop_eq_getElem_cons h,List.drop_eq_getElem_cons h'];rfl
theorem zun {a b:List Prt} {k:Nat} (h:¬(k<a.length∧k<b.length)) (hk:k≤a.length∧k≤b.length):zbu (a.drop k) (b.drop k)=decide (a.length<b.length):=by
 by_cases h1:k<b.length
 ·have:k=a.length:=by omega
  subst this;rw [List.drop_length,List.drop_eq_getElem_cons h1];simp [zbu,h1]
 ·have:k=b.length:=by omega
  subst this;rw [List.drop_length];have:¬ a.length<b.length:=by omega
  cases a.drop b.length <;> simp [zbu,this]
theorem z3y {a b:Prt}:a=b↔a.entry=b.entry∧a.alt=b.alt∧a.sense=b.sense:=by
 cases a;cases b;simp
theorem zuo (a b:List Prt) (ha:a.length<2^62) (hb:b.length<2^62):za2 Tryz.prog 96 [anaD a,anaD b] (.bool (zbu a b)):=by
 refine zab mixed Tryz.func96 rfl call_96 ?_
 simp [Tryz.f96,anaD,zae]
 refine zaf mixed (fun k:Nat=>{n:=49,next:=2,slots:=[(2,.bp 0 0),(3,.bp 1 0),(5,.d (.int .i64 k))],own:=[(1,.box 39 [.d (zae b)]),(0,.box 39 [.d (zae a)])]})
  (fun k=>k≤a.length∧k≤b.length∧zbu a b=zbu (a.drop k) (b.drop k)) (fun k=>a.length-k) 0 (by simp) (by simp [zae]) ?_
 intro k ⟨hk,hk',hp⟩
 by_cases hlt:k<a.length
 ·by_cases hlt':k<b.length
  ·have e1:a[k]?=some a[k]:=List.getElem?_eq_getElem hlt
   have e2:b[k]?=some b[k]:=List.getElem?_eq_getElem hlt'
   rw [z1e hlt hlt'] at hp;simp +decide [zae,Prt.row,int,e1,e2,hlt,hlt',I64];refine ⟨fun h=>?_,fun h1 h2 h3=>⟨by omega,k+1,⟨hlt,hlt',?_⟩,by omega,by omega⟩⟩
   ·refine zah (by rfl) (by rfl) (zxm a[k] b[k]) (by simp) ?_
    have hne:¬ a[k]=b[k]:=fun e=>by rw [z3y] at e;obtain ⟨q1,q2,q3⟩:=e;simp [q1,q2,q3] at h
    simp +decide [hp,if_neg hne]
   ·rw [hp,if_pos (z3y.2 ⟨h1,h2,h3⟩)]
  ·rw [zun (fun h=>hlt' h.2) ⟨hk,hk'⟩] at hp
   simp +decide [zae,hlt,hlt',hp]
 ·rw [zun (fun h=>hlt h.1) ⟨hk,hk'⟩] at hp
  simp +decide [zae,hlt,hp]
end Go.V
namespace Go.V
open Go Go.Proofs
theorem zxn {a b:Prt} (h:zgw a b=false) (h':zgw b a=false):a=b:=by
 rw [z3y]
 unfold zgw at h h'
 by_cases e1:a.entry=b.entry
 ·rw [if_pos e1] at h;rw [if_pos e1.symm] at h'
  by_cases e2:a.alt=b.alt
  ·rw [if_pos e2] at h;rw [if_pos e2.symm] at h'
   simp at h h'
   exact ⟨e1,e2,by omega⟩
  ·rw [if_neg e2] at h;rw [if_neg (fun e=>e2 e.symm)] at h'
   simp at h h';omega
 ·rw [if_neg e1] at h;rw [if_neg (fun e=>e1 e.symm)] at h'
  simp at h h';omega
theorem zmq : ∀ (a:List Prt),zbu a a=false
 | []=>rfl
 | a::l=>by simp [zbu,zmq l]
theorem zn8 : ∀ {a b:List Prt},zbu a b=false→zbu b a=false→a=b
 | [],[],_,_=>rfl
 | [],_::_,h,_=>by simp [zbu] at h
 | _::_,[],_,h=>by simp [zbu] at h
 | a::l,b::m,h,h'=>by
  simp only [zbu] at h h';by_cases e:a=b
  ·subst e
   simp at h h'
   rw [zn8 h h']
  ·rw [if_neg e] at h;rw [if_neg (fun q=>e q.symm)] at h'
   exact absurd (zxn h h') e
theorem z1f (a b:List Prt):(!zbu a b && !zbu b a)=decide (a=b):=by
 by_cases e:a=b
 ·subst e;simp [zmq]
 ·rw [decide_eq_false e]
  cases h:zbu a b <;> cases h':zbu b a <;> simp
  exact e (zn8 h h')
theorem z3z (a b:List Prt) (ha:a.length<2^62) (hb:b.length<2^62):za2 Tryz.prog 56 [anaD a,anaD b] (.bool (decide (a=b))):=by
 refine zab mixed Tryz.func56 rfl call_56 ?_
 rw [← z1f]
 simp [Tryz.f56,anaD]
 refine zam.pure (by rfl) (zuo a b ha hb) (by simp) ?_
 cases h:zbu a b
 ·simp
  refine zam.pure (by rfl) (zuo b a hb ha) (by simp) ?_
  simp
 ·simp
theorem z4a (a b:List (List Prt)) (hb:b.length<2^62) (ha : ∀ x∈a,x.length<2^62) (hb' : ∀ x∈b,x.length<2^62):za2 Tryz.prog 22 [zja a,zja b] (.bool (decide (a=b))):=by
 refine zab mixed Tryz.func22 rfl call_22 ?_
 simp [Tryz.f22,zja]
 refine ⟨fun h e=>h (by rw [e]),fun h=>?_⟩
 refine zaf mixed (fun k:Nat=>{n:=27,next:=0,slots:=[(0,.d (zja a)),(1,.d (zja b)),(5,.d (.int .i64 k))],own:=[]})
  (fun k=>k≤a.length∧a.take k=b.take k) (fun k=>a.length-k) 0 (by simp) (by simp [zja]) ?_
 intro k ⟨hk,hp⟩
 have h:a.length=b.length:=by omega
 by_cases hlt:k<a.length
 ·have hlt':k<b.length:=by omega
  have e1:a[k]?=some a[k]:=List.getElem?_eq_getElem hlt
  have e2:b[k]?=some b[k]:=List.getElem?_eq_getElem hlt'
  simp +decide [zja,e1,e2,hlt,hlt',I64];refine zah (by rfl) (by rfl) (z3z a[k] b[k] (ha _ (List.getElem_mem hlt)) (hb' _ (List.getElem_mem hlt'))) (by simp) ?_
  simp +decide [zja,I64];refine ⟨fun hne e=>hne (by subst e;rfl),fun he=>⟨by omega,k+1,⟨hlt,?_⟩,by omega,by omega⟩⟩
  rw [take_snoc hlt,take_snoc hlt',hp,he]
 ·have:k=a.length:=by omega
  subst this;simp +decide [zja];rw [List.take_length,h,List.take_length] at hp;exact hp
end Go.V
namespace Go.V
open Go Go.Proofs
end Go.V
namespace Go.V
open Go Go.Proofs
def z4b (n:Int):Prop:=(Lit.int .i64 n).wf=true
theorem z4b.I64 {n:Int} (h:z4b n):I64 n:=by
 have:=bounds_i64 h
 unfold Go.V.I64;omega
def Prt.ok (p:Prt):Prop:=z4b p.entry∧z4b p.alt∧z4b p.sense
end Go.V

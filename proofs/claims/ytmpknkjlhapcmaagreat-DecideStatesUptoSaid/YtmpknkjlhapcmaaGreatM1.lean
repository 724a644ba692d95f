/- Contracts and plain laws of this seat: part M1. It needs no conditions. -/
import Derived.Test.YtmpknkjlhapcmaaGreatTab
set_option linter.unusedVariables false
set_option linter.unusedSimpArgs false
set_option linter.unusedSectionVars false
set_option maxRecDepth 100000
namespace Go.V
open Go Go.Proofs
instance:Dr:=⟨false⟩
instance:Ov:=⟨false⟩
@[simp] theorem ykb (n:Int) (k:Sym→Prop):arith .i64 n k=(I64 n∧k (.d (.int .i64 n))):=rfl
@[simp] theorem ykc (n:Int) (k:Sym→Prop):arith .i32 n k=k (.d (.int .i32 (IntKind.i32.wrap n))):=rfl
@[simp] theorem ylg (n:Int) (k:Sym→Prop):arith .u8 n k=k (.d (.int .u8 (IntKind.u8.wrap n))):=rfl
@[simp] theorem ykd (n:Int) (k:Sym→Prop):arith .u32 n k=k (.d (.int .u32 (IntKind.u32.wrap n))):=rfl
@[simp] theorem yke (n:Int) (k:Sym→Prop):arith .u64 n k=k (.d (.int .u64 (IntKind.u64.wrap n))):=rfl
def int (n:Int):D:=.int .i64 n
def ints (l:List Int):D:=.sl (l.map fun n=>[.int .i64 n])
structure Phon where
 name:ByteArray
 feat:Int
 deriving DecidableEq
structure Grap where
 graph:ByteArray
 segs:List Int
 deriving DecidableEq
structure Orth where
 name:ByteArray
 units:List Grap
 letters:List (List ByteArray)
 deriving DecidableEq
structure Cls where
 mask:Int
 value:Int
 deriving DecidableEq
structure Rule where
 src:List Int
 dst:List Int
 left:List Cls
 right:List Cls
 beg:Bool
 fin:Bool
 deriving DecidableEq
structure Stp where
 src:Int
 cls:Int
 dst:Int
 deriving DecidableEq
structure Nett where
 states:Int
 steps:List Stp
 final:List Int
 deriving DecidableEq
structure Sens where
 gloss:ByteArray
 defn:ByteArray
 deriving DecidableEq
structure Lnk where
 kind:Int
 dst:Int
 deriving DecidableEq
structure Rf where
 rcd:Int
 note:Int
 deriving DecidableEq
structure Ent where
 id:Int
 form:List Int
 cls:Int
 alts:List (List Int)
 main:Int
 senses:List Sens
 links:List Lnk
 refs:List Rf
 deriving DecidableEq
structure Lang where
 inv:List Phon
 orth:Orth
 rules:List Rule
 net:Nett
 lex:List Ent
 deriving DecidableEq
structure Prt where
 entry:Int
 alt:Int
 sense:Int
 deriving DecidableEq
def Phon.row (p:Phon):List D:=[.str p.name,int p.feat]
def invD (l:List Phon):D:=.sl (l.map Phon.row)
def Grap.row (u:Grap):List D:=[.str u.graph,ints u.segs]
def za8 (l:List Grap):D:=.sl (l.map Grap.row)
def zdr (l:List (List ByteArray)):D:=.sl (l.map fun r=>[.sl (r.map fun s=>[.str s])])
def Orth.cells (o:Orth):List D:=[.str o.name,za8 o.units,zdr o.letters]
def Cls.row (c:Cls):List D:=[int c.mask,int c.value]
def clsD (l:List Cls):D:=.sl (l.map Cls.row)
def Rule.row (r:Rule):List D:=[ints r.src,ints r.dst,clsD r.left,clsD r.right,.bool r.beg,.bool r.fin]
def zbj (l:List Rule):D:=.sl (l.map Rule.row)
def Stp.row (s:Stp):List D:=[int s.src,int s.cls,int s.dst]
def stepsD (l:List Stp):D:=.sl (l.map Stp.row)
def Nett.cells (n:Nett):List D:=[int n.states,stepsD n.steps,ints n.final]
def Sens.row (s:Sens):List D:=[.str s.gloss,.str s.defn]
def zbp (l:List Sens):D:=.sl (l.map Sens.row)
def Lnk.row (s:Lnk):List D:=[int s.kind,int s.dst]
def lnkD (l:List Lnk):D:=.sl (l.map Lnk.row)
def Rf.row (s:Rf):List D:=[int s.rcd,int s.note]
def rfD (l:List Rf):D:=.sl (l.map Rf.row)
def zbh (l:List (List Int)):D:=.sl (l.map fun a=>[ints a])
def Ent.row (e:Ent):List D:=[int e.id,ints e.form,int e.cls,zbh e.alts,int e.main,zbp e.senses,lnkD e.links,rfD e.refs]
def lexD (l:List Ent):D:=.sl (l.map Ent.row)
def Lang.d (g:Lang):D:=.agg [invD g.inv,.str g.orth.name,za8 g.orth.units,zdr g.orth.letters,zbj g.rules,int g.net.states,stepsD g.net.steps,ints g.net.final,lexD g.lex]
def Prt.row (p:Prt):List D:=[int p.entry,int p.alt,int p.sense]
def zab (l:List Prt):D:=.sl (l.map Prt.row)
def anaD (a:List Prt):D:=.agg [zab a]
def za1 (l:List (List Prt)):D:=.sl (l.map fun a=>[zab a])
@[simp ↓] theorem ylu (p:Prop):(true = !true→p)=True:=by simp
@[simp ↓] theorem ylv (p:Prop):(false = !false→p)=True:=by simp
@[simp ↓] theorem ylw (p:Prop):(true = !false→p)=p:=by simp
@[simp ↓] theorem ylx (p:Prop):(false = !true→p)=p:=by simp
@[simp ↓] theorem yl0 (p:Prop):(true=false→p)=True:=by simp
@[simp ↓] theorem yl1 (p:Prop):(false=true→p)=True:=by simp
@[simp ↓] theorem yl2 (p:Prop):(true=true→p)=p:=by simp
@[simp ↓] theorem yl3 (p:Prop):(false=false→p)=p:=by simp
end Go.V
namespace Go.V
open Go Go.Proofs
theorem take_snoc {α:Type} {l:List α} {k:Nat} (h:k<l.length):l.take (k+1)=l.take k++[l[k]]:=by
 rw [List.take_add_one,List.getElem?_eq_getElem h];rfl
theorem ykf (l:List Int) (x:Int) (hl:l.length<2^62):zam Tryz.prog 182 [ints l,int x] (.bool (decide (x∈l))):=by
 refine zaa mixed Tryz.func182 rfl call_182 ?_
 simp [Tryz.f182,ints,int]
 refine zad mixed (fun k:Nat=>{n:=17,next:=0,slots:=[(0,.d (ints l)),(1,.d (int x)),(7,.d (ints l)),(8,.d (.int .i64 l.length)),(9,.d (.int .i64 k))],own:=[]})
  (fun k=>k≤l.length∧x∉l.take k) (fun k=>l.length-k) 0 (by simp) (by simp [ints,int]) ?_
 intro k ⟨hk,hp⟩
 by_cases hlt:k<l.length
 ·have e1:l[k]?=some l[k]:=List.getElem?_eq_getElem hlt
  simp +decide [ints,int,e1,hlt,I64];refine ⟨fun h=>?_,fun h=>⟨by omega,k+1,⟨hlt,?_⟩,by omega,by omega⟩⟩
  ·rw [← h];exact List.getElem_mem hlt
  ·rw [take_snoc hlt,List.mem_append,not_or];exact ⟨hp,by simpa using fun e=>h e.symm⟩
 ·have:k=l.length:=by omega
  subst this;simp +decide [ints,int];simpa using hp
theorem zqv (l:List Int) (x:Int) (hl:l.length<2^62):zam Tryz.prog 160 [ints l,int x] (.bool (decide (x∈l))):=by
 refine zaa mixed Tryz.func160 rfl call_160 ?_
 simp [Tryz.f160,ints,int]
 refine zad mixed (fun k:Nat=>{n:=18,next:=0,slots:=[(0,.d (ints l)),(1,.d (int x)),(7,.d (.int .i64 l.length)),(8,.d (.int .i64 k))],own:=[]})
  (fun k=>k≤l.length∧x∉l.take k) (fun k=>l.length-k) 0 (by simp) (by simp [ints,int]) ?_
 intro k ⟨hk,hp⟩
 by_cases hlt:k<l.length
 ·have e1:l[k]?=some l[k]:=List.getElem?_eq_getElem hlt
  simp +decide [ints,int,e1,hlt,I64];refine ⟨fun h=>?_,fun h=>⟨by omega,k+1,⟨hlt,?_⟩,by omega,by omega⟩⟩
  ·rw [← h];exact List.getElem_mem hlt
  ·rw [take_snoc hlt,List.mem_append,not_or];exact ⟨hp,by simpa using fun e=>h e.symm⟩
 ·have:k=l.length:=by omega
  subst this;simp +decide [ints,int];simpa using hp
theorem z5a (a b:List Int) (hb:b.length<2^62):zam Tryz.prog 78 [ints a,ints b] (.bool (decide (a=b))):=by
 refine zaa mixed Tryz.func78 rfl call_78 ?_
 simp [Tryz.f78,ints]
 refine ⟨fun h e=>h (by rw [e]),fun h=>?_⟩
 refine zad mixed (fun k:Nat=>{n:=26,next:=0,slots:=[(0,.d (ints a)),(1,.d (ints b)),(12,.d (.int .i64 a.length)),(13,.d (.int .i64 k))],own:=[]})
  (fun k=>k≤a.length∧a.take k=b.take k) (fun k=>a.length-k) 0 (by simp) (by simp [ints]) ?_
 intro k ⟨hk,hp⟩
 have h:a.length=b.length:=by omega
 by_cases hlt:k<a.length
 ·have e1:a[k]?=some a[k]:=List.getElem?_eq_getElem hlt
  have e2:b[k]?=some (b[k]'(by omega)):=List.getElem?_eq_getElem (by omega)
  have hlt':k<b.length:=by omega
  simp +decide [ints,e1,e2,hlt,hlt',I64];refine ⟨fun hne e=>hne (by subst e;rfl),fun he=>⟨by omega,k+1,⟨hlt,?_⟩,by omega,by omega⟩⟩
  rw [take_snoc hlt,take_snoc hlt',hp,he]
 ·have:k=a.length:=by omega
  subst this;simp +decide [ints];rw [List.take_length,h,List.take_length] at hp;exact hp
def yfd:List Int→List Int→Bool
 | a::l,b::m=>if a=b then yfd l m else decide (a<b)
 | [],_::_=>true
 | _,[]=>false
end Go.V
namespace Go.V
open Go Go.Proofs
def zds (inv:List Phon) (n:Int):Bool:=decide (1≤n)&&decide (n≤inv.length)
theorem zqb (inv:List Phon) (n:Int):zam Tryz.prog 131 [.agg [invD inv],int n] (.bool (zds inv n)):=by
 refine zaa mixed Tryz.func131 rfl call_131 ?_
 simp [Tryz.f131,invD,int,zds]
 omega
theorem zt8 (inv:List Phon) (n:Int):zam Tryz.prog 157 [.agg [invD inv],int n] (.bool (zds inv n)):=by
 refine zaa mixed Tryz.func157 rfl call_157 ?_
 simp [Tryz.f157,invD,int,zds]
 omega
theorem z5b (n:Int):zam Tryz.prog 108 [int n] (.bool false):=by
 refine zaa mixed Tryz.func108 rfl call_108 ?_
 simp [Tryz.f108,int]
def cmpI (a b:Int):Int:=if a<b then -1 else if b<a then 1 else 0
theorem znq (a b:Int):zam Tryz.prog 83 [int a,int b] (int (cmpI a b)):=by
 refine zaa mixed Tryz.func83 rfl call_83 ?_
 simp [Tryz.f83,int]
 refine zaj.pure (by rfl) (z5b a) (by simp) ?_
 simp
 refine zaj.pure (by rfl) (z5b b) (by simp) ?_
 simp [cmpI]
 refine ⟨fun h h'=>by omega,fun h=>by omega⟩
def zd1 (l:List Ent) (id:Int):Int:=match l.findIdx? (·.id=id) with
 | some k=>k
 | none=>-1
theorem zqw {l:List Ent} {id:Int} {k:Nat} (h:k<l.length) (hp : ∀ e∈l.take k,e.id≠id) (he:l[k].id=id):l.findIdx? (·.id=id)=some k:=by
 rw [List.findIdx?_eq_some_iff_getElem]
 refine ⟨h,by simpa using he,fun j hj=>?_⟩
 have:=hp l[j] (by rw [List.mem_take_iff_getElem];exact ⟨j,by omega,rfl⟩)
 simpa using this
theorem znr {l:List Ent} {id:Int} (hp : ∀ e∈l,e.id≠id):l.findIdx? (·.id=id)=none:=by
 rw [List.findIdx?_eq_none_iff];intro e he;simpa using hp e he
theorem zdu {α:Type} {p:α→Prop} {l:List α} {k:Nat} (h:k<l.length) (hp : ∀ e∈l.take k,p e) (he:p l[k]) : ∀ e∈l.take (k+1),p e:=by
 rw [take_snoc h]
 intro e hm
 rcases List.mem_append.1 hm with hm | hm
 ·exact hp e hm
 ·simp at hm;rw [hm];exact he
theorem zl9 (l:List Ent) (id:Int) (hl:l.length<2^62):zam Tryz.prog 124 [lexD l,int id] (int (zd1 l id)):=by
 refine zaa mixed Tryz.func124 rfl call_124 ?_
 simp [Tryz.f124,lexD,int]
 refine zad mixed (fun k:Nat=>{n:=20,next:=0,slots:=[(0,.d (lexD l)),(1,.d (int id)),(5,.d (.int .i64 k))],own:=[]})
  (fun k=>k≤l.length∧∀ e∈l.take k,e.id≠id) (fun k=>l.length-k) 0 (by simp) (by simp [lexD,int]) ?_
 intro k ⟨hk,hp⟩
 by_cases hlt:k<l.length
 ·have e1:l[k]?=some l[k]:=List.getElem?_eq_getElem hlt
  simp +decide [lexD,Ent.row,int,e1,hlt,I64];refine ⟨fun h=>?_,fun h=>⟨by omega,k+1,⟨hlt,zdu hlt hp h⟩,by omega,by omega⟩⟩
  simp [zd1,zqw hlt hp h]
 ·have:k=l.length:=by omega
  subst this;simp +decide [lexD,int];simp [zd1,znr (by simpa using hp)]
theorem zqx (l:List Ent) (id:Int) (hl:l.length<2^62):zam Tryz.prog 120 [lexD l,int id] (int (zd1 l id)):=by
 refine zaa mixed Tryz.func120 rfl call_120 ?_
 simp [Tryz.f120,lexD,int]
 refine zad mixed (fun k:Nat=>{n:=20,next:=0,slots:=[(0,.d (lexD l)),(1,.d (int id)),(5,.d (.int .i64 k))],own:=[]})
  (fun k=>k≤l.length∧∀ e∈l.take k,e.id≠id) (fun k=>l.length-k) 0 (by simp) (by simp [lexD,int]) ?_
 intro k ⟨hk,hp⟩
 by_cases hlt:k<l.length
 ·have e1:l[k]?=some l[k]:=List.getElem?_eq_getElem hlt
  simp +decide [lexD,Ent.row,int,e1,hlt,I64];refine ⟨fun h=>?_,fun h=>⟨by omega,k+1,⟨hlt,zdu hlt hp h⟩,by omega,by omega⟩⟩
  simp [zd1,zqw hlt hp h]
 ·have:k=l.length:=by omega
  subst this;simp +decide [lexD,int];simp [zd1,znr (by simpa using hp)]
end Go.V
namespace Go.V
open Go Go.Proofs
theorem z7k (a b:List Prt) (hb:b.length<2^62):zam Tryz.prog 58 [zab a,zab b] (.bool (decide (a=b))):=by
 refine zaa mixed Tryz.func58 rfl call_58 ?_
 simp [Tryz.f58,zab]
 refine ⟨fun h e=>h (by rw [e]),fun h=>?_⟩
 refine zad mixed (fun k:Nat=>{n:=26,next:=0,slots:=[(0,.d (zab a)),(1,.d (zab b)),(12,.d (.int .i64 a.length)),(13,.d (.int .i64 k))],own:=[]})
  (fun k=>k≤a.length∧a.take k=b.take k) (fun k=>a.length-k) 0 (by simp) (by simp [zab]) ?_
 intro k ⟨hk,hp⟩
 have h:a.length=b.length:=by omega
 by_cases hlt:k<a.length
 ·have e1:a[k]?=some a[k]:=List.getElem?_eq_getElem hlt
  have e2:b[k]?=some (b[k]'(by omega)):=List.getElem?_eq_getElem (by omega)
  have hlt':k<b.length:=by omega
  simp +decide [zab,Prt.row,int,e1,e2,hlt,hlt',I64];refine ⟨fun hne e=>by subst e;simp at hne,fun h1 h2 h3=>⟨by omega,k+1,⟨hlt,?_⟩,by omega,by omega⟩⟩
  have he:a[k]=b[k]:=by
   rcases hA:a[k] with ⟨x1,x2,x3⟩;rcases hB:b[k] with ⟨y1,y2,y3⟩;rw [hA,hB] at h1 h2 h3;simp only at h1 h2 h3
   rw [h1,h2,h3]
  rw [take_snoc hlt,take_snoc hlt',hp,he]
 ·have:k=a.length:=by omega
  subst this;simp +decide [zab];rw [List.take_length,h,List.take_length] at hp;exact hp
def zkt (inv:List Phon) (n:Int) (c:Cls):Bool:=zds inv n&&(match inv[n.toNat-1]? with
 | some p=>decide (c.value=zia .and .i64 p.feat c.mask)
 | none=>false)
theorem ylj (inv:List Phon) (n:Int) (c:Cls) (hl:inv.length<2^62):zam Tryz.prog 204 [.agg [invD inv],int n,.agg c.row] (.bool (zkt inv n c)):=by
 refine zaa mixed Tryz.func204 rfl call_204 ?_
 simp +decide [Tryz.f204,int,Cls.row]
 refine zac (by rfl) (by rfl) (zt8 inv n) (by simp) ?_
 by_cases hs:zds inv n=true
 ·have hs':=hs
  simp only [zds,Bool.and_eq_true,decide_eq_true_eq] at hs';have hlt:n.toNat-1<inv.length:=by omega
  have e1:inv[n.toNat-1]?=some inv[n.toNat-1]:=List.getElem?_eq_getElem hlt
  have e2:¬ n<1:=by omega
  simp +decide [invD,hs,hlt,e1,Phon.row,int,I64,zkt];omega
 ·simp +decide [hs,zkt]
end Go.V
namespace Go.V
open Go Go.Proofs
def Ent.zero:Ent:=⟨0,[],0,[],0,[],[],[]⟩
def getE (l:List Ent) (id:Int):Ent×Bool:=match l.find? (·.id=id) with
 | some e=>(e,true)
 | none=>(Ent.zero,false)
theorem yfe {l:List Ent} {id:Int} {k:Nat} (h:k<l.length) (hp : ∀ e∈l.take k,e.id≠id) (he:l[k].id=id):l.find? (·.id=id)=some l[k]:=by
 rw [List.find?_eq_some_iff_getElem]
 refine ⟨by simpa using he,k,h,rfl,fun j hj=>?_⟩
 have:=hp l[j] (by rw [List.mem_take_iff_getElem];exact ⟨j,by omega,rfl⟩)
 simpa using this
theorem yak {l:List Ent} {id:Int} (hp : ∀ e∈l,e.id≠id):l.find? (·.id=id)=none:=by
 rw [List.find?_eq_none];intro e he;simpa using hp e he
theorem zqc (l:List Ent) (id:Int) (hl:l.length<2^62):zam Tryz.prog 146 [lexD l,int id] (.tup [.agg (getE l id).1.row,.bool (getE l id).2]):=by
 refine zaa mixed Tryz.func146 rfl call_146 ?_
 simp [Tryz.f146,lexD,int,Value.oneCell']
 refine zad mixed (fun k:Nat=>{n:=25,next:=1,slots:=[(0,.d (lexD l)),(1,.d (int id)),(4,.bp 0 0),(8,.d (.int .i64 l.length)),(9,.d (.int .i64 k))],own:=[(0,.box 108 [.d (int 0),.nils,.d (int 0),.nils,.d (int 0),.nils,.nils,.nils])]})
  (fun k=>k≤l.length∧∀ e∈l.take k,e.id≠id) (fun k=>l.length-k) 0 (by simp) (by simp [lexD,int]) ?_
 intro k ⟨hk,hp⟩
 by_cases hlt:k<l.length
 ·have e1:l[k]?=some l[k]:=List.getElem?_eq_getElem hlt
  simp +decide [lexD,Ent.row,int,e1,hlt,I64];refine ⟨fun h=>?_,fun h=>⟨by omega,k+1,⟨hlt,zdu hlt hp h⟩,by omega,by omega⟩⟩
  simp [getE,yfe hlt hp h,int]
 ·have:k=l.length:=by omega
  subst this;simp +decide [lexD,int];simp [getE,yak (by simpa using hp),Ent.zero,Ent.row,int,ints,zbh,zbp,lnkD,rfD]
end Go.V
namespace Go.V
open Go Go.Proofs
theorem z7l (a b:List Prt) (hb:b.length<2^62):zam Tryz.prog 74 [anaD a,anaD b] (.bool (decide (a=b))):=by
 refine zaa mixed Tryz.func74 rfl call_74 ?_
 simp [Tryz.f74,anaD]
 refine zaj.pure (by rfl) (z7k a b hb) (by simp) ?_
 simp
def ze9 (l:List Rule):Bool:=l.any fun r=>decide (0∈r.dst)
theorem yal {α:Type} {p:α→Bool} {l:List α} {k:Nat} (h:k<l.length) (hp:p l[k]=true):l.any p=true:=List.any_eq_true.2 ⟨_,List.getElem_mem h,hp⟩
theorem z7m (l:List Rule) (hl:l.length<2^62) (hs : ∀ r∈l,r.dst.length<2^62):zam Tryz.prog 158 [zbj l] (.bool (ze9 l)):=by
 refine zaa mixed Tryz.func158 rfl call_158 ?_
 simp [Tryz.f158,zbj]
 refine zad mixed (fun k:Nat=>{n:=15,next:=0,slots:=[(5,.d (zbj l)),(6,.d (.int .i64 l.length)),(7,.d (.int .i64 k))],own:=[]})
  (fun k=>k≤l.length∧∀ r∈l.take k,0∉r.dst) (fun k=>l.length-k) 0 (by simp) (by simp [zbj]) ?_
 intro k ⟨hk,hp⟩
 by_cases hlt:k<l.length
 ·have e1:l[k]?=some l[k]:=List.getElem?_eq_getElem hlt
  simp +decide [zbj,Rule.row,int,e1,hlt,I64,Value.oneCell'];refine zaj.pure (by rfl) (ykf l[k].dst 0 (hs _ (List.getElem_mem hlt))) (by simp) ?_
  simp +decide [zbj,I64];refine ⟨fun h=>?_,fun h=>⟨by omega,k+1,⟨hlt,zdu hlt hp h⟩,by omega,by omega⟩⟩
  exact (yal hlt (by simpa using h))
 ·have:k=l.length:=by omega
  subst this;simp +decide [zbj];simp only [List.take_length] at hp;simp only [ze9,List.any_eq_false];intro r hr;simpa using hp r hr
end Go.V
namespace Go.V
open Go Go.Proofs
def Ent.forms (e:Ent):List (List Int):=e.form::e.alts
end Go.V
namespace Go.V
open Go Go.Proofs
def zh1 (a b:Prt):Bool:=if a.entry=b.entry then (if a.alt=b.alt then decide (a.sense<b.sense) else decide (a.alt<b.alt)) else decide (a.entry<b.entry)
theorem z1h (a b:Prt):zam Tryz.prog 66 [.agg a.row,.agg b.row] (.bool (zh1 a b)):=by
 refine zaa mixed Tryz.func66 rfl call_66 ?_
 simp +decide [Tryz.f66,Prt.row,int,zh1]
 exact ⟨fun h h'=>absurd h' h,fun h=>⟨fun h2=>by rw [if_pos h,if_neg h2],fun h2=>by rw [if_pos h,if_pos h2]⟩⟩
def zbq:List Prt→List Prt→Bool
 | a::l,b::m=>if a=b then zbq l m else zh1 a b
 | [],_::_=>true
 | _,[]=>false
theorem z7n {a b:List Prt} {k:Nat} (h:k<a.length) (h':k<b.length):zbq (a.drop k) (b.drop k)=if a[k]=b[k] then zbq (a.drop (k+1)) (b.drop (k+1)) else zh1 a[k] b[k]:=by
 rw [List.drop_eq_getElem_cons h,List.drop_eq_getElem_cons h'];rfl
theorem zxz {a b:List Prt} {k:Nat} (h:¬(k<a.length∧k<b.length)) (hk:k≤a.length∧k≤b.length):zbq (a.drop k) (b.drop k)=decide (a.length<b.length):=by
 by_cases h1:k<b.length
 ·have:k=a.length:=by omega
  subst this;rw [List.drop_length,List.drop_eq_getElem_cons h1];simp [zbq,h1]
 ·have:k=b.length:=by omega
  subst this;rw [List.drop_length];have:¬ a.length<b.length:=by omega
  cases a.drop b.length <;> simp [zbq,this]
theorem yam {a b:Prt}:a=b↔a.entry=b.entry∧a.alt=b.alt∧a.sense=b.sense:=by
 cases a;cases b;simp
theorem zma (a b:List Prt) (ha:a.length<2^62) (hb:b.length<2^62):zam Tryz.prog 47 [anaD a,anaD b] (.bool (zbq a b)):=by
 refine zaa mixed Tryz.func47 rfl call_47 ?_
 simp [Tryz.f47,anaD,zab]
 refine zad mixed (fun k:Nat=>{n:=49,next:=2,slots:=[(2,.bp 0 0),(3,.bp 1 0),(5,.d (.int .i64 k))],own:=[(1,.box 31 [.d (zab b)]),(0,.box 31 [.d (zab a)])]})
  (fun k=>k≤a.length∧k≤b.length∧zbq a b=zbq (a.drop k) (b.drop k)) (fun k=>a.length-k) 0 (by simp) (by simp [zab]) ?_
 intro k ⟨hk,hk',hp⟩
 by_cases hlt:k<a.length
 ·by_cases hlt':k<b.length
  ·have e1:a[k]?=some a[k]:=List.getElem?_eq_getElem hlt
   have e2:b[k]?=some b[k]:=List.getElem?_eq_getElem hlt'
   rw [z7n hlt hlt'] at hp;simp +decide [zab,Prt.row,int,e1,e2,hlt,hlt',I64];refine ⟨fun h=>?_,fun h1 h2 h3=>⟨by omega,k+1,⟨hlt,hlt',?_⟩,by omega,by omega⟩⟩
   ·refine zac (by rfl) (by rfl) (z1h a[k] b[k]) (by simp) ?_
    have hne:¬ a[k]=b[k]:=fun e=>by rw [yam] at e;obtain ⟨q1,q2,q3⟩:=e;simp [q1,q2,q3] at h
    simp +decide [hp,if_neg hne]
   ·rw [hp,if_pos (yam.2 ⟨h1,h2,h3⟩)]
  ·rw [zxz (fun h=>hlt' h.2) ⟨hk,hk'⟩] at hp
   simp +decide [zab,hlt,hlt',hp]
 ·rw [zxz (fun h=>hlt h.1) ⟨hk,hk'⟩] at hp
  simp +decide [zab,hlt,hp]
end Go.V
namespace Go.V
open Go Go.Proofs
theorem z1i {a b:Prt} (h:zh1 a b=false) (h':zh1 b a=false):a=b:=by
 rw [yam]
 unfold zh1 at h h'
 by_cases e1:a.entry=b.entry
 ·rw [if_pos e1] at h;rw [if_pos e1.symm] at h'
  by_cases e2:a.alt=b.alt
  ·rw [if_pos e2] at h;rw [if_pos e2.symm] at h'
   simp at h h'
   exact ⟨e1,e2,by omega⟩
  ·rw [if_neg e2] at h;rw [if_neg (fun e=>e2 e.symm)] at h'
   simp at h h';omega
 ·rw [if_neg e1] at h;rw [if_neg (fun e=>e1 e.symm)] at h'
  simp at h h';omega
theorem zo1 : ∀ (a:List Prt),zbq a a=false
 | []=>rfl
 | a::l=>by simp [zbq,zo1 l]
theorem zqy : ∀ {a b:List Prt},zbq a b=false→zbq b a=false→a=b
 | [],[],_,_=>rfl
 | [],_::_,h,_=>by simp [zbq] at h
 | _::_,[],_,h=>by simp [zbq] at h
 | a::l,b::m,h,h'=>by
  simp only [zbq] at h h';by_cases e:a=b
  ·subst e
   simp at h h'
   rw [zqy h h']
  ·rw [if_neg e] at h;rw [if_neg (fun q=>e q.symm)] at h'
   exact absurd (z1i h h') e
theorem z7o (a b:List Prt):(!zbq a b && !zbq b a)=decide (a=b):=by
 by_cases e:a=b
 ·subst e;simp [zo1]
 ·rw [decide_eq_false e]
  cases h:zbq a b <;> cases h':zbq b a <;> simp
  exact e (zqy h h')
theorem zqz (a b:List Prt) (ha:a.length<2^62) (hb:b.length<2^62):zam Tryz.prog 25 [anaD a,anaD b] (.bool (decide (a=b))):=by
 refine zaa mixed Tryz.func25 rfl call_25 ?_
 rw [← z7o]
 simp [Tryz.f25,anaD]
 refine zaj.pure (by rfl) (zma a b ha hb) (by simp) ?_
 cases h:zbq a b
 ·simp
  refine zaj.pure (by rfl) (zma b a hb ha) (by simp) ?_
  simp
 ·simp
end Go.V
namespace Go.V
open Go Go.Proofs
theorem z7p (g:Lang) (hl:g.rules.length<2^62) (hs : ∀ r∈g.rules,r.dst.length<2^62):zam Tryz.prog 132 [g.d] (.bool (ze9 g.rules)):=by
 refine zaa mixed Tryz.func132 rfl call_132 ?_
 simp [Tryz.f132,Lang.d,zbj,int]
 refine zad mixed (fun k:Nat=>{n:=18,next:=1,slots:=[(1,.bp 0 0),(3,.d (.int .i64 k))],own:=[(0,.box 56 [.d (invD g.inv),.d (.str g.orth.name),.d (za8 g.orth.units),.d (zdr g.orth.letters),.d (zbj g.rules),.d (int g.net.states),.d (stepsD g.net.steps),.d (ints g.net.final),.d (lexD g.lex)])]})
  (fun k=>k≤g.rules.length∧∀ r∈g.rules.take k,0∉r.dst) (fun k=>g.rules.length-k) 0 (by simp) (by simp [zbj,int]) ?_
 intro k ⟨hk,hp⟩
 by_cases hlt:k<g.rules.length
 ·have e1:g.rules[k]?=some g.rules[k]:=List.getElem?_eq_getElem hlt
  simp +decide [zbj,Rule.row,int,e1,hlt,I64,Value.oneCell'];refine zaj.pure (by rfl) (zqv g.rules[k].dst 0 (hs _ (List.getElem_mem hlt))) (by simp) ?_
  simp +decide [zbj,int,I64];refine ⟨fun h=>?_,fun h=>⟨by omega,k+1,⟨hlt,zdu hlt hp h⟩,by omega,by omega⟩⟩
  exact (yal hlt (by simpa using h))
 ·have:k=g.rules.length:=by omega
  subst this;simp +decide [zbj];simp only [List.take_length] at hp;simp only [ze9,List.any_eq_false];intro r hr;simpa using hp r hr
end Go.V
namespace Go.V
open Go Go.Proofs
structure Dec where
 ref:Rf
 yes:Bool
 pick:List Prt
 deriving DecidableEq
def Dec.row (d:Dec):List D:=[int d.ref.rcd,int d.ref.note,.bool d.yes,zab d.pick]
def za6 (l:List Dec):D:=.sl (l.map Dec.row)
def refD (r:Rf):D:=.agg r.row
theorem zv2 (look:Nat→Option Obj') : ∀ (l:List D),zh9 look (l.map .d)=some (l,false)
 | []=>rfl
 | d::r=>by simp only [List.map_cons,zh9,lend,zv2 look r];rfl
end Go.V
namespace Go.V
open Go Go.Proofs
def zcp (d x:Dec):Bool:=d.yes&&(x.yes&&decide (d.ref=x.ref))
theorem zp0 {a b:Rf}:a=b↔a.rcd=b.rcd∧a.note=b.note:=by cases a;cases b;simp
def z1j (a b:Dec):Bool:=if a.ref.rcd=b.ref.rcd then (if a.ref.note=b.ref.note then zbq a.pick b.pick else decide (a.ref.note<b.ref.note)) else decide (a.ref.rcd<b.ref.rcd)
def Dec.fit (d:Dec):Prop:=d.pick.length<2^62
theorem yan (a b:Dec) (ha:a.fit) (hb:b.fit):zam Tryz.prog 42 [.agg a.row,.agg b.row] (.bool (z1j a b)):=by
 refine zaa mixed Tryz.func42 rfl call_42 ?_
 simp +decide [Tryz.f42,Dec.row,int,z1j]
 refine ⟨fun h h'=>absurd h' h,fun h=>⟨fun h2=>?_,fun h2=>?_⟩⟩
 ·rw [if_pos h,if_neg h2]
 ·refine zaj.pure (by rfl) (zma a.pick b.pick ha hb) (by simp) ?_
  simp [if_pos h,if_pos h2]
def isId (n:Int):Bool:=decide (1≤n)&&decide (n≤1099511627776)
theorem ziv (n:Int):zam Tryz.prog 41 [int n] (.bool (isId n)):=by
 refine zaa mixed Tryz.func41 rfl call_41 ?_
 simp +decide [Tryz.f41,int,isId]
 omega
def idxI {α:Type} (p:α→Bool) (l:List α):Int:=match l.findIdx? p with
 | some k=>k
 | none=>-1
theorem z5c {α:Type} {p:α→Bool} {l:List α} {k:Nat} (h:k<l.length) (hp : ∀ e∈l.take k,p e=false) (he:p l[k]=true):l.findIdx? p=some k:=by
 rw [List.findIdx?_eq_some_iff_getElem]
 refine ⟨h,he,fun j hj=>?_⟩
 have:=hp l[j] (by rw [List.mem_take_iff_getElem];exact ⟨j,by omega,rfl⟩)
 simpa using this
theorem zq0 {α:Type} {p:α→Bool} {l:List α} (hp : ∀ e∈l,p e=false):l.findIdx? p=none:=by
 rw [List.findIdx?_eq_none_iff];exact hp
theorem yao (l:List Dec) (hl:l.length<2^62) (f:Nat) (caps:List D) (p:Dec→Bool) (hf : ∀ x∈l,zam Tryz.prog f (.agg x.row::caps) (.bool (p x))) :
  zam Tryz.prog 65 [za6 l,.fn f caps] (int (idxI p l)):=by
 refine zaa mixed Tryz.func65 rfl call_65 ?_
 simp [Tryz.f65,za6]
 refine zad mixed (fun k:Nat=>{n:=19,next:=0,slots:=[(0,.d (za6 l)),(1,.d (.fn f caps)),(6,.d (za6 l)),(7,.d (.int .i64 l.length)),(8,.d (.int .i64 k))],own:=[]})
  (fun k=>k≤l.length∧∀ e∈l.take k,p e=false) (fun k=>l.length-k) 0 (by simp) (by simp [za6]) ?_
 intro k ⟨hk,hp⟩
 by_cases hlt:k<l.length
 ·have e1:l[k]?=some l[k]:=List.getElem?_eq_getElem hlt
  simp +decide [za6,Dec.row,int,e1,hlt,I64];refine zaj.pure (lent:=false) (by simp [zdo,zv2];rfl) (hf l[k] (List.getElem_mem hlt)) (by simp) ?_
  simp +decide [za6,I64];refine ⟨fun h=>?_,fun h=>⟨by omega,k+1,⟨hlt,zdu hlt hp h⟩,by omega,by omega⟩⟩
  simp [idxI,z5c hlt hp h,int]
 ·have:k=l.length:=by omega
  subst this;simp +decide [za6,int];simp [idxI,zq0 (by simpa using hp)]
theorem yff {α:Type} (p:α→Bool) (l:List α):decide (0≤idxI p l)=l.any p:=by
 unfold idxI
 cases h:l.findIdx? p with
 | none=>
  rw [List.findIdx?_eq_none_iff] at h;have:l.any p=false:=by rw [List.any_eq_false];intro x hx;rw [h x hx];simp
  rw [this];rfl
 | some k=>
  rw [List.findIdx?_eq_some_iff_getElem] at h;obtain ⟨h1,h2,_⟩:=h;rw [List.any_eq_true.2 ⟨_,List.getElem_mem h1,h2⟩];simp
theorem zx0 (l:List Dec) (hl:l.length<2^62) (f:Nat) (caps:List D) (p:Dec→Bool) (hf : ∀ x∈l,zam Tryz.prog f (.agg x.row::caps) (.bool (p x))) :
  zam Tryz.prog 61 [za6 l,.fn f caps] (.bool (l.any p)):=by
 refine zaa mixed Tryz.func61 rfl call_61 ?_
 simp [Tryz.f61,za6]
 refine zaj.pure (by rfl) (yao l hl f caps p hf) (by simp) ?_
 simp [int,← yff]
end Go.V
namespace Go.V
open Go Go.Proofs
def zeh (l:List Dec) (k:Nat):Option Int:=match l[k]? with
 | none=>none
 | some d=>if isId d.ref.rcd=true then (if isId d.ref.note=true then (if d.pick.length=0 then some 4 else if d.pick.length>4 then some 11
   else if (decide (0<k)&&match l[k-1]? with | some c=>!z1j c d | none=>false)=true then some 10
   else if (l.take k).any (zcp d)=true then some 8 else none) else some 2) else some 2
def zt9 (l:List Dec):Int:=((List.range l.length).findSome? (zeh l)).getD 0
theorem zns {l:List Dec} {k:Nat} {e:Int} (h:k<l.length) (hp : ∀ j,j<k→zeh l j=none) (he:zeh l k=some e):zt9 l=e:=by
 unfold zt9
 have:(List.range l.length).findSome? (zeh l)=some e:=by
  rw [List.findSome?_eq_some_iff];refine ⟨List.range k,k,(List.range' (k+1) (l.length-(k+1))),?_,he,fun a ha=>hp a (List.mem_range.1 ha)⟩
  obtain ⟨m,hm⟩ : ∃ m,l.length=k+(1+m):=⟨l.length-(k+1),by omega⟩
  have hm':l.length-(k+1)=m:=by omega
  rw [hm',hm,List.range_eq_range',List.range_eq_range',← List.range'_append,← List.range'_append];simp
 rw [this];rfl
theorem z1k {l:List Dec} (hp : ∀ j,j<l.length→zeh l j=none):zt9 l=0:=by
 unfold zt9
 have:(List.range l.length).findSome? (zeh l)=none:=by
  rw [List.findSome?_eq_none_iff];intro a ha;exact hp a (List.mem_range.1 ha)
 rw [this];rfl
theorem zua {p:Nat→Prop} {k:Nat} (h : ∀ j,j<k→p j) (hk:p k) : ∀ j,j<k+1→p j:=by
 intro j hj
 rcases Nat.lt_or_ge j k with h1 | h1
 ·exact h j h1
 ·have:j=k:=by omega
  subst this;exact hk
def zx1 (l:List Dec):Prop:=∀ d∈l,d.fit
theorem z1l (l:List Dec) (hl:l.length<2^62) (hf:zx1 l):zam Tryz.prog 16 [za6 l] (int (zt9 l)):=by
 refine zaa mixed Tryz.func16 rfl call_16 ?_
 simp [Tryz.f16,za6]
 refine zad mixed (fun k:Nat=>{n:=74,next:=0,slots:=[(0,.d (za6 l)),(6,.d (za6 l)),(7,.d (.int .i64 l.length)),(8,.d (.int .i64 k))],own:=[]})
  (fun k=>k≤l.length∧∀ j,j<k→zeh l j=none) (fun k=>l.length-k) 0 (by simp) (by simp [za6]) ?_
 intro k ⟨hk,hp⟩
 by_cases hlt:k<l.length
 ·have e1:l[k]?=some l[k]:=List.getElem?_eq_getElem hlt
  have hit:=fun e=>zns (e:=e) hlt hp
  simp only [zeh,e1] at hit;have hfd:l[k].fit:=hf _ (List.getElem_mem hlt)
  have hll : ∀ e∈l,e.row.length=4:=fun e _=>rfl
  simp +decide [za6,Dec.row,int,e1,hlt,I64];refine zaj.pure (by rfl) (ziv l[k].ref.rcd) (by simp) ?_
  cases h1:isId l[k].ref.rcd
  ·simp +decide [int,hit 2 (by simp [h1])]
  simp +decide [int];refine zaj.pure (by rfl) (ziv l[k].ref.note) (by simp) ?_
  cases h2:isId l[k].ref.note
  ·simp +decide [int,hit 2 (by simp [h1,h2])]
  simp +decide [int,zab];by_cases h3:l[k].pick=[]
  ·simp +decide [h3,hit 4 (by simp [h1,h2,h3])]
  simp +decide [h3];by_cases h4:l[k].pick.length>4
  ·have h4i:(4:Int)<(l[k].pick.length:Int):=by omega
   have h4j:¬(l[k].pick.length:Int)≤4:=by omega
   simp +decide [h4i,h4j,hit 11 (by simp [h1,h2,h3,h4])]
  have h4i:¬(4:Int)<(l[k].pick.length:Int):=by omega
  have h4j:(l[k].pick.length:Int)≤4:=by omega
  simp +decide [h4i,h4j];by_cases hk0:0<k
  ·have hj:k-1<l.length:=by omega
   have e0:l[k-1]?=some l[k-1]:=List.getElem?_eq_getElem hj
   have hjf:l[k-1].fit:=hf _ (List.getElem_mem hj)
   have hk1:¬ k=0:=by omega
   simp +decide [e0,I64,Dec.row,hk0,hk1];refine ⟨by omega,by omega,zac (by rfl) (by rfl) (yan l[k-1] l[k] hjf hfd) (by simp) ?_⟩
   cases h5:z1j l[k-1] l[k]
   ·simp +decide [int,hit 10 (by simp [h1,h2,h3,h4,e0,h5,hk0])]
   simp +decide [int];have hpre:(decide (0<k)&&match l[k-1]? with | some c=>!z1j c l[k] | none=>false)=false:=by simp [e0,h5]
   refine zad mixed (fun m:Nat=>{n:=74,next:=1,slots:=[(0,.d (za6 l)),(3,.d (.int .i64 k)),(4,.bp 0 0),(5,.d (.int .i64 m)),(6,.d (za6 l)),(7,.d (.int .i64 l.length)),(8,.d (.int .i64 k))],own:=[(0,.box 33 [.d (int l[k].ref.rcd),.d (int l[k].ref.note),.d (.bool l[k].yes),.d (zab l[k].pick)])]})
    (fun m=>m≤k∧∀ e∈l.take m,zcp l[k] e=false) (fun m=>k-m) 0 (by simp) (by simp [za6,int,zab]) ?_
   intro m ⟨hm,hq⟩;by_cases hmk:m<k
   ·have hml:m<l.length:=by omega
    have e2:l[m]?=some l[m]:=List.getElem?_eq_getElem hml
    have hany:zcp l[k] l[m]=true→zeh l k=some 8:=by
     intro h;have:(l.take k).any (zcp l[k])=true:=List.any_eq_true.2 ⟨l[m],by rw [List.mem_take_iff_getElem];exact ⟨m,by omega,rfl⟩,h⟩
     simp [zeh,e1,h1,h2,h3,h4,hpre,this]
    have hgo:zcp l[k] l[m]=false→∀ e∈l.take (m+1),zcp l[k] e=false:=fun h=>zdu hml hq h
    cases y1:l[k].yes
    ·simp +decide [e2,hmk,hml,Dec.row,int,I64,za6,zab,y1]
     exact ⟨by omega,m+1,⟨hmk,hgo (by simp [zcp,y1])⟩,by omega,by omega⟩
    ·cases y2:l[m].yes
     ·simp +decide [e2,hmk,hml,Dec.row,int,I64,za6,zab,y1,y2]
      exact ⟨by omega,m+1,⟨hmk,hgo (by simp [zcp,y2])⟩,by omega,by omega⟩
     ·simp +decide [e2,hmk,hml,Dec.row,int,I64,za6,zab,y1,y2]
      refine ⟨fun g1 g2=>(zns hlt hp (hany (by simp [zcp,y1,y2,zp0,g1,g2]))).symm,fun g=>⟨by omega,m+1,⟨hmk,hgo ?_⟩,by omega,by omega⟩⟩
      simp [zcp,y1,y2,zp0];exact fun e3 e4=>g e3.symm e4.symm
   ·have:m=k:=by omega
    subst this;have hno:(l.take m).any (zcp l[m])=false:=by rw [List.any_eq_false];intro x hx;rw [hq x hx];simp
    simp +decide [int,I64,za6,zab];refine ⟨by omega,m+1,⟨hlt,zua hp ?_⟩,by omega,by omega⟩
    simp [zeh,e1,h1,h2,h3,h4,hpre,hno]
  ·have hk1:k=0:=by omega
   simp +decide [hk0,hk1];have hpre:(decide (0<k)&&match l[k-1]? with | some c=>!z1j c l[k] | none=>false)=false:=by simp [hk0]
   refine zad mixed (fun m:Nat=>{n:=74,next:=1,slots:=[(0,.d (za6 l)),(3,.d (.int .i64 k)),(4,.bp 0 0),(5,.d (.int .i64 m)),(6,.d (za6 l)),(7,.d (.int .i64 l.length)),(8,.d (.int .i64 k))],own:=[(0,.box 33 [.d (int l[k].ref.rcd),.d (int l[k].ref.note),.d (.bool l[k].yes),.d (zab l[k].pick)])]})
    (fun m=>m≤k∧∀ e∈l.take m,zcp l[k] e=false) (fun m=>k-m) 0 (by simp) (by simp [za6,int,zab,hk1]) ?_
   intro m ⟨hm,hq⟩;by_cases hmk:m<k
   ·have hml:m<l.length:=by omega
    have e2:l[m]?=some l[m]:=List.getElem?_eq_getElem hml
    have hany:zcp l[k] l[m]=true→zeh l k=some 8:=by
     intro h;have:(l.take k).any (zcp l[k])=true:=List.any_eq_true.2 ⟨l[m],by rw [List.mem_take_iff_getElem];exact ⟨m,by omega,rfl⟩,h⟩
     simp [zeh,e1,h1,h2,h3,h4,hpre,this]
    have hgo:zcp l[k] l[m]=false→∀ e∈l.take (m+1),zcp l[k] e=false:=fun h=>zdu hml hq h
    cases y1:l[k].yes
    ·simp +decide [e2,hmk,hml,Dec.row,int,I64,za6,zab,y1]
     exact ⟨by omega,m+1,⟨hmk,hgo (by simp [zcp,y1])⟩,by omega,by omega⟩
    ·cases y2:l[m].yes
     ·simp +decide [e2,hmk,hml,Dec.row,int,I64,za6,zab,y1,y2]
      exact ⟨by omega,m+1,⟨hmk,hgo (by simp [zcp,y2])⟩,by omega,by omega⟩
     ·simp +decide [e2,hmk,hml,Dec.row,int,I64,za6,zab,y1,y2]
      refine ⟨fun g1 g2=>(zns hlt hp (hany (by simp [zcp,y1,y2,zp0,g1,g2]))).symm,fun g=>⟨by omega,m+1,⟨hmk,hgo ?_⟩,by omega,by omega⟩⟩
      simp [zcp,y1,y2,zp0];exact fun e3 e4=>g e3.symm e4.symm
   ·have:m=k:=by omega
    subst this;have hno:(l.take m).any (zcp l[m])=false:=by rw [List.any_eq_false];intro x hx;rw [hq x hx];simp
    simp +decide [int,I64,za6,zab];refine ⟨by omega,m+1,⟨hlt,zua hp ?_⟩,by omega,by omega⟩
    simp [zeh,e1,h1,h2,h3,h4,hpre,hno]
 ·have:k=l.length:=by omega
  subst this;simp +decide [za6,int];rw [z1k (by simpa using hp)]
end Go.V
namespace Go.V
open Go Go.Proofs
def fewL (l:List Dec):Bool:=decide (l.length≤40)&&l.all fun d=>decide (d.pick.length≤10)
theorem ykg (l:List Dec):zam Tryz.prog 13 [za6 l] (.bool (fewL l)):=by
 refine zaa mixed Tryz.func13 rfl call_13 ?_
 simp [Tryz.f13,za6,int]
 refine zad mixed (fun k:Nat=>{n:=25,next:=0,slots:=[(0,.d (za6 l)),(3,.d (.int .i64 k))],own:=[]})
  (fun k=>k≤l.length∧k≤41∧∀ d∈l.take k,d.pick.length≤10) (fun k=>l.length-k) 0 (by simp) (by simp [za6,int]) ?_
 intro k ⟨hk,hk2,hp⟩
 by_cases hlt:k<l.length
 ·have e1:l[k]?=some l[k]:=List.getElem?_eq_getElem hlt
  by_cases h41:k<41
  ·have h41':(k:Int)<41:=by omega
   have h41'':¬ 41≤(k:Int):=by omega
   by_cases h10:l[k].pick.length≤10
   ·have g1:¬(10:Int)<l[k].pick.length:=by omega
    have g2:(l[k].pick.length:Int)≤10:=by omega
    simp +decide [za6,zab,Dec.row,int,e1,hlt,I64,h41',h41'',g1,g2];exact ⟨by omega,k+1,⟨hlt,by omega,zdu hlt hp h10⟩,by omega,by omega⟩
   ·have g1:(10:Int)<l[k].pick.length:=by omega
    have g2:¬(l[k].pick.length:Int)≤10:=by omega
    simp +decide [za6,zab,Dec.row,int,e1,hlt,I64,h41',h41'',g1,g2];simp only [fewL];rw [Bool.and_eq_false_iff];right
    rw [List.all_eq_false];exact ⟨l[k],List.getElem_mem hlt,by simpa using h10⟩
  ·have h41':¬(k:Int)<41:=by omega
   have h41'':41≤(k:Int):=by omega
   have g3:¬(l.length:Int)≤40:=by omega
   have g4:¬ l.length≤40:=by omega
   simp +decide [za6,zab,hlt,h41',h41'',g3,fewL,g4]
 ·have:k=l.length:=by omega
  subst this;rw [List.take_length] at hp;have ha:(l.all fun d=>decide (d.pick.length≤10))=true:=by rw [List.all_eq_true];intro d hd;simpa using hp d hd
  simp +decide [za6,int,fewL,ha];omega
def zq1 (l:List Dec):Bool:=fewL l&&decide (zt9 l=0)
theorem zq2 {l:List Dec} (h:fewL l=true):l.length<2^62∧zx1 l:=by
 simp only [fewL,Bool.and_eq_true,decide_eq_true_eq,List.all_eq_true] at h
 exact ⟨by omega,fun d hd=>by have:=h.2 d hd;unfold Dec.fit;omega⟩
theorem yfg (l:List Dec):zam Tryz.prog 17 [za6 l] (.bool (zq1 l)):=by
 refine zaa mixed Tryz.func17 rfl call_17 ?_
 simp [Tryz.f17,za6]
 refine zaj.pure (by rfl) (ykg l) (by simp) ?_
 cases h:fewL l
 ·simp [zq1,h]
 ·obtain ⟨h1,h2⟩:=zq2 h
  simp
  refine zaj.pure (by rfl) (z1l l h1 h2) (by simp) ?_
  simp +decide [zq1,h,int]
end Go.V
namespace Go.V
open Go Go.Proofs
@[simp] theorem yka (d:Dec):d.row.length=4:=rfl
def zb7 (l:List Dec) (r:Rf):List Prt×Bool:=match l.find? (fun d=>decide (d.ref=r)&&d.yes) with
 | some d=>(d.pick,true)
 | none=>([],false)
theorem z5d {α:Type} {p:α→Bool} {l:List α} {k:Nat} (h:k<l.length) (hp : ∀ e∈l.take k,p e=false) (he:p l[k]=true):l.find? p=some l[k]:=by
 rw [List.find?_eq_some_iff_getElem]
 refine ⟨he,k,h,rfl,fun j hj=>?_⟩
 have:=hp l[j] (by rw [List.mem_take_iff_getElem];exact ⟨j,by omega,rfl⟩)
 simpa using this
theorem zx2 {α:Type} {p:α→Bool} {l:List α} (hp : ∀ e∈l,p e=false):l.find? p=none:=by
 rw [List.find?_eq_none];intro e he;simpa using hp e he
theorem yap (l:List Dec) (r:Rf) (hl:l.length<2^62):zam Tryz.prog 21 [za6 l,refD r] (.tup [anaD (zb7 l r).1,.bool (zb7 l r).2]):=by
 refine zaa mixed Tryz.func21 rfl call_21 ?_
 simp [Tryz.f21,za6,refD,Rf.row,int,Value.oneCell']
 refine zad mixed (fun k:Nat=>{n:=26,next:=2,slots:=[(3,.bp 0 0),(4,.bp 1 0),(8,.d (za6 l)),(9,.d (.int .i64 l.length)),(10,.d (.int .i64 k))],own:=[(0,.box 28 [.d (int r.rcd),.d (int r.note)]),(1,.box 31 [.nils])]})
  (fun k=>k≤l.length∧∀ e∈l.take k,(decide (e.ref=r)&&e.yes)=false) (fun k=>l.length-k) 0 (by simp) (by simp [za6,int]) ?_
 intro k ⟨hk,hp⟩
 by_cases hlt:k<l.length
 ·have e1:l[k]?=some l[k]:=List.getElem?_eq_getElem hlt
  have hgo:(decide (l[k].ref=r)&&l[k].yes)=false→∀ e∈l.take (k+1),(decide (e.ref=r)&&e.yes)=false:=fun h=>zdu hlt hp h
  by_cases g:l[k].ref=r
  ·have g':=zp0.1 g
   cases y:l[k].yes
   ·simp +decide [za6,Dec.row,int,e1,hlt,I64,g'.1,g'.2,y]
    exact ⟨by omega,k+1,⟨hlt,by simpa using hgo (by simp [y])⟩,by omega,by omega⟩
   ·have hh:=z5d hlt hp (by simp [g,y])
    simp +decide [za6,Dec.row,int,e1,hlt,I64,g'.1,g'.2,y,zb7,hh,anaD]
  ·have g':l[k].ref.rcd=r.rcd→¬ l[k].ref.note=r.note:=fun a b=>g (zp0.2 ⟨a,b⟩)
   by_cases g1:l[k].ref.rcd=r.rcd
   ·have g2:=g' g1
    simp +decide [za6,Dec.row,int,e1,hlt,I64,g1,g2];exact ⟨by omega,k+1,⟨hlt,by simpa using hgo (by simp [g])⟩,by omega,by omega⟩
   ·simp +decide [za6,Dec.row,int,e1,hlt,I64,g1]
    exact ⟨by omega,k+1,⟨hlt,by simpa using hgo (by simp [g])⟩,by omega,by omega⟩
 ·have:k=l.length:=by omega
  subst this;rw [List.take_length] at hp;have hh:=zx2 hp;simp +decide [za6,int,zb7,hh,anaD,zab]
theorem zx3 (l:List Dec) (r:Rf) (hl:l.length<2^62):zam Tryz.prog 22 [za6 l,refD r] (.tup [anaD (zb7 l r).1,.bool (zb7 l r).2]):=by
 refine zaa mixed Tryz.func22 rfl call_22 ?_
 simp [Tryz.f22,za6,refD,Rf.row,int,Value.oneCell']
 refine zad mixed (fun k:Nat=>{n:=33,next:=2,slots:=[(0,.d (za6 l)),(3,.bp 0 0),(4,.bp 1 0),(7,.d (za6 l)),(8,.d (.int .i64 l.length)),(9,.d (.int .i64 k))],own:=[(0,.box 28 [.d (int r.rcd),.d (int r.note)]),(1,.box 31 [.nils])]})
  (fun k=>k≤l.length∧∀ e∈l.take k,(decide (e.ref=r)&&e.yes)=false) (fun k=>l.length-k) 0 (by simp) (by simp [za6,int]) ?_
 intro k ⟨hk,hp⟩
 by_cases hlt:k<l.length
 ·have e1:l[k]?=some l[k]:=List.getElem?_eq_getElem hlt
  have hgo:(decide (l[k].ref=r)&&l[k].yes)=false→∀ e∈l.take (k+1),(decide (e.ref=r)&&e.yes)=false:=fun h=>zdu hlt hp h
  by_cases g:l[k].ref=r
  ·have g':=zp0.1 g
   cases y:l[k].yes
   ·simp +decide [za6,Dec.row,int,e1,hlt,I64,g'.1,g'.2,y]
    exact ⟨by omega,k+1,⟨hlt,by simpa using hgo (by simp [y])⟩,by omega,by omega⟩
   ·have hh:=z5d hlt hp (by simp [g,y])
    simp +decide [za6,Dec.row,int,e1,hlt,I64,g'.1,g'.2,y,zb7,hh,anaD]
  ·have g':l[k].ref.rcd=r.rcd→¬ l[k].ref.note=r.note:=fun a b=>g (zp0.2 ⟨a,b⟩)
   by_cases g1:l[k].ref.rcd=r.rcd
   ·have g2:=g' g1
    simp +decide [za6,Dec.row,int,e1,hlt,I64,g1,g2];exact ⟨by omega,k+1,⟨hlt,by simpa using hgo (by simp [g])⟩,by omega,by omega⟩
   ·simp +decide [za6,Dec.row,int,e1,hlt,I64,g1]
    exact ⟨by omega,k+1,⟨hlt,by simpa using hgo (by simp [g])⟩,by omega,by omega⟩
 ·have:k=l.length:=by omega
  subst this;rw [List.take_length] at hp;have hh:=zx2 hp;simp +decide [za6,int,zb7,hh,anaD,zab]
theorem zh2 {α:Type} {p:α→Bool} {l:List α} {k:Nat} (h:k<l.length):(l.take (k+1)).filter p=(l.take k).filter p++(if p l[k]=true then [l[k]] else []):=by
 rw [take_snoc h,List.filter_append]
 congr 1
 simp [List.filter_cons]
theorem z7q {α:Type} (p:α→Bool) (l:List α) (k:Nat):((l.take k).filter p).length≤l.length:=by
 have h1:=List.length_filter_le p (l.take k)
 have h2:=List.length_take_le k l
 simp only [List.length_take] at h1
 omega
end Go.V
namespace Go.V
open Go Go.Proofs
theorem zv3 {α:Type} {l:List α} {i:Nat} (v:α) (h:i<l.length):(l.set i v).take (i+1)=l.take i++[v]:=by
 have hl:i<(l.set i v).length:=by simpa using h
 rw [take_snoc hl,List.getElem_set_self]
 congr 1
 apply List.ext_getElem?
 intro j
 simp only [List.getElem?_take,List.getElem?_set]
 by_cases hj:j<i
 ·rw [if_pos hj,if_pos hj,if_neg (by omega)]
 ·rw [if_neg hj,if_neg hj]
theorem z1m {α:Type} {l:List α} {i j:Nat} (v:α) (h:i<j):(l.set i v).drop j=l.drop j:=by
 apply List.ext_getElem?
 intro k
 simp only [List.getElem?_drop,List.getElem?_set]
 rw [if_neg (by omega)]
end Go.V
